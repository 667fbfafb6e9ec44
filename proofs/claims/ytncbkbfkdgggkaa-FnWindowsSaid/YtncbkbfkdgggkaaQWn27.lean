/- FnWindows: the decays' factors beside powers of a number: told in Rat. FnWindows: a decay's sum beside the sum told in Rat. A decay at a time in the reference's text. -/
import Derived.Test.YtncbkbfkdgggkaaQWn19
import Derived.Test.YtncbkbfkdgggkaaQWn20
import Derived.Test.YtncbkbfkdgggkaaQWn21
import Derived.Test.YtncbkbfkdgggkaaQWn22
import Derived.Test.YtncbkbfkdgggkaaQWn23
import Derived.Test.YtncbkbfkdgggkaaQWn24
import Derived.Test.YtncbkbfkdgggkaaQWn25
import Derived.Test.YtncbkbfkdgggkaaQWn26
import Derived.Test.YtncbkbfkdgggkaaQWn2
import Derived.Test.YtncbkbfkdgggkaaQWn18
namespace Go.Proofs.Ytncbkbfkdgggkaa
open Go.RowKit

def exP (v d : Nat) : Rat := ((exN v ^ d : Int) : Rat) * tp (-((40 * d : Nat) : Int))
theorem exP_add (v a b : Nat) : exP v (a + b) = exP v a * exP v b := by
  unfold exP
  have e : (-((40 * (a + b) : Nat) : Int)) = -((40 * a : Nat) : Int) + -((40 * b : Nat) : Int) := by omega
  rw [e, tp_add, Int.pow_add, Rat.intCast_mul]
  grind
theorem exP_0 (v : Nat) : exP v 0 = 1 := by unfold exP; rw [Int.pow_zero]; decide +kernel
theorem exB_all {v d : Nat} (hv : v < 16) (hd : d < 168) : exB v d = true := by
  have key : ∀ f : Nat → Bool, (List.range 168).all f = true → f d = true := fun f h => List.all_eq_true.1 h d (List.mem_range.2 hd)
  rcases (show v = 0 ∨ v = 1 ∨ v = 2 ∨ v = 3 ∨ v = 4 ∨ v = 5 ∨ v = 6 ∨ v = 7 ∨ v = 8 ∨ v = 9 ∨ v = 10 ∨ v = 11 ∨ v = 12 ∨ v = 13 ∨ v = 14 ∨ v = 15 by omega) with rfl | rfl | rfl | rfl | rfl | rfl | rfl | rfl | rfl | rfl | rfl | rfl | rfl | rfl | rfl | rfl
  · exact key _ exB_0
  · exact key _ exB_1
  · exact key _ exB_2
  · exact key _ exB_3
  · exact key _ exB_4
  · exact key _ exB_5
  · exact key _ exB_6
  · exact key _ exB_7
  · exact key _ exB_8
  · exact key _ exB_9
  · exact key _ exB_10
  · exact key _ exB_11
  · exact key _ exB_12
  · exact key _ exB_13
  · exact key _ exB_14
  · exact key _ exB_15
/-- The factor of d steps. -/
structure ExOk (v d : Nat) : Prop where
  e : (expQ (d : Int) (halfF v)).bind expO = some (exF v d)
  N : isN .f32 (exF v d)
  n0 : 0 ≤ val .f32 (exF v d)
  lo : exP v d - tp (-24) ≤ val .f32 (exF v d)
  hi : val .f32 (exF v d) ≤ exP v d + tp (-24)
theorem tpi (n : Nat) : (((2 : Int) ^ n : Int) : Rat) = tp (n : Int) := by
  rw [tp_nat]
  have : (2 : Int) ^ n = ((2 ^ n : Nat) : Int) := by simp
  rw [this]; rfl
theorem ex_ok {v d : Nat} (hv : v < 16) (hd : d < 168) : ExOk v d := by
  have h := exB_all hv hd
  unfold exB at h
  simp only [Bool.and_eq_true, decide_eq_true_eq] at h
  obtain ⟨⟨⟨⟨⟨h1, h2⟩, h3⟩, h4⟩, h5⟩, h6⟩ := h
  have hN : isN .f32 (exF v d) := isN_of h2
  have hval : val .f32 (exF v d) = (((datQ (exF v d)).1 : Int) : Rat) * tp (datQ (exF v d)).2 := by
    obtain ⟨s, m, e, hdc⟩ := hN
    unfold datQ val
    rw [hdc]
    show sg s * ((m : Rat) * tp e) = _
    cases s with
    | true =>
      show sg true * ((m : Rat) * tp e) = ((-(m : Int) : Int) : Rat) * tp e
      rw [Rat.intCast_neg]
      have : sg true = -1 := rfl
      rw [this]; show _ = -(m : Rat) * tp e; grind
    | false =>
      have : sg false = 1 := rfl
      rw [this, Rat.one_mul]; rfl
  refine ⟨?_, hN, ?_, ?_, ?_⟩
  · obtain ⟨x, hx⟩ := Option.isSome_iff_exists.1 h1
    unfold exF
    rw [hx]; rfl
  all_goals
    rw [hval]
    generalize (datQ (exF v d)).1 = m at *
    generalize (datQ (exF v d)).2 = e at *
    obtain ⟨n0, rfl⟩ : ∃ n0 : Nat, e = -(n0 : Int) := ⟨(-e).toNat, by omega⟩
    rw [Int.neg_neg, Int.toNat_natCast] at h5 h6
  · exact Rat.mul_nonneg (Rat.intCast_nonneg.2 h3) (Rat.le_of_lt (tp_pos _))
  all_goals
    unfold exP
    have g5 := Rat.intCast_le_intCast.2 h5
    have g6 := Rat.intCast_le_intCast.2 h6
    rw [Rat.intCast_mul, Rat.intCast_mul, Rat.intCast_add, Rat.intCast_mul, tpi, tpi, tpi, tpi] at g5
    rw [Rat.intCast_mul, Rat.intCast_mul, Rat.intCast_sub, Rat.intCast_mul, tpi, tpi, tpi, tpi] at g6
    have p1 : tp ((40 * d + 24 : Nat) : Int) = tp ((40 * d : Nat) : Int) * tp ((24 : Nat) : Int) := by rw [← tp_add]; congr 1
    have p2 : tp ((40 * d : Nat) : Int) * tp (-((40 * d : Nat) : Int)) = 1 := by rw [← tp_add, Int.add_right_neg]; exact tp_zero
    have p3 : tp ((24 : Nat) : Int) * tp (-24) = 1 := by rw [← tp_add]; exact tp_zero
    have p4 : tp (n0 : Int) * tp (-(n0 : Int)) = 1 := by rw [← tp_add, Int.add_right_neg]; exact tp_zero
    rw [p1] at g5 g6
    have hc : 0 ≤ tp (-((40 * d : Nat) : Int)) * tp (-24) * tp (-(n0 : Int)) := Rat.le_of_lt (Rat.mul_pos (Rat.mul_pos (tp_pos _) (tp_pos _)) (tp_pos _))
    have k5 := Rat.mul_le_mul_of_nonneg_right g5 hc
    have k6 := Rat.mul_le_mul_of_nonneg_right g6 hc
    generalize ((m : Int) : Rat) = M at *
    generalize ((exN v ^ d : Int) : Rat) = X at *
    generalize tp ((40 * d : Nat) : Int) = A at *
    generalize tp (-((40 * d : Nat) : Int)) = A' at *
    generalize tp ((24 : Nat) : Int) = B at *
    generalize tp (-24) = B' at *
    generalize tp (n0 : Int) = C at *
    generalize tp (-(n0 : Int)) = C' at *
    have q1 : M * (A * B) * (A' * B' * C') = M * C' := by grind
  · have q3 : (X * B - A) * C * (A' * B' * C') = X * A' - B' := by grind
    rw [q1, q3] at k6
    exact k6
  · have q2 : (X * B + A) * C * (A' * B' * C') = X * A' + B' := by grind
    rw [q1, q2] at k5
    exact k5

end Go.Proofs.Ytncbkbfkdgggkaa

namespace Go.Proofs.Ytncbkbfkdgggkaa
open Go.RowKit

theorem exP_1 {v : Nat} (hv : v < 16) : 0 ≤ exP v 1 ∧ exP v 1 ≤ 1 := by
  rcases (show v = 0 ∨ v = 1 ∨ v = 2 ∨ v = 3 ∨ v = 4 ∨ v = 5 ∨ v = 6 ∨ v = 7 ∨ v = 8 ∨ v = 9 ∨ v = 10 ∨ v = 11 ∨ v = 12 ∨ v = 13 ∨ v = 14 ∨ v = 15 by omega) with rfl | rfl | rfl | rfl | rfl | rfl | rfl | rfl | rfl | rfl | rfl | rfl | rfl | rfl | rfl | rfl <;> decide +kernel
theorem exP_bd {v : Nat} (hv : v < 16) : ∀ d, 0 ≤ exP v d ∧ exP v d ≤ 1
  | 0 => by rw [exP_0]; decide +kernel
  | d + 1 => by
    obtain ⟨h1, h2⟩ := exP_bd hv d
    obtain ⟨g1, g2⟩ := exP_1 hv
    rw [exP_add]
    refine ⟨Rat.mul_nonneg h1 g1, ?_⟩
    have := Rat.mul_le_mul_of_nonneg_right h2 g1
    grind
/-- A sum beside the true one. -/
structure Apx (S : Nat) (T E : Rat) : Prop where
  N : isN .f32 S
  n0 : 0 ≤ val .f32 S
  t0 : 0 ≤ T
  t1 : T ≤ 120
  lo : T - E ≤ val .f32 S
  hi : val .f32 S ≤ T + E
theorem at_apx {v d S : Nat} {T E : Rat} (hv : v < 16) (hd : d < 168) (h : Apx S T E) (hE : E ≤ 1) (hE0 : 0 ≤ E) :
    fbin .mul .f32 (some S) (some (exF v d)) = some (fo3 .mul S (exF v d)) ∧ Apx (fo3 .mul S (exF v d)) (T * exP v d) (E + 1 / 40000) := by
  obtain ⟨N, n0, t0, t1, lo, hi⟩ := h
  have X := ex_ok hv hd
  obtain ⟨p0, p1⟩ := exP_bd hv d
  have xn := X.n0
  have xl := X.lo
  have xh := X.hi
  have e24 : tp (-24) = 1 / 16777216 := by decide +kernel
  rw [e24] at xl xh
  have XN := X.N
  generalize hs : val .f32 S = s at *
  generalize hx : val .f32 (exF v d) = x at *
  generalize exP v d = p at *
  have hsx0 : 0 ≤ s * x := Rat.mul_nonneg n0 xn
  have m1 := Rat.mul_le_mul_of_nonneg_right (show s ≤ 121 by grind) xn
  have hsx1 : s * x ≤ 128 := by grind
  obtain ⟨r, e, rN, hr⟩ := mul_RN (k := .f32) N XN (inT3_1024 (by rw [hs, hx]; grind) (by rw [hs, hx]; grind))
  have ef : fo3 .mul S (exF v d) = r := by unfold fo3; rw [e]; rfl
  rw [hs, hx] at hr
  have hn := hr.n128 (by grind) (by grind)
  have hr0 := hr.dn 0 (rep_zero _) hsx0
  rw [ef]
  -- s x - T p = (s - T) p + s (x - p)
  have q1 := Rat.mul_le_mul_of_nonneg_right (show s - T ≤ E by grind) p0
  have q2 := Rat.mul_le_mul_of_nonneg_right (show T - s ≤ E by grind) p0
  have q3 := Rat.mul_le_mul_of_nonneg_left (show x - p ≤ 1 / 16777216 by grind) n0
  have q4' := Rat.mul_le_mul_of_nonneg_left (show p - x ≤ 1 / 16777216 by grind) n0
  have q5 := Rat.mul_le_mul_of_nonneg_left p1 hE0
  have hTp := Rat.mul_nonneg t0 p0
  have hTp1 := Rat.mul_le_mul_of_nonneg_left p1 t0
  exact ⟨e, rN, hr0, hTp, by grind, by grind, by grind⟩

theorem add_apx {S x : Nat} {T E : Rat} (h : Apx S T E) (hx : isN .f32 x) (hx0 : 0 ≤ val .f32 x) (ht : T + val .f32 x ≤ 120) (hE : E ≤ 1) (hE0 : 0 ≤ E) :
    fbin .add .f32 (some S) (some x) = some (fo3 .add S x) ∧ Apx (fo3 .add S x) (T + val .f32 x) (E + 1 / 40000) := by
  obtain ⟨N, n0, t0, t1, lo, hi⟩ := h
  have a := fo3_add N hx (by grind) (by grind)
  have hn := a.2.2.n128 (by grind) (by grind)
  have hr0 := a.2.2.dn 0 (rep_zero _) (by grind)
  exact ⟨a.1, a.2.1, hr0, by grind, ht, by grind, by grind⟩
/-- Two sums are one. -/
theorem join_apx {S S2 : Nat} {T T2 E E2 : Rat} (h : Apx S T E) (h2 : Apx S2 T2 E2) (ht : T + T2 ≤ 120) (hE : E + E2 ≤ 1) (hE0 : 0 ≤ E + E2) :
    fbin .add .f32 (some S) (some S2) = some (fo3 .add S S2) ∧ Apx (fo3 .add S S2) (T + T2) (E + E2 + 1 / 40000) := by
  obtain ⟨N, n0, t0, t1, lo, hi⟩ := h
  obtain ⟨M, m0, s0, s1, lo2, hi2⟩ := h2
  have a := fo3_add N M (by grind) (by grind)
  have hn := a.2.2.n128 (by grind) (by grind)
  have hr0 := a.2.2.dn 0 (rep_zero _) (by grind)
  exact ⟨a.1, a.2.1, hr0, by grind, ht, by grind, by grind⟩

end Go.Proofs.Ytncbkbfkdgggkaa

namespace Go.Proofs.Ytncbkbfkdgggkaa
open Go.RowKit
attribute [local go_sem ↓] Go.wp_at_zero Go.wp_at_succ

end Go.Proofs.Ytncbkbfkdgggkaa
