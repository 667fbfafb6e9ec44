/- Small dyadic numbers are exact in single precision; sums with signs, products, roots of squares: plain. Roots of sums of squares, nearly; relative errors in single precision: plain. The norm of a shrunk vector that has one number only: nearly: plain. -/
import Derived.Test.YtfclkbppmkjkeaaQFq39
import Derived.Test.YtfclkbppmkjkeaaQFq10
import Derived.Test.YtfclkbppmkjkeaaQFq3
import Derived.Test.YtfclkbppmkjkeaaQFq4
namespace Go.Proofs.Ytfclkbppmkjkeaa
open Go.RowKit

theorem cn_isN {k : FloatKind} {b : Nat} (h : isN k b) : cn k b = some b := by
  obtain ⟨s, m, e, hd⟩ := h
  unfold cn
  rw [hd]
  rfl
theorem finIsN {k : FloatKind} {b : Nat} (h : isN k b) : fin k (some b) = true := by
  obtain ⟨s, m, e, hd⟩ := h
  unfold fin
  simp only [hd]
  rfl

/-- b is n / 2^s. -/
structure Dy (s : Nat) (b : Nat) (n : Int) : Prop where
  N : isN .f32 b
  v : val .f32 b = (n : Rat) * tp (-(s : Int))
theorem dy_rep {s : Nat} {n : Int} (h : n.natAbs ≤ 16777216) (hs : s ≤ 149) : Rep .f32 ((n : Rat) * tp (-(s : Int))) :=
  ⟨n, -(s : Int), by show n.natAbs ≤ 2 ^ 24; omega, by show (-149 : Int) ≤ _; omega, rfl⟩
theorem tp_cancel (s : Nat) : ((2 ^ s : Nat) : Rat) * tp (-(s : Int)) = 1 := by
  rw [← tp_nat, ← tp_add, show (s : Int) + -(s : Int) = 0 by omega, tp_zero]
theorem dy_bd {s : Nat} {n : Int} {M : Nat} (h : n.natAbs ≤ M * 2 ^ s) : -(M : Rat) ≤ (n : Rat) * tp (-(s : Int)) ∧ (n : Rat) * tp (-(s : Int)) ≤ (M : Rat) := by
  have hp := Rat.le_of_lt (tp_pos (-(s : Int)))
  have hc := tp_cancel s
  have e : ((M * 2 ^ s : Nat) : Rat) = (M : Rat) * ((2 ^ s : Nat) : Rat) := Rat.natCast_mul _ _
  have hM : ((M * 2 ^ s : Nat) : Rat) * tp (-(s : Int)) = (M : Rat) := by rw [e, Rat.mul_assoc, hc, Rat.mul_one]
  have h1 : (n : Rat) ≤ (((M * 2 ^ s : Nat) : Int) : Rat) := Rat.intCast_le_intCast.2 (by omega)
  have h2 : (((-((M * 2 ^ s : Nat) : Int)) : Int) : Rat) ≤ (n : Rat) := Rat.intCast_le_intCast.2 (by omega)
  rw [Rat.intCast_natCast] at h1
  rw [Rat.intCast_neg, Rat.intCast_natCast] at h2
  have g1 := Rat.mul_le_mul_of_nonneg_right h1 hp
  have g2 := Rat.mul_le_mul_of_nonneg_right h2 hp
  rw [hM] at g1
  rw [Rat.neg_mul, hM] at g2
  exact ⟨g2, g1⟩
theorem dy_add {s a b : Nat} {m n : Int} (ha : Dy s a m) (hb : Dy s b n) (hs : s ≤ 149) (h1 : (m + n).natAbs ≤ 1024 * 2 ^ s) (h2 : (m + n).natAbs ≤ 16777216) :
    fbin .add .f32 (some a) (some b) = some (fo3 .add a b) ∧ Dy s (fo3 .add a b) (m + n) := by
  have e : val .f32 a + val .f32 b = ((m + n : Int) : Rat) * tp (-(s : Int)) := by rw [ha.v, hb.v, Rat.intCast_add]; grind
  obtain ⟨g1, g2⟩ := dy_bd (M := 1024) h1
  have c : ((1024 : Nat) : Rat) = 1024 := rfl
  rw [c, ← e] at g1 g2
  have r := fo3_add ha.N hb.N g1 g2
  rw [e] at r
  exact ⟨r.1, r.2.1, r.2.2.exact (dy_rep h2 hs)⟩
theorem dy_mul {s t a b : Nat} {m n : Int} (ha : Dy s a m) (hb : Dy t b n) (hs : s + t ≤ 149) (h1 : (m * n).natAbs ≤ 1024 * 2 ^ (s + t)) (h2 : (m * n).natAbs ≤ 16777216) :
    fbin .mul .f32 (some a) (some b) = some (fo3 .mul a b) ∧ Dy (s + t) (fo3 .mul a b) (m * n) := by
  have e : val .f32 a * val .f32 b = ((m * n : Int) : Rat) * tp (-((s + t : Nat) : Int)) := by
    rw [ha.v, hb.v, Rat.intCast_mul, show -((s + t : Nat) : Int) = -(s : Int) + -(t : Int) by omega, tp_add]
    grind
  obtain ⟨g1, g2⟩ := dy_bd (M := 1024) h1
  have c : ((1024 : Nat) : Rat) = 1024 := rfl
  rw [c, ← e] at g1 g2
  have r := fo3_mul ha.N hb.N g1 g2
  rw [e] at r
  exact ⟨r.1, r.2.1, r.2.2.exact (dy_rep h2 hs)⟩
/-- A quotient that is exact. -/
theorem dy_quo {s a b : Nat} {m n : Int} (ha : Dy s a (m * n)) (hb : Dy 0 b n) (hn : n ≠ 0) (hs : s ≤ 149) (h1 : m.natAbs ≤ 512 * 2 ^ s) (h2 : m.natAbs ≤ 16777216) :
    fbin .quo .f32 (some a) (some b) = some (fo3 .quo a b) ∧ Dy s (fo3 .quo a b) m := by
  have t0 : tp (-((0 : Nat) : Int)) = 1 := by rw [show -((0 : Nat) : Int) = 0 by omega, tp_zero]
  have vb : val .f32 b = (n : Rat) := by rw [hb.v, t0, Rat.mul_one]
  have hn0 : (n : Rat) ≠ 0 := fun e => hn (Rat.intCast_inj.1 (by rw [e]; rfl))
  have e : (m : Rat) * tp (-(s : Int)) * val .f32 b = val .f32 a := by rw [ha.v, vb, Rat.intCast_mul]; grind
  obtain ⟨g1, g2⟩ := dy_bd (M := 512) h1
  have c : ((512 : Nat) : Rat) = 512 := rfl
  rw [c] at g1 g2
  have r := fo3_quo ha.N hb.N (by rw [vb]; exact hn0) e g1 g2
  exact ⟨r.1, r.2.1, r.2.2.exact (dy_rep h2 hs)⟩
/-- A quotient by four. -/
def cFour : Nat := 1082130432
theorem n_four : isN .f32 cFour := isN_of (by decide +kernel)
theorem v_four : val .f32 cFour = 4 := by decide +kernel
theorem dy_quo4 {a : Nat} {n : Int} (ha : Dy 0 a n) (h : n.natAbs ≤ 2048) : fbin .quo .f32 (some a) (some cFour) = some (fo3 .quo a cFour) ∧ Dy 2 (fo3 .quo a cFour) n := by
  have t0 : tp (-((0 : Nat) : Int)) = 1 := by rw [show -((0 : Nat) : Int) = 0 by omega, tp_zero]
  have t2 : tp (-((2 : Nat) : Int)) * 4 = 1 := by decide +kernel
  have e : (n : Rat) * tp (-((2 : Nat) : Int)) * val .f32 cFour = val .f32 a := by rw [ha.v, v_four, t0, Rat.mul_assoc, t2]
  obtain ⟨g1, g2⟩ := dy_bd (s := 2) (n := n) (M := 512) (by omega)
  have c : ((512 : Nat) : Rat) = 512 := rfl
  rw [c] at g1 g2
  have r := fo3_quo ha.N n_four (by rw [v_four]; decide) e g1 g2
  exact ⟨r.1, r.2.1, r.2.2.exact (dy_rep (by omega) (by omega))⟩
theorem dy_int {z : Int} (h : z.natAbs ≤ 16777216) : Dy 0 (floatOfInt .f32 z) z := by
  obtain ⟨h1, h2⟩ := fY_ok h
  have t0 : tp (-((0 : Nat) : Int)) = 1 := by rw [show -((0 : Nat) : Int) = 0 by omega, tp_zero]
  exact ⟨h1, by rw [t0, Rat.mul_one]; exact h2⟩
theorem dy_zero (s : Nat) : Dy s 0 0 := ⟨v32_0.1, by rw [v32_0.2, show ((0 : Int) : Rat) = 0 from rfl, Rat.zero_mul]⟩
theorem dy_inj {s b : Nat} {m n : Int} (h : Dy s b m) (g : Dy s b n) : m = n := by
  have e := h.v.symm.trans g.v
  exact Rat.intCast_inj.1 (by
    have h1 := congrArg (· * ((2 ^ s : Nat) : Rat)) e
    simp only [Rat.mul_assoc] at h1
    rw [Rat.mul_comm (tp _), tp_cancel, Rat.mul_one, Rat.mul_one] at h1
    exact h1)

/-- A list of such numbers. -/
structure DyL (s : Nat) (xs : List Nat) (zs : List Int) : Prop where
  len : xs.length = zs.length
  at' : ∀ i, i < xs.length → Dy s (xs[i]?.getD 0) (at0 zs i)
theorem DyL.get {s : Nat} {xs : List Nat} {zs : List Int} (h : DyL s xs zs) {i : Nat} (hi : i < xs.length) : Dy s xs[i] (at0 zs i) := by
  have := h.at' i hi
  rwa [List.getElem?_eq_getElem hi, Option.getD_some] at this
theorem DyL.nums {s : Nat} {xs : List Nat} {zs : List Int} (h : DyL s xs zs) : ∀ x ∈ xs, isN .f32 x := by
  intro x hx
  obtain ⟨i, hi, rfl⟩ := List.getElem_of_mem hx
  exact (h.get hi).N
theorem DyL.fins {s : Nat} {xs : List Nat} {zs : List Int} (h : DyL s xs zs) : fins xs = true := fins_of h.nums
theorem DyL.vec {s : Nat} {xs : List Nat} {zs : List Int} (h : DyL s xs zs) (h1 : 1 ≤ xs.length) (h2 : xs.length ≤ 32) : isVec xs = true := by
  unfold isVec
  rw [h.fins, decide_eq_true h1, decide_eq_true h2]
  rfl
theorem DyL.snoc {s : Nat} {xs : List Nat} {zs : List Int} (h : DyL s xs zs) {x : Nat} {z : Int} (hx : Dy s x z) : DyL s (xs ++ [x]) (zs ++ [z]) := by
  refine ⟨by simp [h.len], fun i hi => ?_⟩
  rcases Nat.lt_or_ge i xs.length with h1 | h1
  · rw [List.getElem?_append_left h1]
    unfold at0
    rw [List.getElem?_append_left (by rw [← h.len]; exact h1)]
    exact h.at' i h1
  · have e : i = xs.length := by simp at hi; omega
    subst e
    unfold at0
    rw [List.getElem?_append_right (Nat.le_refl _), List.getElem?_append_right (by rw [h.len]; exact Nat.le_refl _), h.len, Nat.sub_self]
    exact hx

/-- The sum with signs. -/
theorem sgn_cases (k s : Int) : sgn k s = 1 ∨ sgn k s = -1 := by unfold sgn; split <;> simp
def rowZ (zs : List Int) (s : Int) : Nat → Int
  | 0 => 0
  | k + 1 => rowZ zs s k + at0 zs k * sgn (k : Int) s
theorem rowZ_bd {zs : List Int} (B : Nat) (h : ∀ i, (at0 zs i).natAbs ≤ B) (s : Int) : ∀ k, (rowZ zs s k).natAbs ≤ B * k
  | 0 => by simp [rowZ]
  | k + 1 => by
    have h1 := rowZ_bd B h s k
    have h2 := h k
    have e : rowZ zs s (k + 1) = rowZ zs s k + at0 zs k * sgn (k : Int) s := rfl
    have h3 : B * (k + 1) = B * k + B := by rw [Nat.mul_add, Nat.mul_one]
    rcases sgn_cases (k : Int) s with g | g <;> rw [e, g] <;> omega
theorem rowK_dy {xs : List Nat} {zs : List Int} (h : DyL 2 xs zs) (hb : ∀ i, (at0 zs i).natAbs ≤ 64) (hn : xs.length ≤ 32) (s : Int) : ∀ k, k ≤ xs.length → ∃ b, rowK xs s k = some b ∧ Dy 2 b (rowZ zs s k)
  | 0, _ => ⟨0, rfl, dy_zero 2⟩
  | k + 1, hk => by
    obtain ⟨b, h1, h2⟩ := rowK_dy h hb hn s k (by omega)
    have hx := h.get (i := k) (by omega)
    have hs : Dy 0 (floatOfInt .f32 (sgn (k : Int) s)) (sgn (k : Int) s) := dy_int (by rcases sgn_cases (k : Int) s with g | g <;> rw [g] <;> decide)
    have hbk := hb k
    have hab : (at0 zs k * sgn (k : Int) s).natAbs ≤ 64 := by rcases sgn_cases (k : Int) s with g | g <;> rw [g] <;> omega
    have hm := dy_mul hx hs (by omega) (by omega) (by omega)
    have hr := rowZ_bd 64 hb s (k + 1)
    have e : rowZ zs s (k + 1) = rowZ zs s k + at0 zs k * sgn (k : Int) s := rfl
    rw [e] at hr
    have ha := dy_add h2 hm.2 (by omega) (by omega) (by omega)
    refine ⟨_, ?_, ha.2⟩
    rw [rowK_succ xs s k (by omega), h1, cn_isN hx.N, cn_isN hs.N, hm.1]
    exact ha.1
theorem rowC_dy {xs : List Nat} {zs : List Int} (h : DyL 2 xs zs) (hb : ∀ i, (at0 zs i).natAbs ≤ 64) (hn : xs.length ≤ 32) (s : Int) : ∃ b, rowC xs s = some b ∧ Dy 2 b (rowZ zs s xs.length) :=
  rowK_dy h hb hn s xs.length (Nat.le_refl _)
/-- The rows of a sketch. -/
theorem skB_dy {xs : List Nat} {zs : List Int} (h : DyL 2 xs zs) (hb : ∀ i, (at0 zs i).natAbs ≤ 64) (h1 : 1 ≤ xs.length) (h2 : xs.length ≤ 32) {ss : List Int} (hs : saltsB ss = true) : skB xs ss = true := by
  unfold skB skOk
  rw [h.vec h1 h2, hs]
  simp only [Bool.and_self, Bool.true_and]
  unfold finM rowsM
  rw [List.all_map, List.all_eq_true]
  intro s _
  obtain ⟨b, e, d⟩ := rowC_dy h hb h2 s
  show fin .f32 (rowC xs s) = true
  rw [e]
  exact finIsN d.N
theorem skR_length {xs : List Nat} {ss : List Int} (h : skB xs ss = true) : (skR xs ss).length = ss.length := by simp [skR, h, rowsM]
theorem skR_get {xs : List Nat} {ss : List Int} (h : skB xs ss = true) {i : Nat} (hi : i < ss.length) : (skR xs ss)[i]?.getD 0 = (rowC xs ss[i]).getD 0 := by
  simp [skR, h, rowsM, hi]
theorem skR_dy {xs : List Nat} {zs : List Int} (h : DyL 2 xs zs) (hb : ∀ i, (at0 zs i).natAbs ≤ 64) (h1 : 1 ≤ xs.length) (h2 : xs.length ≤ 32) {ss : List Int} (hs : saltsB ss = true) : DyL 2 (skR xs ss) (ss.map fun s => rowZ zs s xs.length) := by
  have hB := skB_dy h hb h1 h2 hs
  refine ⟨by rw [skR_length hB, List.length_map], fun i hi => ?_⟩
  rw [skR_length hB] at hi
  obtain ⟨b, e, d⟩ := rowC_dy h hb h2 ss[i]
  rw [skR_get hB hi, e, Option.getD_some]
  unfold at0
  rw [List.getElem?_map, List.getElem?_eq_getElem hi]
  exact d

/-- The sum of squares. -/
def sqZ (zs : List Int) : Nat → Int
  | 0 => 0
  | k + 1 => sqZ zs k + at0 zs k * at0 zs k
theorem sqBd {z : Int} {B : Nat} (h : z.natAbs ≤ B) : 0 ≤ z * z ∧ z * z ≤ (B * B : Nat) := by
  have e : z * z = ((z.natAbs * z.natAbs : Nat) : Int) := by rw [Int.natCast_mul]; exact (Int.natAbs_mul_self' z).symm
  rw [e]
  exact ⟨Int.natCast_nonneg _, Int.ofNat_le.2 (Nat.mul_le_mul h h)⟩
theorem sqZ_bd {zs : List Int} {B : Nat} (h : ∀ i, (at0 zs i).natAbs ≤ B) : ∀ k, 0 ≤ sqZ zs k ∧ sqZ zs k ≤ ((B * B * k : Nat) : Int)
  | 0 => by simp [sqZ]
  | k + 1 => by
    obtain ⟨h1, h2⟩ := sqZ_bd h k
    obtain ⟨h3, h4⟩ := sqBd (h k)
    have e : sqZ zs (k + 1) = sqZ zs k + at0 zs k * at0 zs k := rfl
    have e2 : B * B * (k + 1) = B * B * k + B * B := by rw [Nat.mul_add, Nat.mul_one]
    rw [e, e2]
    generalize at0 zs k * at0 zs k = q at *
    generalize B * B * k = r at *
    generalize B * B = p at *
    omega
theorem dotC_dyK {xs : List Nat} {zs : List Int} (h : DyL 2 xs zs) (hb : ∀ i, (at0 zs i).natAbs ≤ 16) (hn : xs.length ≤ 32) : ∀ k, k ≤ xs.length → ∃ b, dotC (xs.take k) (xs.take k) = some b ∧ Dy 4 b (sqZ zs k)
  | 0, _ => ⟨0, rfl, dy_zero 4⟩
  | k + 1, hk => by
    obtain ⟨b, h1, h2⟩ := dotC_dyK h hb hn k (by omega)
    have hx := h.get (i := k) (by omega)
    obtain ⟨q1, q2⟩ := sqBd (hb k)
    have hm := dy_mul hx hx (by omega) (by omega) (by omega)
    obtain ⟨r1, r2⟩ := sqZ_bd hb (k + 1)
    have e : sqZ zs (k + 1) = sqZ zs k + at0 zs k * at0 zs k := rfl
    rw [e] at r1 r2
    have ha := dy_add h2 hm.2 (by omega) (by omega) (by omega)
    refine ⟨_, ?_, ha.2⟩
    rw [dotC_snoc xs xs k (by omega) (by omega), h1, cn_isN hx.N, hm.1]
    exact ha.1
theorem dotC_dy {xs : List Nat} {zs : List Int} (h : DyL 2 xs zs) (hb : ∀ i, (at0 zs i).natAbs ≤ 16) (hn : xs.length ≤ 32) : ∃ b, dotC xs xs = some b ∧ Dy 4 b (sqZ zs xs.length) := by
  have := dotC_dyK h hb hn xs.length (Nat.le_refl _)
  rwa [List.take_length] at this

/-- The root of n / 16: between two neighbours of the grid of 2^-40. -/
theorem isqrt_ex (n : Nat) : ∃ r : Nat, r * r ≤ n ∧ n < (r + 1) * (r + 1) := by
  induction n with
  | zero => exact ⟨0, by omega, by omega⟩
  | succ n ih =>
    obtain ⟨r, h1, h2⟩ := ih
    by_cases h : n + 1 < (r + 1) * (r + 1)
    · exact ⟨r, by omega, h⟩
    · refine ⟨r + 1, by omega, ?_⟩
      have : (r + 1 + 1) * (r + 1 + 1) = (r + 1) * (r + 1) + 2 * (r + 1) + 1 := by grind
      omega

end Go.Proofs.Ytfclkbppmkjkeaa

namespace Go.Proofs.Ytfclkbppmkjkeaa
open Go.RowKit

theorem rep64_of {n g : Int} (h : n.natAbs ≤ 9007199254740992) (hg : -1074 ≤ g) : Rep .f64 ((n : Rat) * tp g) := ⟨n, g, by show n.natAbs ≤ 2 ^ 53; omega, hg, rfl⟩
theorem tp_sq (g : Int) : tp g * tp g = tp (g + g) := (tp_add g g).symm
theorem inT32_of {x : Rat} (h1 : -1024 ≤ x) (h2 : x ≤ 1024) : inT .f32 x := inT3_1024 h1 h2
theorem tp1000 : (1024 : Rat) ≤ tp 1000 := by
  have : (1024 : Rat) = tp 10 := by decide +kernel
  rw [this]; exact tp_mono (by decide)

/-- The root of a square. -/
theorem root_sq {b : Nat} {k : Int} (h : Dy 4 b (k * k)) (h0 : 0 ≤ k) (h1 : k ≤ 64) : ∃ r, rootC (some b) = some r ∧ Dy 2 r k := by
  obtain ⟨w, e1, n1, v1⟩ := widen_val h.N
  have e4 : tp (-((4 : Nat) : Int)) = tp (-((2 : Nat) : Int)) * tp (-((2 : Nat) : Int)) := by rw [tp_sq]; rfl
  have kr : (0 : Rat) ≤ (k : Rat) := Rat.intCast_le_intCast.2 h0
  have kr2 : (k : Rat) ≤ 64 := Rat.intCast_le_intCast (b := 64).2 h1
  have p2 := Rat.le_of_lt (tp_pos (-((2 : Nat) : Int)))
  have hV0 : 0 ≤ (k : Rat) * tp (-((2 : Nat) : Int)) := Rat.mul_nonneg kr p2
  have hsq : val .f64 w = ((k : Rat) * tp (-((2 : Nat) : Int))) * ((k : Rat) * tp (-((2 : Nat) : Int))) := by
    rw [v1, h.v, e4, Rat.intCast_mul]; grind
  have t2 : tp (-((2 : Nat) : Int)) = 1 / 4 := by decide +kernel
  have hV1 : (k : Rat) * tp (-((2 : Nat) : Int)) ≤ 16 := by rw [t2]; grind
  have hb : val .f64 w ≤ tp 1000 := by
    have h3 := Rat.mul_le_mul_of_nonneg_left hV1 hV0
    have := tp1000
    rw [hsq]; grind
  obtain ⟨r, e2, n2, u, d, _⟩ := sqrt_RN n1 (by rw [hsq]; exact Rat.mul_nonneg hV0 hV0) hb
  have hrep := rep64_of (n := k) (g := -((2 : Nat) : Int)) (by omega) (by decide)
  have er : val .f64 r = (k : Rat) * tp (-((2 : Nat) : Int)) := Rat.le_antisymm (u _ hrep hV0 (by rw [hsq]; exact Rat.le_refl)) (d _ hrep hV0 (by rw [hsq]; exact Rat.le_refl))
  obtain ⟨_, y, e3, n3, rn⟩ := narrow_RN n2 (inT32_of (by rw [er]; grind) (by rw [er]; grind))
  rw [er] at rn
  exact ⟨y, by unfold rootC; rw [e1, e2, e3], n3, rn.exact (dy_rep (by omega) (by omega))⟩

/-- The root of a number up to 256: nearly. -/
theorem root_near {b : Nat} (hb : isN .f32 b) {D : Rat} (hv : val .f32 b = D) (h0 : 0 ≤ D) (h1 : D ≤ 196) : ∃ r, rootC (some b) = some r ∧ isN .f32 r ∧ 0 ≤ val .f32 r ∧ val .f32 r ≤ 15 ∧ ∃ R : Rat, 0 ≤ R ∧ R ≤ 14 ∧ RN .f32 R (val .f32 r) ∧ R * R ≤ D + 1 / 34359738368 ∧ D - 1 / 34359738368 ≤ R * R := by
  obtain ⟨w, e1, n1, v1⟩ := widen_val hb
  rw [hv] at v1
  have hb1 : val .f64 w ≤ tp 1000 := by have := tp1000; rw [v1]; grind
  obtain ⟨r, e2, n2, u, d, _⟩ := sqrt_RN n1 (by rw [v1]; exact h0) hb1
  rw [v1] at u d
  have t0 : tp 0 = 1 := tp_zero
  have r14 : Rep .f64 (((14 : Int) : Rat) * tp 0) := rep64_of (by decide) (by decide)
  have r0 : Rep .f64 (((0 : Int) : Rat) * tp 0) := rep64_of (by decide) (by decide)
  have b14 := u _ r14 (by rw [t0]; decide +kernel) (by rw [t0]; grind)
  have b0 := d _ r0 (by rw [t0]; decide +kernel) (by rw [t0]; grind)
  rw [t0] at b14 b0
  have b14' : val .f64 r ≤ 14 := by grind
  have b0' : 0 ≤ val .f64 r := by grind
  -- the grid
  have hfl : ∃ n : Nat, (n : Rat) ≤ D * tp 80 ∧ D * tp 80 < (n : Rat) + 1 := by
    have hp : 0 ≤ D * tp 80 := Rat.mul_nonneg h0 (Rat.le_of_lt (tp_pos 80))
    have f1 := Rat.floor_le (D * tp 80)
    have f2 := Rat.lt_floor_add_one (D * tp 80)
    have f3 : 0 ≤ (D * tp 80).floor := Rat.le_floor_iff.2 (by rw [show ((0 : Int) : Rat) = 0 from rfl]; exact hp)
    obtain ⟨n, hn⟩ := Int.eq_ofNat_of_zero_le f3
    rw [hn] at f1 f2
    rw [Rat.intCast_add] at f2
    rw [Rat.intCast_natCast] at f1 f2
    exact ⟨n, f1, f2⟩
  obtain ⟨n, hn1, hn2⟩ := hfl
  obtain ⟨N, hN1, hN2⟩ := isqrt_ex n
  have c1 : ((N * N : Nat) : Rat) ≤ (n : Rat) := Rat.natCast_le_natCast.2 hN1
  have c2 : ((n + 1 : Nat) : Rat) ≤ (((N + 1) * (N + 1) : Nat) : Rat) := Rat.natCast_le_natCast.2 (by omega)
  rw [Rat.natCast_mul] at c1 c2
  rw [Rat.natCast_add] at c2
  have t80 : tp 80 * tp (-80) = 1 := by decide +kernel
  have t40 : tp (-40) * tp (-40) = tp (-80) := tp_sq (-40)
  have p80 := Rat.le_of_lt (tp_pos (-80))
  have hN3 : N ≤ 17592186044416 := by
    refine Nat.le_of_not_lt fun hlt => ?_
    have h1' : (17592186044417 * 17592186044417 : Nat) ≤ N * N := Nat.mul_le_mul hlt hlt
    have h2' : ((17592186044417 * 17592186044417 : Nat) : Rat) ≤ ((N * N : Nat) : Rat) := Rat.natCast_le_natCast.2 h1'
    rw [Rat.natCast_mul N N] at h2'
    have h3' : D * tp 80 ≤ 196 * tp 80 := Rat.mul_le_mul_of_nonneg_right h1 (Rat.le_of_lt (tp_pos 80))
    have h4' : 196 * tp 80 < ((17592186044417 * 17592186044417 : Nat) : Rat) := by decide +kernel
    grind
  have rN : Rep .f64 (((N : Int) : Rat) * tp (-40)) := rep64_of (by omega) (by decide)
  have rN1 : Rep .f64 ((((N + 1 : Nat) : Int) : Rat) * tp (-40)) := rep64_of (by omega) (by decide)
  rw [Rat.intCast_natCast] at rN rN1
  have p40 := Rat.le_of_lt (tp_pos (-40))
  have nN : (0 : Rat) ≤ (N : Rat) := Rat.natCast_nonneg
  have eD : D = D * tp 80 * tp (-80) := by rw [Rat.mul_assoc, t80, Rat.mul_one]
  have lo : (N : Rat) * tp (-40) * ((N : Rat) * tp (-40)) ≤ D := by
    have : (N : Rat) * (N : Rat) * tp (-80) ≤ D * tp 80 * tp (-80) := Rat.mul_le_mul_of_nonneg_right (by grind) p80
    rw [← eD] at this
    have e : (N : Rat) * tp (-40) * ((N : Rat) * tp (-40)) = (N : Rat) * (N : Rat) * tp (-80) := by rw [← t40]; grind
    rw [e]; exact this
  have hi : D ≤ ((N + 1 : Nat) : Rat) * tp (-40) * (((N + 1 : Nat) : Rat) * tp (-40)) := by
    have : D * tp 80 * tp (-80) ≤ ((N + 1 : Nat) : Rat) * ((N + 1 : Nat) : Rat) * tp (-80) := Rat.mul_le_mul_of_nonneg_right (by grind) p80
    rw [← eD] at this
    have e : ((N + 1 : Nat) : Rat) * tp (-40) * (((N + 1 : Nat) : Rat) * tp (-40)) = ((N + 1 : Nat) : Rat) * ((N + 1 : Nat) : Rat) * tp (-80) := by rw [← t40]; grind
    rw [e]; exact this
  have g1 := d _ rN (Rat.mul_nonneg nN p40) lo
  have g2 := u _ rN1 (Rat.mul_nonneg Rat.natCast_nonneg p40) hi
  have eN1 : ((N + 1 : Nat) : Rat) = (N : Rat) + 1 := by rw [Rat.natCast_add]; rfl
  rw [eN1] at g2 hi
  have hNr : (N : Rat) ≤ 17592186044416 := Rat.natCast_le_natCast (b := 17592186044416).2 hN3
  -- the squares
  have v40 : tp (-40) = 1 / 1099511627776 := by decide +kernel
  rw [v40] at g1 g2 lo hi
  generalize hR : val .f64 r = R at *
  have q1 : (N : Rat) * (1 / 1099511627776) * ((N : Rat) * (1 / 1099511627776)) ≤ R * R := by
    have a1 := Rat.mul_le_mul_of_nonneg_left g1 b0'
    have a2 := Rat.mul_le_mul_of_nonneg_right g1 (show 0 ≤ (N : Rat) * (1 / 1099511627776) by grind)
    grind
  have q2 : R * R ≤ ((N : Rat) + 1) * (1 / 1099511627776) * (((N : Rat) + 1) * (1 / 1099511627776)) := by
    have a1 := Rat.mul_le_mul_of_nonneg_left g2 b0'
    have a2 := Rat.mul_le_mul_of_nonneg_right g2 (show 0 ≤ ((N : Rat) + 1) * (1 / 1099511627776) by grind)
    grind
  obtain ⟨_, y, e3, n3, rn⟩ := narrow_RN n2 (inT32_of (by rw [hR]; grind) (by rw [hR]; grind))
  rw [hR] at rn
  have n4 := rn.near32 (by grind) (by grind)
  have y0 := rn.dn 0 (rep_zero _) b0'
  exact ⟨y, by unfold rootC; rw [e1, e2, e3], n3, y0, by grind, R, b0', b14', rn, by grind, by grind⟩

/-- The norm of a vector of quarters: nearly. -/
theorem norm_near {xs : List Nat} {zs : List Int} (h : DyL 2 xs zs) (hb : ∀ i, (at0 zs i).natAbs ≤ 16) (h1 : 1 ≤ xs.length) (h2 : xs.length ≤ 12) :
    ∃ b r, dotC xs xs = some b ∧ isN .f32 b ∧ 0 ≤ val .f32 b ∧ val .f32 b ≤ 192 ∧ rootC (some b) = some r ∧ isN .f32 r ∧ 0 ≤ val .f32 r ∧ val .f32 r ≤ 15 ∧ val .f32 b - 1 / 10000 ≤ val .f32 r * val .f32 r ∧ val .f32 r * val .f32 r ≤ val .f32 b + 1 / 10000 := by
  obtain ⟨b, e, d⟩ := dotC_dy h hb (by omega)
  obtain ⟨s1, s2⟩ := sqZ_bd hb xs.length
  have t4 : tp (-((4 : Nat) : Int)) = 1 / 16 := by decide +kernel
  have hv := d.v
  rw [t4] at hv
  have g1 : (0 : Rat) ≤ (sqZ zs xs.length : Rat) := Rat.intCast_le_intCast (a := 0).2 s1
  have g2 : (sqZ zs xs.length : Rat) ≤ 3072 := Rat.intCast_le_intCast (b := 3072).2 (by omega)
  obtain ⟨r, e2, n2, r0, r15, R, R0, R14, rn, u1, u2⟩ := root_near d.N hv (by grind) (by grind)
  have nr := rn.near32 (by grind) (by grind)
  refine ⟨b, r, e, d.N, by rw [hv]; grind, by rw [hv]; grind, e2, n2, r0, r15, ?_, ?_⟩
  · rw [hv]
    have a1 := Rat.mul_le_mul_of_nonneg_left (show R ≤ val .f32 r + 1 / 524288 by grind) R0
    have a2 := Rat.mul_le_mul_of_nonneg_right (show R ≤ val .f32 r + 1 / 524288 by grind) (show 0 ≤ val .f32 r + 1 / 524288 by grind)
    grind
  · rw [hv]
    have a1 := Rat.mul_le_mul_of_nonneg_left nr.2 r0
    have a2 := Rat.mul_le_mul_of_nonneg_right nr.2 (show 0 ≤ R + 1 / 524288 by grind)
    grind

/-! ### Relative errors -/
theorem binade_ex {x : Rat} : ∀ (m : Nat), tp (-60) ≤ x → x < tp (-60 + m) → ∃ e : Int, -60 ≤ e ∧ tp e ≤ x ∧ x < tp (e + 1)
  | 0, h1, h2 => by
    rw [show (-60 : Int) + ((0 : Nat) : Int) = -60 by omega] at h2
    exact absurd h2 (by grind)
  | m + 1, h1, h2 => by
    by_cases h : x < tp (-60 + m)
    · exact binade_ex m h1 h
    · exact ⟨-60 + m, by omega, by grind, by rw [show (-60 : Int) + (m : Int) + 1 = -60 + ((m + 1 : Nat) : Int) by omega]; exact h2⟩
theorem tp_m22 : tp (-22) = 1 / 4194304 := by decide +kernel
theorem RN.rel32 {x y : Rat} (h : RN .f32 x y) (h1 : 1 / 1048576 ≤ x) (h2 : x ≤ 1024) : x * (1 - 1 / 4194304) ≤ y ∧ y ≤ x * (1 + 1 / 4194304) := by
  have hm : tp (-60) ≤ 1 / 1048576 := by decide +kernel
  have hM : (1024 : Rat) < tp (-60 + (80 : Nat)) := by decide +kernel
  obtain ⟨e, e1, e2, e3⟩ := binade_ex 80 (show tp (-60) ≤ x by grind) (by grind)
  have hs : ((2 ^ fB .f32 : Nat) : Rat) * tp (e - 22) = tp (e + 1) := by
    rw [p23, show e + 1 = 23 + (e - 22) by omega, tp_add 23]
    have : tp 23 = 8388608 := by decide +kernel
    rw [this]
  have hpos := tp_pos (e + 1)
  have hn := h.near (g := e - 22) (by show (-149 : Int) ≤ _; omega) (by rw [hs]; grind) (by rw [hs]; grind)
  have he : tp (e - 22) = tp e * (1 / 4194304) := by rw [show e - 22 = e + -22 by omega, tp_add, tp_m22]
  rw [he] at hn
  constructor <;> grind

end Go.Proofs.Ytfclkbppmkjkeaa

namespace Go.Proofs.Ytfclkbppmkjkeaa
open Go.RowKit

theorem sq_le_of {a b : Rat} (h0 : 0 ≤ a) (h : a ≤ b) : a * a ≤ b * b := by
  have h1 := Rat.mul_le_mul_of_nonneg_left h h0
  have h2 := Rat.mul_le_mul_of_nonneg_right h (show 0 ≤ b by grind)
  grind
theorem le_of_sq {a b : Rat} (h0 : 0 ≤ b) (h : a * a ≤ b * b) : a ≤ b := by
  refine Rat.not_lt.1 fun hlt => ?_
  have h1 := Rat.mul_lt_mul_of_pos_left hlt (show 0 < a by grind)
  have h2 := Rat.mul_le_mul_of_nonneg_right (show b ≤ a by grind) h0
  grind

/-- 1 / root (L). -/
theorem by_near {L : Nat} (h1 : 1 ≤ L) (h2 : L ≤ 16) : ∃ b, byC L = some b ∧ isN .f32 b ∧ 1 / 6 ≤ val .f32 b ∧ val .f32 b ≤ 21 / 20 ∧ 1 - 3 / 1000000 ≤ val .f32 b * val .f32 b * (L : Rat) ∧ val .f32 b * val .f32 b * (L : Rat) ≤ 1 + 3 / 1000000 := by
  obtain ⟨i1, i2⟩ := fY_ok (z := (L : Int)) (by omega)
  rw [Rat.intCast_natCast] at i2
  have hL1 : (1 : Rat) ≤ (L : Rat) := Rat.natCast_le_natCast (a := 1).2 h1
  have hL2 : (L : Rat) ≤ 16 := Rat.natCast_le_natCast (b := 16).2 h2
  obtain ⟨r, e2, n2, r0, r15, R, R0, R14, rn, u1, u2⟩ := root_near (b := floatOfInt .f32 (L : Int)) i1 i2 (by grind) (by grind)
  have R1 : 999 / 1000 ≤ R := le_of_sq R0 (by grind)
  have R5 : R ≤ 41 / 10 := le_of_sq (by decide +kernel) (by grind)
  have nr := rn.rel32 (by grind) (by grind)
  generalize hρ : val .f32 r = ρ at *
  have ρ1 : 99 / 100 ≤ ρ := by grind
  have ρ5 : ρ ≤ 42 / 10 := by grind
  obtain ⟨x, hx, _⟩ := div_ex (a := 1) (d := ρ) (by grind)
  have x0 : 0 < x := by
    refine Rat.not_le.1 fun hle => ?_
    have := Rat.mul_le_mul_of_nonneg_right hle (show 0 ≤ ρ by grind)
    grind
  have x2 : x ≤ 102 / 100 := by
    refine Rat.not_lt.1 fun hlt => ?_
    have := Rat.mul_le_mul_of_nonneg_left ρ1 (Rat.le_of_lt x0)
    grind
  have x1 : 1 / 5 ≤ x := by
    refine Rat.not_lt.1 fun hlt => ?_
    have := Rat.mul_le_mul_of_nonneg_left ρ5 (Rat.le_of_lt x0)
    grind
  have a := fo3_quo n_one3 n2 (x := x) (by rw [hρ]; grind) (by rw [hρ, v_one3]; exact hx) (by grind) (by grind)
  have qn := a.2.2.rel32 (by grind) (by grind)
  have eby : byC L = some (fo3 .quo cOne r) := by
    unfold byC
    rw [cn_ofInt, e2]
    exact a.1
  refine ⟨_, eby, a.2.1, ?_⟩
  generalize val .f32 (fo3 .quo cOne r) = q at *
  -- y = x R
  have y1 : x * R * (1 - 1 / 4194304) ≤ 1 := by
    have := Rat.mul_le_mul_of_nonneg_left nr.1 (Rat.le_of_lt x0)
    grind
  have y2 : 1 ≤ x * R * (1 + 1 / 4194304) := by
    have := Rat.mul_le_mul_of_nonneg_left nr.2 (Rat.le_of_lt x0)
    grind
  generalize hy : x * R = y at *
  have y0 : 0 ≤ y := by grind
  have ys1 : y * y ≤ (1 + 3 / 10000000) * (1 + 3 / 10000000) := sq_le_of y0 (by grind)
  have ys2 : (1 - 3 / 10000000) * (1 - 3 / 10000000) ≤ y * y := sq_le_of (by decide +kernel) (by grind)
  have exr : x * x * (R * R) = y * y := by rw [← hy]; grind
  have xx0 : 0 ≤ x * x := Rat.mul_nonneg (Rat.le_of_lt x0) (Rat.le_of_lt x0)
  have xx1 : x * x ≤ 102 / 100 * (102 / 100) := sq_le_of (Rat.le_of_lt x0) x2
  have z1 := Rat.mul_le_mul_of_nonneg_left (show (L : Rat) ≤ R * R + 1 / 34359738368 by grind) xx0
  have z2 := Rat.mul_le_mul_of_nonneg_left (show R * R - 1 / 34359738368 ≤ (L : Rat) by grind) xx0
  have q0 : 0 ≤ q := by grind
  have qs1 : q * q ≤ x * (1 + 1 / 4194304) * (x * (1 + 1 / 4194304)) := sq_le_of q0 qn.2
  have qs2 : x * (1 - 1 / 4194304) * (x * (1 - 1 / 4194304)) ≤ q * q := sq_le_of (by grind) qn.1
  have w1 := Rat.mul_le_mul_of_nonneg_right qs1 (show 0 ≤ (L : Rat) by grind)
  have w2 := Rat.mul_le_mul_of_nonneg_right qs2 (show 0 ≤ (L : Rat) by grind)
  have f1 : x * (1 + 1 / 4194304) * (x * (1 + 1 / 4194304)) * (L : Rat) = x * x * (L : Rat) * ((1 + 1 / 4194304) * (1 + 1 / 4194304)) := by grind
  have f2 : x * (1 - 1 / 4194304) * (x * (1 - 1 / 4194304)) * (L : Rat) = x * x * (L : Rat) * ((1 - 1 / 4194304) * (1 - 1 / 4194304)) := by grind
  rw [f1] at w1
  rw [f2] at w2
  have z3 : x * x * (L : Rat) ≤ 1 + 1 / 1000000 := by grind
  have z4 : 1 - 1 / 1000000 ≤ x * x * (L : Rat) := by grind
  generalize x * x * (L : Rat) = z at *
  refine ⟨by grind, by grind, by grind, by grind⟩

/-- Sums of products. -/
theorem tp_m18 : tp (-18) = 1 / 262144 := by decide +kernel
theorem RN.near32w {x y : Rat} (h : RN .f32 x y) (h1 : -32 ≤ x) (h2 : x ≤ 32) : x - 1 / 262144 ≤ y ∧ y ≤ x + 1 / 262144 := by
  have hs : ((2 ^ fB .f32 : Nat) : Rat) * tp (-18) = 32 := by rw [p23, tp_m18]; decide +kernel
  have := h.near (g := -18) (by decide) (by rw [hs]; exact h1) (by rw [hs]; exact h2)
  rwa [tp_m18] at this
theorem dot_near {es : List Nat} {A B : Rat} (hN : ∀ x ∈ es, isN .f32 x) (hA0 : 0 ≤ A) (hB : (es.length : Rat) * (B + 1 / 262144) ≤ 32)
    (hm : ∀ x ∈ es, fbin .mul .f32 (some x) (some x) = some (fo3 .mul x x) ∧ isN .f32 (fo3 .mul x x) ∧ A ≤ val .f32 (fo3 .mul x x) ∧ val .f32 (fo3 .mul x x) ≤ B) :
    ∀ k, k ≤ es.length → ∃ b, dotC (es.take k) (es.take k) = some b ∧ isN .f32 b ∧ 0 ≤ val .f32 b ∧ (k : Rat) * (A - 1 / 262144) ≤ val .f32 b ∧ val .f32 b ≤ (k : Rat) * (B + 1 / 262144)
  | 0, _ => ⟨0, rfl, v32_0.1, by rw [v32_0.2]; exact Rat.le_refl, by rw [v32_0.2]; grind, by rw [v32_0.2]; grind⟩
  | k + 1, hk => by
    obtain ⟨b, h1, h2, h0, h3, h4⟩ := dot_near hN hA0 hB hm k (by omega)
    have hx := List.getElem_mem (l := es) (n := k) (by omega)
    obtain ⟨m1, m2, m3, m4⟩ := hm _ hx
    have hB0 : 0 ≤ B + 1 / 262144 := by grind
    have hk1 : ((k + 1 : Nat) : Rat) ≤ (es.length : Rat) := Rat.natCast_le_natCast.2 hk
    have hk2 := Rat.mul_le_mul_of_nonneg_right hk1 hB0
    have ek : ((k + 1 : Nat) : Rat) = (k : Rat) + 1 := by rw [Rat.natCast_add]; rfl
    rw [ek] at hk2 ⊢
    have a := fo3_add h2 m2 (by grind) (by grind)
    have n := a.2.2.near32w (by grind) (by grind)
    have p := a.2.2.dn 0 (rep_zero _) (by grind)
    refine ⟨_, ?_, a.2.1, p, by grind, by grind⟩
    rw [dotC_snoc es es k (by omega) (by omega), h1, cn_isN (hN _ hx), m1]
    exact a.1

/-- A number of the shrunk list. -/
theorem shrink_one {x b : Nat} {k e : Int} (hx : Dy 2 x e) (he : e = k ∨ e = -k) (h1 : 1 ≤ k) (h2 : k ≤ 16) (hb : isN .f32 b) (q1 : 1 / 6 ≤ val .f32 b) (q2 : val .f32 b ≤ 21 / 20) :
    ∃ y, shF (some b) x = some y ∧ isN .f32 y ∧ fbin .mul .f32 (some y) (some y) = some (fo3 .mul y y) ∧ isN .f32 (fo3 .mul y y) ∧
      (k : Rat) / 4 * val .f32 b * ((k : Rat) / 4 * val .f32 b) * (1 - 1 / 1000000) ≤ val .f32 (fo3 .mul y y) ∧ val .f32 (fo3 .mul y y) ≤ (k : Rat) / 4 * val .f32 b * ((k : Rat) / 4 * val .f32 b) * (1 + 1 / 1000000) := by
  have t2 : tp (-((2 : Nat) : Int)) = 1 / 4 := by decide +kernel
  have hv := hx.v
  rw [t2] at hv
  have k1 : (1 : Rat) ≤ (k : Rat) := Rat.intCast_le_intCast (a := 1).2 h1
  have k2 : (k : Rat) ≤ 16 := Rat.intCast_le_intCast (b := 16).2 h2
  generalize hq : val .f32 b = q at *
  have p1 := Rat.mul_le_mul_of_nonneg_left q1 (show 0 ≤ (k : Rat) / 4 by grind)
  have p2 := Rat.mul_le_mul_of_nonneg_left q2 (show 0 ≤ (k : Rat) / 4 by grind)
  obtain ⟨p, hp⟩ : ∃ p, (k : Rat) / 4 * q = p := ⟨_, rfl⟩
  rw [hp] at p1 p2 ⊢
  have hxv : val .f32 x * q = p ∨ val .f32 x * q = -p := by
    rcases he with h | h
    · left; rw [hv, h, ← hp]; grind
    · right; rw [hv, h, Rat.intCast_neg, ← hp]; grind
  have a := fo3_mul hx.N hb (by rw [hq]; rcases hxv with h | h <;> rw [h] <;> grind) (by rw [hq]; rcases hxv with h | h <;> rw [h] <;> grind)
  rw [hq] at a
  obtain ⟨y, hy⟩ : ∃ y, fo3 .mul x b = y := ⟨_, rfl⟩
  rw [hy] at a
  -- the square of its value
  have hs : p * (1 - 1 / 4194304) * (p * (1 - 1 / 4194304)) ≤ val .f32 y * val .f32 y ∧ val .f32 y * val .f32 y ≤ p * (1 + 1 / 4194304) * (p * (1 + 1 / 4194304)) := by
    rcases hxv with h | h
    · have r := a.2.2
      rw [h] at r
      have n := r.rel32 (by grind) (by grind)
      exact ⟨sq_le_of (by grind) n.1, sq_le_of (by grind) n.2⟩
    · have r := a.2.2.neg
      rw [h, Rat.neg_neg] at r
      have n := r.rel32 (by grind) (by grind)
      have s1 := sq_le_of (a := p * (1 - 1 / 4194304)) (by grind) n.1
      have s2 := sq_le_of (a := -val .f32 y) (by grind) n.2
      exact ⟨by grind, by grind⟩
  have pp1 : 1 / 24 * (1 / 24) ≤ p * p := sq_le_of (by decide +kernel) (by grind)
  have pp2 : p * p ≤ 21 / 5 * (21 / 5) := sq_le_of (by grind) (by grind)
  have c := fo3_mul a.2.1 a.2.1 (by grind) (by grind)
  have n2 := c.2.2.rel32 (by grind) (by grind)
  refine ⟨y, ?_, a.2.1, c.1, c.2.1, ?_, ?_⟩
  · unfold shF; rw [cn_isN hx.N]; exact a.1
  · generalize val .f32 y * val .f32 y = S at *
    generalize val .f32 (fo3 .mul y y) = t at *
    grind
  · generalize val .f32 y * val .f32 y = S at *
    generalize val .f32 (fo3 .mul y y) = t at *
    grind

/-- All of it. -/
theorem shrink_near {v : List Nat} {ss : List Int} {k : Int} {zs : List Int} (hB : skB v ss = true) (hd : DyL 2 (skR v ss) zs) (hz : ∀ z ∈ zs, z = k ∨ z = -k) (h1 : 1 ≤ k) (h2 : k ≤ 16) (hl1 : 1 ≤ ss.length) (hl2 : ss.length ≤ 16) :
    shB v ss = true ∧ (shR v ss).length = ss.length ∧ normB (shR v ss) = true ∧ ∃ r, normR (shR v ss) = some r ∧ isN .f32 r ∧ (k : Rat) / 4 - 7 / 10000 ≤ val .f32 r ∧ val .f32 r ≤ (k : Rat) / 4 + 7 / 10000 := by
  obtain ⟨b, eb, nb, q1, q2, l1, l2⟩ := by_near hl1 hl2
  have hlen := skR_length hB
  have hone : ∀ x ∈ skR v ss, ∃ y, shF (some b) x = some y ∧ isN .f32 y ∧ fbin .mul .f32 (some y) (some y) = some (fo3 .mul y y) ∧ isN .f32 (fo3 .mul y y) ∧
      (k : Rat) / 4 * val .f32 b * ((k : Rat) / 4 * val .f32 b) * (1 - 1 / 1000000) ≤ val .f32 (fo3 .mul y y) ∧ val .f32 (fo3 .mul y y) ≤ (k : Rat) / 4 * val .f32 b * ((k : Rat) / 4 * val .f32 b) * (1 + 1 / 1000000) := by
    intro x hx
    obtain ⟨i, hi, rfl⟩ := List.getElem_of_mem hx
    have hzi : at0 zs i ∈ zs := by unfold at0; rw [List.getElem?_eq_getElem (by rw [← hd.len]; exact hi)]; exact List.getElem_mem _
    exact shrink_one (hd.get hi) (hz _ hzi) h1 h2 nb q1 q2
  have hfin : finM (shM v ss) = true := by
    unfold finM shM
    rw [List.all_map, List.all_eq_true]
    intro x hx
    obtain ⟨y, e, n, _⟩ := hone x hx
    show fin .f32 (shF (byC ss.length) x) = true
    rw [eb, e]
    exact finIsN n
  have hsB : shB v ss = true := by unfold shB; rw [hB, hfin]; rfl
  have hsR : shR v ss = (skR v ss).map fun x => (shF (some b) x).getD 0 := by
    unfold shR
    rw [if_pos hsB]
    unfold shM
    rw [eb, List.map_map]
    rfl
  have hsl : (shR v ss).length = ss.length := by rw [hsR, List.length_map, hlen]
  have hmem : ∀ y ∈ shR v ss, isN .f32 y ∧ fbin .mul .f32 (some y) (some y) = some (fo3 .mul y y) ∧ isN .f32 (fo3 .mul y y) ∧
      (k : Rat) / 4 * val .f32 b * ((k : Rat) / 4 * val .f32 b) * (1 - 1 / 1000000) ≤ val .f32 (fo3 .mul y y) ∧ val .f32 (fo3 .mul y y) ≤ (k : Rat) / 4 * val .f32 b * ((k : Rat) / 4 * val .f32 b) * (1 + 1 / 1000000) := by
    intro y hy
    rw [hsR] at hy
    obtain ⟨x, hx, rfl⟩ := List.mem_map.1 hy
    obtain ⟨y, e, n⟩ := hone x hx
    rw [e, Option.getD_some]
    exact n
  have hL1 : (1 : Rat) ≤ (ss.length : Rat) := Rat.natCast_le_natCast (a := 1).2 hl1
  have hL2 : (ss.length : Rat) ≤ 16 := Rat.natCast_le_natCast (b := 16).2 hl2
  have k1 : (1 : Rat) ≤ (k : Rat) := Rat.intCast_le_intCast (a := 1).2 h1
  have k2 : (k : Rat) ≤ 16 := Rat.intCast_le_intCast (b := 16).2 h2
  obtain ⟨s, hs⟩ : ∃ s, (k : Rat) / 4 = s := ⟨_, rfl⟩
  have s1 : 1 / 4 ≤ s := by grind
  have s2 : s ≤ 4 := by grind
  rw [hs] at hmem ⊢
  obtain ⟨q, hq⟩ : ∃ q, val .f32 b = q := ⟨_, rfl⟩
  rw [hq] at hmem q1 q2 l1 l2
  obtain ⟨L, hL⟩ : ∃ L : Rat, (ss.length : Rat) = L := ⟨_, rfl⟩
  rw [hL] at hL1 hL2 l1 l2
  have ss0 : 0 ≤ s * s := Rat.mul_nonneg (by grind) (by grind)
  have ss1 : s * s ≤ 4 * 4 := sq_le_of (by grind) s2
  have ep : s * q * (s * q) * L = s * s * (q * q * L) := by grind
  have g1 := Rat.mul_le_mul_of_nonneg_left l1 ss0
  have g2 := Rat.mul_le_mul_of_nonneg_left l2 ss0
  rw [← ep] at g1 g2
  have hp0 : 0 ≤ s * q * (s * q) := Rat.mul_nonneg (Rat.mul_nonneg (by grind) (by grind)) (Rat.mul_nonneg (by grind) (by grind))
  generalize s * q * (s * q) = P at *
  obtain ⟨d, e1, n1, d0, d1, d2⟩ := dot_near (es := shR v ss) (A := P * (1 - 1 / 1000000)) (B := P * (1 + 1 / 1000000)) (fun x hx => (hmem x hx).1) (by grind) (by rw [hsl, hL]; grind) (fun x hx => (hmem x hx).2) (shR v ss).length (Nat.le_refl _)
  rw [List.take_length] at e1
  rw [hsl, hL] at d1 d2
  obtain ⟨r, e2, n2, r0, r15, R, R0, R14, rn, u1, u2⟩ := root_near n1 rfl d0 (by grind)
  generalize hT : val .f32 d = T at *
  have t1 : s * s - 15 / 100000 ≤ T := by grind
  have t2 : T ≤ s * s + 15 / 100000 := by grind
  have hvec : isVec (shR v ss) = true := by
    unfold isVec
    rw [fins_of (fun x hx => (hmem x hx).1), hsl, decide_eq_true hl1, decide_eq_true (show ss.length ≤ 32 by omega)]
    rfl
  have hR1 : R ≤ s + 65 / 100000 := by
    refine le_of_sq (by grind) ?_
    have : s * s + 15 / 100000 + 1 / 34359738368 ≤ (s + 65 / 100000) * (s + 65 / 100000) := by grind
    grind
  have hR2 : s - 65 / 100000 ≤ R := by
    refine le_of_sq R0 ?_
    have : (s - 65 / 100000) * (s - 65 / 100000) ≤ s * s - 15 / 100000 - 1 / 34359738368 := by grind
    grind
  have nr := rn.near32 (by grind) (by grind)
  refine ⟨hsB, hsl, ?_, r, ?_, n2, by grind, by grind⟩
  · unfold normB; rw [hvec, e1, e2, finIsN n2]; rfl
  · unfold normR ifFin; rw [if_pos hvec, e1, e2, finIsN n2, if_pos rfl]

end Go.Proofs.Ytfclkbppmkjkeaa
