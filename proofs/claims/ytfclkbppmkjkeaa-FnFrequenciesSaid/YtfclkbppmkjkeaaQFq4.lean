/- The square root, rounded: plain. slices.Clone at []float32. The walks of the laws' small helpers on slices of bool. eq.. on bools. Are two slices equal: SlB. mark.., held.. on lists of float32. The walks of the laws' small helpers on slices of string. AngleAbout: both texts divide how many bits differ by twice their number. DotOf: both texts. -/
import Derived.Test.YtfclkbppmkjkeaaQFq3
import Derived.Test.YtfclkbppmkjkeaaRows
import Derived.Test.YtfclkbppmkjkeaaQFq2
namespace Go.Proofs.Ytfclkbppmkjkeaa
open Go.RowKit

theorem rootFrom_ok (n : Nat) : ∀ (todo root : Nat), root * root ≤ n → n < (root + 2 ^ todo) * (root + 2 ^ todo) → (Ieee.Datum.rootFrom n todo root) * (Ieee.Datum.rootFrom n todo root) ≤ n ∧ n < (Ieee.Datum.rootFrom n todo root + 1) * (Ieee.Datum.rootFrom n todo root + 1)
  | 0, root, h1, h2 => ⟨h1, by simpa [Ieee.Datum.rootFrom] using h2⟩
  | t + 1, root, h1, h2 => by
    unfold Ieee.Datum.rootFrom
    simp only [Nat.one_shiftLeft]
    have hp : 2 ^ (t + 1) = 2 ^ t + 2 ^ t := by rw [Nat.pow_succ]; omega
    rw [hp] at h2
    by_cases hc : (root + 2 ^ t) * (root + 2 ^ t) ≤ n
    · rw [if_pos hc]
      exact rootFrom_ok n t _ hc (by rw [Nat.add_assoc]; exact h2)
    · rw [if_neg hc]
      exact rootFrom_ok n t _ h1 (by omega)

theorem sq_lt {a b : Nat} (h : a * a < b * b) : a < b := by
  rcases Nat.lt_or_ge a b with h1 | h1
  · exact h1
  · have := Nat.mul_le_mul h1 h1; omega
theorem sq_le {a b : Nat} (h : a * a < (b + 1) * (b + 1)) : a ≤ b := by have := sq_lt h; omega

/-- What is told of the root is enough to round it. -/
theorem sticky_root {k : FloatKind} {n whole : Nat} {u : Int} {V : Rat} (h1 : whole * whole ≤ n) (h2 : n < (whole + 1) * (whole + 1)) (hbig : 2 ^ (fB k + 1) < 2 * whole) (hV : Rep k V) (hV0 : 0 ≤ V) :
    ((n : Rat) * tp (u + u) ≤ V * V → ((2 * whole + (whole * whole != n).toNat : Nat) : Rat) * tp (u - 1) ≤ V) ∧ (V * V ≤ (n : Rat) * tp (u + u) → V ≤ ((2 * whole + (whole * whole != n).toNat : Nat) : Rat) * tp (u - 1)) := by
  obtain ⟨N, g, hN, hg0, rfl⟩ := hV
  have hN0 : 0 ≤ N := by
    rcases Int.lt_or_le N 0 with hneg | hp
    · exfalso
      have h3 : (N : Rat) < 0 := Rat.intCast_neg_iff.2 hneg
      have h4 := Rat.mul_lt_mul_of_pos_right h3 (tp_pos g)
      rw [Rat.zero_mul] at h4
      grind
    · exact hp
  obtain ⟨K, rfl⟩ := Int.eq_ofNat_of_zero_le hN0
  rw [Rat.intCast_natCast] at *
  rw [Int.natAbs_natCast] at hN
  have hst1 : (whole * whole != n).toNat ≤ 1 := by cases (whole * whole != n) <;> simp
  have h2t : tp u = 2 * tp (u - 1) := by
    have : u = (u - 1) + 1 := by omega
    conv => lhs; rw [this]
    rw [tp_add, show tp 1 = 2 from Rat.zpow_one 2]; grind
  have hT := tp_pos (u - 1)
  have huu : tp (u + u) = tp u * tp u := tp_add u u
  rcases Int.le_total u g with hg | hg
  · have e1 : (K : Rat) * tp g = ((K * 2 ^ (g - u).toNat : Nat) : Rat) * tp u := by rw [tp_shift hg, Rat.natCast_mul, Rat.mul_assoc]
    rw [e1]
    generalize K * 2 ^ (g - u).toNat = V
    have e2 : (V : Rat) * tp u * ((V : Rat) * tp u) = ((V * V : Nat) : Rat) * tp (u + u) := by rw [huu, Rat.natCast_mul]; grind
    have e3 : (V : Rat) * tp u = ((2 * V : Nat) : Rat) * tp (u - 1) := by rw [h2t, Rat.natCast_mul]; have : ((2 : Nat) : Rat) = 2 := rfl; rw [this]; grind
    rw [e2, e3]
    refine ⟨fun h => ?_, fun h => ?_⟩
    · have h3 := Rat.natCast_le_natCast.1 (Rat.le_of_mul_le_mul_right h (tp_pos (u + u)))
      refine Rat.mul_le_mul_of_nonneg_right (Rat.natCast_le_natCast.2 ?_) (Rat.le_of_lt hT)
      have h4 : whole ≤ V := by
        rcases Nat.lt_or_ge V whole with h5 | h5
        · have := Nat.mul_lt_mul'' h5 h5; omega
        · exact h5
      rcases Nat.lt_or_eq_of_le h4 with h5 | h5
      · omega
      · have : whole * whole = n := by subst h5; omega
        rw [this]; simp; omega
    · have h3 := Rat.natCast_le_natCast.1 (Rat.le_of_mul_le_mul_right h (tp_pos (u + u)))
      refine Rat.mul_le_mul_of_nonneg_right (Rat.natCast_le_natCast.2 ?_) (Rat.le_of_lt hT)
      have h4 : V ≤ whole := sq_le (by omega)
      omega
  · rcases Int.lt_or_eq_of_le hg with hg | rfl
    · -- the bound lies below
      have h3 : (K : Rat) ≤ ((2 ^ (fB k + 1) : Nat) : Rat) := Rat.natCast_le_natCast.2 hN
      have h4 : (K : Rat) * tp g ≤ ((2 ^ (fB k + 1) : Nat) : Rat) * tp (u - 1) := by
        have h5 := Rat.mul_le_mul_of_nonneg_right h3 (Rat.le_of_lt (tp_pos g))
        have h6 := Rat.mul_le_mul_of_nonneg_left (tp_mono (show g ≤ u - 1 by omega)) (Rat.natCast_nonneg (a := 2 ^ (fB k + 1)))
        grind
      have h5 : ((2 ^ (fB k + 1) : Nat) : Rat) * tp (u - 1) < ((2 * whole : Nat) : Rat) * tp (u - 1) := Rat.mul_lt_mul_of_pos_right (Rat.natCast_lt_natCast.2 hbig) hT
      have h6 : ((2 * whole : Nat) : Rat) * tp (u - 1) ≤ ((2 * whole + (whole * whole != n).toNat : Nat) : Rat) * tp (u - 1) := Rat.mul_le_mul_of_nonneg_right (Rat.natCast_le_natCast.2 (by omega)) (Rat.le_of_lt hT)
      refine ⟨fun h => ?_, fun _ => by grind⟩
      exfalso
      have e3 : ((2 * whole : Nat) : Rat) * tp (u - 1) = (whole : Rat) * tp u := by rw [h2t, Rat.natCast_mul]; have : ((2 : Nat) : Rat) = 2 := rfl; rw [this]; grind
      have hlt : (K : Rat) * tp g < (whole : Rat) * tp u := by rw [← e3]; grind
      have hw0 : 0 ≤ (whole : Rat) * tp u := nn whole u
      have hVV : (K : Rat) * tp g * ((K : Rat) * tp g) < (whole : Rat) * tp u * ((whole : Rat) * tp u) := by
        have a1 := Rat.mul_le_mul_of_nonneg_left (Rat.le_of_lt hlt) hV0
        have hwp : 0 < (whole : Rat) * tp u := by grind
        have a2 := Rat.mul_lt_mul_of_pos_right hlt hwp
        grind
      have e2 : (whole : Rat) * tp u * ((whole : Rat) * tp u) = ((whole * whole : Nat) : Rat) * tp (u + u) := by rw [huu, Rat.natCast_mul]; grind
      have hle : ((whole * whole : Nat) : Rat) * tp (u + u) ≤ (n : Rat) * tp (u + u) := Rat.mul_le_mul_of_nonneg_right (Rat.natCast_le_natCast.2 h1) (Rat.le_of_lt (tp_pos _))
      rw [e2] at hVV
      grind
    · have e2 : (K : Rat) * tp g * ((K : Rat) * tp g) = ((K * K : Nat) : Rat) * tp (g + g) := by rw [huu, Rat.natCast_mul]; grind
      have e3 : (K : Rat) * tp g = ((2 * K : Nat) : Rat) * tp (g - 1) := by rw [h2t, Rat.natCast_mul]; have : ((2 : Nat) : Rat) = 2 := rfl; rw [this]; grind
      rw [e2, e3]
      refine ⟨fun h => ?_, fun h => ?_⟩
      · have h3 := Rat.natCast_le_natCast.1 (Rat.le_of_mul_le_mul_right h (tp_pos (g + g)))
        refine Rat.mul_le_mul_of_nonneg_right (Rat.natCast_le_natCast.2 ?_) (Rat.le_of_lt hT)
        have h4 : whole ≤ K := by
          rcases Nat.lt_or_ge K whole with h5 | h5
          · have := Nat.mul_lt_mul'' h5 h5; omega
          · exact h5
        rcases Nat.lt_or_eq_of_le h4 with h5 | h5
        · omega
        · have : whole * whole = n := by subst h5; omega
          rw [this]; simp; omega
      · have h3 := Rat.natCast_le_natCast.1 (Rat.le_of_mul_le_mul_right h (tp_pos (g + g)))
        refine Rat.mul_le_mul_of_nonneg_right (Rat.natCast_le_natCast.2 ?_) (Rat.le_of_lt hT)
        have h4 : K ≤ whole := sq_le (by omega)
        omega

/-- The square root of a float64 that is not below nought. -/
theorem sqrt_RN {b : Nat} (hb : isN .f64 b) (h0 : 0 ≤ val .f64 b) (hin : val .f64 b ≤ tp 1000) : ∃ r, fsqrt (some b) = some r ∧ isN .f64 r ∧ (∀ V, Rep .f64 V → 0 ≤ V → val .f64 b ≤ V * V → val .f64 r ≤ V) ∧ (∀ V, Rep .f64 V → 0 ≤ V → V * V ≤ val .f64 b → V ≤ val .f64 r) ∧ Rep .f64 (val .f64 r) := by
  obtain ⟨s, m, i, hd⟩ := hb
  have hv : val .f64 b = sg s * ((m : Rat) * tp i) := by unfold val; rw [hd]; rfl
  have hsq : fsqrt (some b) = ((Ieee.Datum.number s m i).root 54).map Ieee.double.write := by
    show ((Ieee.double.read b).root 54).map Ieee.double.write = _
    have hd' : Ieee.double.read b = .number s m i := hd
    rw [hd']
  by_cases hm : m = 0
  · have hv0 : val .f64 b = 0 := by rw [hv, hm, show ((0 : Nat) : Rat) = 0 from rfl, Rat.zero_mul, Rat.mul_zero]
    have hr : (Ieee.Datum.number s m i).root 54 = some (.number s m i) := by unfold Ieee.Datum.root; simp only; rw [if_pos hm]
    rw [hr] at hsq
    have hin2 : inT .f64 (valD (.number s m i)) := by
      have : valD (.number s m i) = val .f64 b := by unfold val; rw [hd]
      rw [this, hv0]
      have := tp_pos (tB .f64)
      exact ⟨by grind, by grind⟩
    obtain ⟨w1, w2⟩ := write_RN hin2
    have hvd : valD (.number s m i) = 0 := by rw [← hv0]; unfold val; rw [hd]
    rw [hvd] at w2
    have hz := w2.exact (rep_zero _)
    refine ⟨_, hsq, w1, ?_, ?_, w2.rep⟩
    · intro V _ hV0 _
      show val .f64 (Ieee.double.write (.number s m i)) ≤ V
      have : val .f64 (Ieee.double.write (.number s m i)) = 0 := hz
      rw [this]; exact hV0
    · intro V _ hV0 h
      rw [hv0] at h
      show V ≤ val .f64 (Ieee.double.write (.number s m i))
      have e : val .f64 (Ieee.double.write (.number s m i)) = 0 := hz
      rw [e]
      rcases Rat.le_iff_eq_or_lt.1 hV0 with h1 | h1
      · have := Rat.mul_pos h1 h1; grind
      · rw [← h1]; exact Rat.le_refl
  · have hs : s = false := by
      cases s with
      | false => rfl
      | true =>
        exfalso
        have h1 : sg true * ((m : Rat) * tp i) = -((m : Rat) * tp i) := by simp only [sg, if_true]; grind
        rw [hv, h1] at h0
        have h2 : 0 < (m : Rat) * tp i := Rat.mul_pos (Rat.natCast_pos.2 (Nat.pos_of_ne_zero hm)) (tp_pos i)
        grind
    subst hs
    have hvm : val .f64 b = (m : Rat) * tp i := by rw [hv]; simp only [sg, Bool.false_eq_true, if_false, Rat.one_mul]
    unfold Ieee.Datum.root at hsq
    simp only at hsq
    rw [if_neg hm, if_neg (by decide)] at hsq
    simp only [Option.map_some] at hsq
    generalize hmo : 2 * 54 - m.log2 + ((i - ((2 * 54 - m.log2 : Nat) : Int)) % 2).toNat = more at hsq
    generalize hn : m <<< more = n at hsq
    obtain ⟨u, hu⟩ : ∃ u : Int, i - (more : Int) = u + u := ⟨(i - (more : Int)) / 2, by omega⟩
    have hu2 : (i - (more : Int)) / 2 - 1 = u - 1 := by omega
    rw [hu2] at hsq
    have hnm : n = m * 2 ^ more := by rw [← hn, Nat.shiftLeft_eq]
    have hX : val .f64 b = (n : Rat) * tp (u + u) := by
      have e1 : ((2 ^ more : Nat) : Rat) * tp (u + u) = tp i := by
        rw [← tp_nat, ← tp_add, show (more : Int) + (u + u) = i by omega]
      rw [hvm, hnm, Rat.natCast_mul, Rat.mul_assoc, e1]
    have hlog : n < (0 + 2 ^ (n.log2 / 2 + 1)) * (0 + 2 ^ (n.log2 / 2 + 1)) := by
      rw [Nat.zero_add, ← Nat.pow_add]
      exact Nat.lt_of_lt_of_le Nat.lt_log2_self (Nat.pow_le_pow_right (by omega) (by omega))
    obtain ⟨w1, w2⟩ := rootFrom_ok n (n.log2 / 2 + 1) 0 (by omega) hlog
    generalize hwh : Ieee.Datum.rootFrom n (n.log2 / 2 + 1) 0 = whole at hsq w1 w2
    have hnbig : 2 ^ 108 ≤ n := by
      rw [hnm]
      have h1 := log2_ge hm
      calc 2 ^ 108 ≤ 2 ^ (m.log2 + more) := Nat.pow_le_pow_right (by omega) (by omega)
        _ = 2 ^ m.log2 * 2 ^ more := Nat.pow_add _ _ _
        _ ≤ m * 2 ^ more := Nat.mul_le_mul_right _ h1
    have hwbig : 2 ^ 54 ≤ whole := by
      refine sq_le ?_
      have : (2 : Nat) ^ 54 * 2 ^ 54 = 2 ^ 108 := by rw [← Nat.pow_add]
      omega
    have hbig : 2 ^ (fB .f64 + 1) < 2 * whole := by
      have : (2 : Nat) ^ (fB .f64 + 1) = 2 ^ 53 := rfl
      rw [this]; omega
    have hst := fun (V : Rat) (hV : Rep .f64 V) (hV0 : 0 ≤ V) => sticky_root (k := .f64) (u := u) w1 w2 hbig hV hV0
    rw [← hX] at hst
    generalize hD : 2 * whole + (whole * whole != n).toNat = D at hsq hst
    -- the told root is bounded
    have hDb : (D : Rat) * tp (u - 1) ≤ tp 501 := by
      refine (hst (tp 501) ⟨1, 501, by decide, by decide, by have : ((1 : Int) : Rat) = 1 := rfl; rw [this, Rat.one_mul]⟩ (Rat.le_of_lt (tp_pos _))).1 ?_
      rw [← tp_add]
      exact Rat.le_trans hin (tp_mono (by decide))
    have hD0 := nn D (u - 1)
    have hvd : valD (.number false D (u - 1)) = (D : Rat) * tp (u - 1) := by
      show sg false * _ = _
      simp only [sg, Bool.false_eq_true, if_false, Rat.one_mul]
    have hin2 : inT .f64 (valD (.number false D (u - 1))) := by
      rw [hvd]
      have h3 : tp 501 < tp (tB .f64) := tp_lt (by decide)
      exact ⟨by grind, by grind⟩
    obtain ⟨w3, w4⟩ := write_RN hin2
    rw [hvd] at w4
    exact ⟨_, hsq, w3, fun V hV hV0 h => w4.up V hV ((hst V hV hV0).1 h), fun V hV hV0 h => w4.dn V hV ((hst V hV hV0).2 h), w4.rep⟩

end Go.Proofs.Ytfclkbppmkjkeaa

namespace Go.Proofs.Ytfclkbppmkjkeaa
open Go.RowKit

theorem clonef_any (a : Option Addr) (c : Nat) (xs : List Nat) (w : World) (hr : Rd (Value.float .f32) w a c xs) (hn : xs.length ≤ 1048576) :
    Calls Try.prog 180 #[.slice a xs.length c] w (RetS (Value.float .f32) 28 w xs) := by
  cases ha : a with
  | none =>
    obtain ⟨rfl, rfl⟩ := rd_none hr ha
    subst ha
    have hq := fun w' => Lib.run_eql_slice_nil (P := Try.prog) w' 27 28 none 0 0 0 0 und_fse
    go_enter Try.func180, Try.ntmps180
    go_wp2
    go_ret
    exact ⟨none, 0, rfl, World.ownsRow_nil _ _ _ _, Below.refl _ _⟩
  | some p =>
    rw [ha] at hr
    clear ha
    have hq := fun w' => Lib.run_eql_slice_nil (P := Try.prog) w' 27 28 (some p) xs.length c 0 0 und_fse
    go_enter Try.func180, Try.ntmps180
    have HE := Lib.hid (own_empty (f := Value.float .f32) (e := 28) (α := Nat) w (by_ := 0) w.heap.size (Nat.le_refl _) rfl)
    have HR := Lib.hid (hr.below ((Below.refl w.heap.size w).alloc (Nat.le_refl _) (.cells #[] 28)) (Nat.le_refl _))
    go_wp2_with (at_builtin; refine wpl_appendN (f := Value.float .f32) (d := 0) und_fse info_f (fun _ => rfl) HE.out HR.out rfl _ _ rfl rfl rfl (by simp) (by omega) (by omega) (by simp) ?_; intro a1 c1 w1 ho1 hg1)
    go_ret
    refine ⟨a1, c1, by simp, ho1, ?_⟩
    exact ((Below.refl w.heap.size w).alloc (Nat.le_refl _) (.cells #[] 28)).trans (grown_belowOwn HE.out hg1 (Nat.le_refl _) (by simp))

end Go.Proofs.Ytfclkbppmkjkeaa

namespace Go.Proofs.Ytfclkbppmkjkeaa
open Go.RowKit

theorem und_bs : Try.prog.underlying 40 = some (.slice (Try.prog.elem 40)) := by kernel_rfl
theorem siz_bs (w : World) : (sizeOf (Try.prog.elem 40)).run Try.prog w = .ok 1 w := by kernel_rfl
theorem und_bse : Try.prog.underlying 40 = some (.slice 4) := by kernel_rfl
theorem info_b : (Try.prog.info? 4).map (fun i => (i.zero, i.size, i.bytes)) = some (some (.bool false), 1, 1) := by kernel_rfl

end Go.Proofs.Ytfclkbppmkjkeaa

namespace Go.Proofs.Ytfclkbppmkjkeaa
open Go.RowKit

theorem bool_ne {a b : Bool} (h : (a != b) = true) : ¬ a = b := by simpa using h

end Go.Proofs.Ytfclkbppmkjkeaa

namespace Go.Proofs.Ytfclkbppmkjkeaa
open Go.RowKit

end Go.Proofs.Ytfclkbppmkjkeaa

namespace Go.Proofs.Ytfclkbppmkjkeaa
open Go.RowKit

set_option maxHeartbeats 400000 in
theorem markF_any {a : Option Addr} {c base k0 : Nat} {xs : List Nat} {w : World} (ho : Own (Value.float .f32) 28 w base a c xs) (hk : k0 + xs.length ≤ 4611686018427387904) :
    Calls Try.prog 59 #[.slice a xs.length c, .int .i64 k0] w (RetM (Value.float .f32) 28 w base a c (fun k => floatOfInt .f32 (k : Int)) k0 xs.length) := by
  have hsf := @run_store_fl Try.prog
  go_enter Try.func59, Try.ntmps59
  go_wp2
  go_loopw [1, 5] (fun kk i wr => ∃ k : Nat, k ≤ xs.length ∧ i = .int .i64 k ∧ kk = .int .i64 ((k0 + k : Nat) : Int) ∧ Own (Value.float .f32) 28 wr base a c (marks (fun k => floatOfInt .f32 (k : Int)) k0 k ++ xs.drop k) ∧ w.grownBy wr (a.map (·.block))) (fun _ i _ => xs.length - (intOf i).toNat)
  case atStart => exact ⟨0, Nat.zero_le _, rfl, rfl, by simpa [marks] using ho, World.grownBy.refl _ _⟩
  case round =>
    obtain ⟨k, hk, rfl, rfl, hw, hg⟩ := hrel
    clear ho
    have hln : (marks (fun k => floatOfInt .f32 (k : Int)) k0 k ++ xs.drop k).length = xs.length := by simp [marks_length]; omega
    by_cases hlt : k < xs.length
    · have hio := hw.idx und_fs siz_fs
      rw [hln] at hio
      obtain ⟨v0, hcs⟩ : ∃ v, wr.cell? (elt a k) = some v := ⟨_, hw.cell k (by omega)⟩
      have hfz := hw.free k (by omega)
      have hst := hw.set k (by omega) (floatOfInt .f32 ((k0 + k : Nat) : Int))
      rw [marks_set (fun k => floatOfInt .f32 (k : Int)) k0 k xs hlt] at hst
      have HG : Hid (wr.grownBy _ _) := hst.2
      have HS : Hid (Own _ _ _ _ _ _ _) := hst.1
      have HC : Hid (w.grownBy _ _) := hg
      clear hst hg hln
      go_wp2
      go_roundw
      case rel => exact ⟨k + 1, by omega, by go_num, by go_num, by simpa using HS.out, grown_trans HC.out (by simpa using HG.out)⟩
      case measure => simp [intOf]; omega
    · obtain rfl : k = xs.length := by omega
      have HO : Hid (Own _ _ _ _ _ _ _) := hw
      have HC : Hid (w.grownBy _ _) := hg
      clear hw hln hg
      go_wp2
      go_ret
      exact ⟨rfl, HO.out.cast (by simp), HC.out⟩


end Go.Proofs.Ytfclkbppmkjkeaa

namespace Go.Proofs.Ytfclkbppmkjkeaa
open Go.RowKit

theorem info_s : (Try.prog.info? 9).map (fun i => (i.zero, i.size, i.bytes)) = some (some (.string ByteArray.empty), 1, 16) := by kernel_rfl

end Go.Proofs.Ytfclkbppmkjkeaa

namespace Go.Proofs.Ytfclkbppmkjkeaa
open Go.RowKit

/-- How many places differ. -/
def diffs (xs ys : List Bool) : Nat := ((List.zip xs ys).filter fun p => p.1 != p.2).length
theorem diffs_snoc (xs ys : List Bool) (k : Nat) (h1 : k < xs.length) (h2 : k < ys.length) : diffs (xs.take (k + 1)) (ys.take (k + 1)) = diffs (xs.take k) (ys.take k) + if xs[k] != ys[k] then 1 else 0 := by
  unfold diffs
  rw [List.take_add_one, List.take_add_one, List.getElem?_eq_getElem h1, List.getElem?_eq_getElem h2]
  simp only [Option.toList_some]
  rw [List.zip_append (by simp; omega), List.filter_append, List.length_append]
  by_cases h : (xs[k] != ys[k]) = true
  · simp [h]
  · simp [h]
theorem diffs_le (xs ys : List Bool) : diffs xs ys ≤ xs.length := by
  unfold diffs
  refine Nat.le_trans (List.length_filter_le _ _) ?_
  simp; omega

def angleOk (xs ys : List Bool) : Bool := decide (1 ≤ xs.length) && decide (xs.length ≤ 32) && decide (xs.length = ys.length)
def angleR (xs ys : List Bool) : Option Nat :=
  if angleOk xs ys then fbin .quo .f32 (cn .f32 (floatOfInt .f32 (diffs xs ys : Int))) (cn .f32 (floatOfInt .f32 (2 * (xs.length : Int)))) else some 0

theorem und_b : Try.prog.underlying 40 = some (.slice (Try.prog.elem 40)) := by kernel_rfl

set_option maxHeartbeats 800000 in
theorem implAngle_yes {a1 a2 : Option Addr} {c1 c2 : Nat} {xs ys : List Bool} {w : World} (hx : Rd Value.bool w a1 c1 xs) (hy : Rd Value.bool w a2 c2 ys) (h1 : 1 ≤ xs.length) (h2 : xs.length ≤ 32) (h3 : xs.length = ys.length) :
    Calls Try.prog 45 #[.slice a1 xs.length c1, .slice a2 ys.length c2] w (RetFB w (fbin .quo .f32 (cn .f32 (floatOfInt .f32 (diffs xs ys : Int))) (cn .f32 (floatOfInt .f32 (2 * (xs.length : Int))))) true) := by
  have hd : ((xs.length : Int) != (ys.length : Int)) = false := by simp [h3]
  have HL := Lib.hid h3
  clear h3
  go_enter Try.func45, Try.ntmps45
  go_wp2
  go_loopw [6, 7, 21] (fun n _ i wr => ∃ k : Nat, k ≤ xs.length ∧ i = .int .i64 k ∧ n = .int .i64 ((diffs (xs.take k) (ys.take k) : Nat) : Int) ∧ Below w.heap.size w wr) (fun _ _ i _ => xs.length - (intOf i).toNat)
  case atStart => exact ⟨0, Nat.zero_le _, rfl, rfl, Below.refl _ _⟩
  case round =>
    obtain ⟨k, hk, rfl, rfl, hb⟩ := hrel
    clear hd
    have hdl := diffs_le (xs.take k) (ys.take k)
    have hdl2 : (xs.take k).length ≤ k := List.length_take_le _ _
    by_cases hlt : k < xs.length
    · have hlt2 : k < ys.length := by rw [← HL.out]; exact hlt
      have hxr := hx.below hb (Nat.le_refl _)
      have hyr := hy.below hb (Nat.le_refl _)
      have hcx := hxr.cell k hlt
      have hcy := hyr.cell k hlt2
      have hix := hxr.idx und_bs siz_bs
      have hiy := hyr.idx und_bs siz_bs
      have HS := Lib.hid (diffs_snoc xs ys k hlt hlt2)
      simp only [List.getElem?_eq_getElem hlt, List.getElem?_eq_getElem hlt2, Option.getD_some] at hcx hcy
      have hdd : diffs (xs.take k) (ys.take k) ≤ 32 := by omega
      clear hdl hdl2
      generalize diffs (xs.take k) (ys.take k) = dk at hdd HS ⊢
      generalize xs[k] = p at hcx HS
      generalize ys[k] = q at hcy HS
      cases p <;> cases q
      all_goals
        go_wp2_with fail
        go_quiet (fail)
        go_wp2
        go_roundw
        case rel => exact ⟨k + 1, by omega, by go_num, by rw [HS.out]; first | rfl | (simp; done) | go_num, hb.trans (below_of_drewN _ _ _)⟩
        case measure => simp [intOf]; omega
    · obtain rfl : k = xs.length := by omega
      have hx1 : xs.take xs.length = xs := List.take_length
      have hy1 : ys.take xs.length = ys := by rw [HL.out, List.take_length]
      rw [hx1, hy1] at *
      clear hx1 hy1
      go_wp2_with (refine wpl_fbin rfl _ _ _ _ _ rfl rfl .f32 _ _ rfl rfl ?_; rintro r w' ⟨n, rfl⟩ hr)
      go_ret2
      exact ⟨r, rfl, hr, hb.trans (below_of_drewN _ _ _)⟩

set_option maxHeartbeats 400000 in
theorem implAngle_no {a1 a2 : Option Addr} {c1 c2 : Nat} {xs ys : List Bool} {w : World} (hx : Rd Value.bool w a1 c1 xs) (hy : Rd Value.bool w a2 c2 ys) (h : angleOk xs ys = false) :
    Calls Try.prog 45 #[.slice a1 xs.length c1, .slice a2 ys.length c2] w (RetFB w (some 0) false) := by
  have hlx := hx.len
  have hly := hy.len
  by_cases h1 : 1 ≤ xs.length
  · by_cases h2 : xs.length ≤ 32
    · have h3 : ¬ xs.length = ys.length := by intro h3; simp [angleOk, h1, h2, h3] at h; omega
      have hd : ((xs.length : Int) != (ys.length : Int)) = true := by simp; omega
      clear h h3
      go_enter Try.func45, Try.ntmps45
      go_wp2
      go_ret2
      exact ⟨0, rfl, cn_zero, Below.refl _ _⟩
    · have hq : 32 < xs.length := by omega
      have hd : decide ((xs.length : Int) ≤ 32) = false := by simp; omega
      clear h h2
      go_enter Try.func45, Try.ntmps45
      go_wp2
      go_ret2
      exact ⟨0, rfl, cn_zero, Below.refl _ _⟩
  · have hq : xs.length < 1 := by omega
    have hd : decide ((1 : Int) ≤ (xs.length : Int)) = false := by simp; omega
    clear h h1
    go_enter Try.func45, Try.ntmps45
    go_wp2
    go_ret2
    exact ⟨0, rfl, cn_zero, Below.refl _ _⟩

theorem implAngle_any {a1 a2 : Option Addr} {c1 c2 : Nat} {xs ys : List Bool} {w : World} (hx : Rd Value.bool w a1 c1 xs) (hy : Rd Value.bool w a2 c2 ys) :
    Calls Try.prog 45 #[.slice a1 xs.length c1, .slice a2 ys.length c2] w (RetFB w (angleR xs ys) (angleOk xs ys)) := by
  cases h : angleOk xs ys with
  | false => simpa [angleR, h] using implAngle_no hx hy h
  | true =>
    have h' := h
    simp only [angleOk, Bool.and_eq_true, decide_eq_true_eq] at h'
    simpa [angleR, h] using implAngle_yes hx hy h'.1.1 h'.1.2 h'.2

end Go.Proofs.Ytfclkbppmkjkeaa

namespace Go.Proofs.Ytfclkbppmkjkeaa
open Go.RowKit

set_option maxHeartbeats 800000 in
theorem implDotOf_any {a1 a2 : Option Addr} {c1 c2 : Nat} {xs ys : List Nat} {w : World} (hx : Rd (Value.float .f32) w a1 c1 xs) (hy : Rd (Value.float .f32) w a2 c2 ys) :
    Calls Try.prog 38 #[.slice a1 xs.length c1, .slice a2 ys.length c2] w (RetFB w (dotR xs ys) (dotB xs ys)) := by
  have hlx := hx.len
  have hly := hy.len
  cases h1 : isVec xs with
  | false =>
    go_enter Try.func38, Try.ntmps38
    go_wp2_with fail
    refine (isVector_any hx).mono ?_
    rintro e w1 ⟨rfl, hb1⟩
    go_wp2
    go_ret2
    exact ⟨0, by simp [dotB, dotOk, h1], by simp [dotR, dotOk, h1, cn_zero], hb1⟩
  | true =>
    cases h2 : isVec ys with
    | false =>
      go_enter Try.func38, Try.ntmps38
      go_wp2_with fail
      refine (isVector_any hx).mono ?_
      rintro e w1 ⟨rfl, hb1⟩
      go_wp2_with fail
      refine (isVector_any (hy.below hb1 (Nat.le_refl _))).mono ?_
      rintro e w2 ⟨rfl, hb2⟩
      go_wp2
      go_ret2
      exact ⟨0, by simp [dotB, dotOk, h2], by simp [dotR, dotOk, h2, cn_zero], hb1.trans (hb2.mono hb1.size)⟩
    | true =>
      by_cases h3 : xs.length = ys.length
      · have hd : ((xs.length : Int) != (ys.length : Int)) = false := by simp [h3]
        have H3 := Lib.hid h3
        clear h3
        go_enter Try.func38, Try.ntmps38
        go_wp2_with fail
        refine (isVector_any hx).mono ?_
        rintro e w1 ⟨rfl, hb1⟩
        go_wp2_with fail
        refine (isVector_any (hy.below hb1 (Nat.le_refl _))).mono ?_
        rintro e w2 ⟨rfl, hb2⟩
        have B2 : Below w.heap.size w w2 := hb1.trans (hb2.mono hb1.size)
        clear hb1 hb2
        go_wp2_with fail
        refine (implDot_any (hx.below B2 (Nat.le_refl _)) (hy.below B2 (Nat.le_refl _)) H3.out).mono ?_
        rintro e w3 ⟨r, rfl, hr, hb3⟩
        have B3 : Below w.heap.size w w3 := B2.trans (hb3.mono B2.size)
        clear hb3
        have HR := Lib.hid hr
        clear hr
        go_wp2_with fail
        refine ifFinite_any.mono ?_
        rintro e w4 ⟨q, rfl, hq, hb4⟩
        have HQ := Lib.hid hq
        clear hq
        go_wp2
        go_ret2
        refine ⟨q, ?_, ?_, B3.trans (hb4.mono B3.size)⟩
        · rw [HR.out]; simp [dotB, dotOk, h1, h2, H3.out]
        · rw [HQ.out, HR.out]; simp [dotR, dotOk, h1, h2, H3.out]
      · have hd : ((xs.length : Int) != (ys.length : Int)) = true := by simp; omega
        have H3 := Lib.hid h3
        clear h3
        go_enter Try.func38, Try.ntmps38
        go_wp2_with fail
        refine (isVector_any hx).mono ?_
        rintro e w1 ⟨rfl, hb1⟩
        go_wp2_with fail
        refine (isVector_any (hy.below hb1 (Nat.le_refl _))).mono ?_
        rintro e w2 ⟨rfl, hb2⟩
        go_wp2
        go_ret2
        exact ⟨0, by simp [dotB, dotOk, H3.out], by simp [dotR, dotOk, H3.out, cn_zero], hb1.trans (hb2.mono hb1.size)⟩

end Go.Proofs.Ytfclkbppmkjkeaa
