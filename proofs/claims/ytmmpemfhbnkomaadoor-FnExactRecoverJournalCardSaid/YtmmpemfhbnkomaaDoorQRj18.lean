/- The text of zeros, in both texts. -/
import Derived.Test.YtmmpemfhbnkomaaDoorQRj17
import Derived.Test.YtmmpemfhbnkomaaDoorQRj7
import Derived.Test.YtmmpemfhbnkomaaDoorQRj0
set_option linter.unusedVariables false
set_option linter.unusedSimpArgs false
namespace Go.Proofs.YtmmpemfhbnkomaaDoor
open Go.RowKit

def zerV (Z : Int) (zs : List Int) : Bool := valsB zs && zerosB Z zs
def zerT (Z : Int) (zs : List Int) : ByteArray := if zerV Z zs then (decT Z ++ ⟨#[59]⟩) ++ lstT zs else ⟨#[]⟩
theorem zeros_in {Z : Int} {zs : List Int} (h : zerosB Z zs = true) : -9223372036854775808 ≤ Z ∧ Z ≤ 9223372036854775807 := by
  unfold zerosB at h
  simp only [Bool.and_eq_true] at h
  have := isKey_bd h.1.1
  omega
theorem lt_size {xs : List Int} (h : valsB xs = true) : (ltT xs).size ≤ 1400 := by
  rw [ltT_yes h]
  have h1 := valsB_in h
  have := lstT_size h1.1
  omega

set_option maxRecDepth 20000 in
set_option maxHeartbeats 2000000 in
theorem zerosText_any {a : Option Addr} {c : Nat} {zs : List Int} {Z : Int} {w : World} (hT : PTab w) (hr : Rd (Value.int .i64) w a c zs) :
    Calls Tryd.prog 39 #[.agg #[.int .i64 Z, .slice a zs.length c]] w fun e w' => e = .returned (.tuple #[.string (zerT Z zs), .bool (zerV Z zs)]) ∧ Below w.heap.size w w' := by
  have B0 : Below w.heap.size w (w.alloc (.cells #[.int .i64 Z, .slice a zs.length c] 37)) := (Below.refl _ _).alloc (Nat.le_refl _) _
  have I0 : Blk (w.alloc (.cells #[.int .i64 Z, .slice a zs.length c] 37)) w.heap.size #[.int .i64 Z, .slice a zs.length c] 37 := Blk.new _ _ _
  have H0 := Lib.hid (And.intro B0 I0)
  have HR := Lib.hid hr
  have HT := Lib.hid hT
  clear B0 I0 hr hT
  cases hv : valsB zs with
  | false =>
    have he : zerV Z zs = false := by unfold zerV; rw [hv]; rfl
    have he2 : zerT Z zs = ⟨#[]⟩ := by unfold zerT; rw [he]; rfl
    rw [he, he2]
    clear he he2
    go_enter Tryd.func39, Tryd.ntmps39
    go_wp2_with fail
    generalize (w.alloc (.cells #[.int .i64 Z, .slice a zs.length c] 37)) = w0 at H0 ⊢
    refine (implListText_any (HT.out.below H0.out.1 (Nat.le_refl _)) (HR.out.below H0.out.1 (Nat.le_refl _))).mono ?_
    rintro e w1 ⟨rfl, hb1⟩
    rw [hv]
    have HB1 := Lib.hid (H0.out.1.trans (hb1.mono H0.out.1.size))
    have HI1 := Lib.hid (H0.out.2.below hb1 (Nat.le_refl _))
    clear hb1 H0
    go_wp2
    go_ret2
    exact ⟨rfl, HB1.out⟩
  | true =>
  have hlz := lt_size hv
  cases hz : zerosB Z zs with
  | false =>
    have he : zerV Z zs = false := by unfold zerV; rw [hv, hz]; rfl
    have he2 : zerT Z zs = ⟨#[]⟩ := by unfold zerT; rw [he]; rfl
    rw [he, he2]
    clear he he2
    go_enter Tryd.func39, Tryd.ntmps39
    go_wp2_with fail
    generalize (w.alloc (.cells #[.int .i64 Z, .slice a zs.length c] 37)) = w0 at H0 ⊢
    refine (implListText_any (HT.out.below H0.out.1 (Nat.le_refl _)) (HR.out.below H0.out.1 (Nat.le_refl _))).mono ?_
    rintro e w1 ⟨rfl, hb1⟩
    rw [hv]
    have HB1 := Lib.hid (H0.out.1.trans (hb1.mono H0.out.1.size))
    have HI1 := Lib.hid (H0.out.2.below hb1 (Nat.le_refl _))
    clear hb1 H0
    have i0 := HI1.out.cell (i := 0) (v := .int .i64 Z) rfl
    have i1 := HI1.out.cell (i := 1) (v := .slice a zs.length c) rfl
    obtain ⟨lt, hlt⟩ : ∃ l, ltT zs = l := ⟨_, rfl⟩
    have HLT := Lib.hid hlt
    rw [hlt]
    clear hlt
    go_wp2_with fail
    refine (validZeros_any (HR.out.below HB1.out (Nat.le_refl _))).mono ?_
    rintro e w2 ⟨rfl, hb2⟩
    rw [hz]
    have HB2 := Lib.hid (HB1.out.trans (hb2.mono HB1.out.size))
    have HI2 := Lib.hid (HI1.out.below hb2 (Nat.le_refl _))
    clear hb2 i0 i1
    go_wp2
    go_ret2
    exact ⟨rfl, HB2.out⟩
  | true =>
  have hzb := zeros_in hz
  have hds := decT_size hzb.1 hzb.2
  have he : zerV Z zs = true := by unfold zerV; rw [hv, hz]; rfl
  rw [he]
  obtain ⟨res, hres⟩ : ∃ r, zerT Z zs = r := ⟨_, rfl⟩
  have HRES : Hid (res = (decT Z ++ ⟨#[59]⟩) ++ lstT zs) := Lib.hid (by rw [← hres]; unfold zerT; rw [he]; rfl)
  rw [hres]
  clear hres he
  go_enter Tryd.func39, Tryd.ntmps39
  go_wp2_with fail
  generalize (w.alloc (.cells #[.int .i64 Z, .slice a zs.length c] 37)) = w0 at H0 ⊢
  refine (implListText_any (HT.out.below H0.out.1 (Nat.le_refl _)) (HR.out.below H0.out.1 (Nat.le_refl _))).mono ?_
  rintro e w1 ⟨rfl, hb1⟩
  rw [hv]
  have HB1 := Lib.hid (H0.out.1.trans (hb1.mono H0.out.1.size))
  have HI1 := Lib.hid (H0.out.2.below hb1 (Nat.le_refl _))
  clear hb1 H0
  have i0 := HI1.out.cell (i := 0) (v := .int .i64 Z) rfl
  have i1 := HI1.out.cell (i := 1) (v := .slice a zs.length c) rfl
  obtain ⟨lt, hlt⟩ : ∃ l, ltT zs = l := ⟨_, rfl⟩
  have HLT := Lib.hid hlt
  rw [hlt]
  clear hlt
  go_wp2_with fail
  refine (validZeros_any (HR.out.below HB1.out (Nat.le_refl _))).mono ?_
  rintro e w2 ⟨rfl, hb2⟩
  rw [hz]
  have HB2 := Lib.hid (HB1.out.trans (hb2.mono HB1.out.size))
  have HI2 := Lib.hid (HI1.out.below hb2 (Nat.le_refl _))
  clear hb2 i0 i1
  have i0 := HI2.out.cell (i := 0) (v := .int .i64 Z) rfl
  go_wp2_with fail
  refine (decimal_any (HT.out.below HB2.out (Nat.le_refl _)) hzb.1 hzb.2).mono ?_
  rintro e w3 ⟨rfl, hb3⟩
  have HB3 := Lib.hid (HB2.out.trans (hb3.mono HB2.out.size))
  have hls : lt.size ≤ 1400 := by rw [← HLT.out]; exact hlz
  have HRE : Hid (res = (decT Z ++ ⟨#[59]⟩) ++ lt) := Lib.hid (by rw [HRES.out, ← HLT.out, ltT_yes hv])
  obtain ⟨d, hd⟩ : ∃ d, decT Z = d := ⟨_, rfl⟩
  rw [hd] at hds HRE ⊢
  have e59 : (⟨#[59]⟩ : ByteArray).size = 1 := rfl
  have hadd1 : ∀ w', (Op.stringOp .add d ⟨#[59]⟩).run Tryd.prog w' = .ok (.string (d ++ ⟨#[59]⟩)) w' := fun w' => run_string_add_sum _ _ _ (by omega)
  have hs2 : (d ++ (⟨#[59]⟩ : ByteArray)).size ≤ 21 := by rw [ByteArray.size_append]; omega
  obtain ⟨dc, hdc⟩ : ∃ dc, d ++ (⟨#[59]⟩ : ByteArray) = dc := ⟨_, rfl⟩
  rw [hdc] at hadd1 hs2 HRE
  have hadd2 : ∀ w', (Op.stringOp .add dc lt).run Tryd.prog w' = .ok (.string (dc ++ lt)) w' := fun w' => run_string_add_sum _ _ _ (by omega)
  clear hb3 hd hdc e59 hs2 hls hds hlz i0
  go_wp2
  go_ret2
  exact ⟨by rw [HRE.out]; rfl, HB3.out⟩

end Go.Proofs.YtmmpemfhbnkomaaDoor
