/- The text of zeros, in both texts. The text of a window, in both texts. -/
import Derived.Test.YtmmpemfhbnkomaaDoorQRw21
import Derived.Test.YtmmpemfhbnkomaaDoorQRw8
import Derived.Test.YtmmpemfhbnkomaaDoorQRw0
import Derived.Test.YtmmpemfhbnkomaaDoorQRw4
set_option linter.unusedVariables false
set_option linter.unusedSimpArgs false
namespace Go.Proofs.YtmmpemfhbnkomaaDoor
open Go.RowKit

def zerV (Z : Int) (zs : List Int) : Bool := valsB zs && zerosB Z zs
def zerT (Z : Int) (zs : List Int) : ByteArray := if zerV Z zs then (decT Z ++ ⟨#[59]⟩) ++ lstT zs else ⟨#[]⟩
theorem zeros_in {Z : Int} {zs : List Int} (h : zerosB Z zs = true) : -9223372036854775808 ≤ Z ∧ Z ≤ 9223372036854775807 := by
  unfold zerosB at h
  simp only [Bool.and_eq_true] at h
  have := isKey_bd h.1.1
  omega
theorem lt_size {xs : List Int} (h : valsB xs = true) : (ltT xs).size ≤ 1400 := by
  rw [ltT_yes h]
  have h1 := valsB_in h
  have := lstT_size h1.1
  omega

set_option maxRecDepth 20000 in
set_option maxHeartbeats 2000000 in
theorem zerosText_any {a : Option Addr} {c : Nat} {zs : List Int} {Z : Int} {w : World} (hT : PTab w) (hr : Rd (Value.int .i64) w a c zs) :
    Calls Tryd.prog 39 #[.agg #[.int .i64 Z, .slice a zs.length c]] w fun e w' => e = .returned (.tuple #[.string (zerT Z zs), .bool (zerV Z zs)]) ∧ Below w.heap.size w w' := by
  have B0 : Below w.heap.size w (w.alloc (.cells #[.int .i64 Z, .slice a zs.length c] 37)) := (Below.refl _ _).alloc (Nat.le_refl _) _
  have I0 : Blk (w.alloc (.cells #[.int .i64 Z, .slice a zs.length c] 37)) w.heap.size #[.int .i64 Z, .slice a zs.length c] 37 := Blk.new _ _ _
  have H0 := Lib.hid (And.intro B0 I0)
  have HR := Lib.hid hr
  have HT := Lib.hid hT
  clear B0 I0 hr hT
  cases hv : valsB zs with
  | false =>
    have he : zerV Z zs = false := by unfold zerV; rw [hv]; rfl
    have he2 : zerT Z zs = ⟨#[]⟩ := by unfold zerT; rw [he]; rfl
    rw [he, he2]
    clear he he2
    go_enter Tryd.func39, Tryd.ntmps39
    go_wp2_with fail
    generalize (w.alloc (.cells #[.int .i64 Z, .slice a zs.length c] 37)) = w0 at H0 ⊢
    refine (implListText_any (HT.out.below H0.out.1 (Nat.le_refl _)) (HR.out.below H0.out.1 (Nat.le_refl _))).mono ?_
    rintro e w1 ⟨rfl, hb1⟩
    rw [hv]
    have HB1 := Lib.hid (H0.out.1.trans (hb1.mono H0.out.1.size))
    have HI1 := Lib.hid (H0.out.2.below hb1 (Nat.le_refl _))
    clear hb1 H0
    go_wp2
    go_ret2
    exact ⟨rfl, HB1.out⟩
  | true =>
  have hlz := lt_size hv
  cases hz : zerosB Z zs with
  | false =>
    have he : zerV Z zs = false := by unfold zerV; rw [hv, hz]; rfl
    have he2 : zerT Z zs = ⟨#[]⟩ := by unfold zerT; rw [he]; rfl
    rw [he, he2]
    clear he he2
    go_enter Tryd.func39, Tryd.ntmps39
    go_wp2_with fail
    generalize (w.alloc (.cells #[.int .i64 Z, .slice a zs.length c] 37)) = w0 at H0 ⊢
    refine (implListText_any (HT.out.below H0.out.1 (Nat.le_refl _)) (HR.out.below H0.out.1 (Nat.le_refl _))).mono ?_
    rintro e w1 ⟨rfl, hb1⟩
    rw [hv]
    have HB1 := Lib.hid (H0.out.1.trans (hb1.mono H0.out.1.size))
    have HI1 := Lib.hid (H0.out.2.below hb1 (Nat.le_refl _))
    clear hb1 H0
    have i0 := HI1.out.cell (i := 0) (v := .int .i64 Z) rfl
    have i1 := HI1.out.cell (i := 1) (v := .slice a zs.length c) rfl
    obtain ⟨lt, hlt⟩ : ∃ l, ltT zs = l := ⟨_, rfl⟩
    have HLT := Lib.hid hlt
    rw [hlt]
    clear hlt
    go_wp2_with fail
    refine (validZeros_any (HR.out.below HB1.out (Nat.le_refl _))).mono ?_
    rintro e w2 ⟨rfl, hb2⟩
    rw [hz]
    have HB2 := Lib.hid (HB1.out.trans (hb2.mono HB1.out.size))
    have HI2 := Lib.hid (HI1.out.below hb2 (Nat.le_refl _))
    clear hb2 i0 i1
    go_wp2
    go_ret2
    exact ⟨rfl, HB2.out⟩
  | true =>
  have hzb := zeros_in hz
  have hds := decT_size hzb.1 hzb.2
  have he : zerV Z zs = true := by unfold zerV; rw [hv, hz]; rfl
  rw [he]
  obtain ⟨res, hres⟩ : ∃ r, zerT Z zs = r := ⟨_, rfl⟩
  have HRES : Hid (res = (decT Z ++ ⟨#[59]⟩) ++ lstT zs) := Lib.hid (by rw [← hres]; unfold zerT; rw [he]; rfl)
  rw [hres]
  clear hres he
  go_enter Tryd.func39, Tryd.ntmps39
  go_wp2_with fail
  generalize (w.alloc (.cells #[.int .i64 Z, .slice a zs.length c] 37)) = w0 at H0 ⊢
  refine (implListText_any (HT.out.below H0.out.1 (Nat.le_refl _)) (HR.out.below H0.out.1 (Nat.le_refl _))).mono ?_
  rintro e w1 ⟨rfl, hb1⟩
  rw [hv]
  have HB1 := Lib.hid (H0.out.1.trans (hb1.mono H0.out.1.size))
  have HI1 := Lib.hid (H0.out.2.below hb1 (Nat.le_refl _))
  clear hb1 H0
  have i0 := HI1.out.cell (i := 0) (v := .int .i64 Z) rfl
  have i1 := HI1.out.cell (i := 1) (v := .slice a zs.length c) rfl
  obtain ⟨lt, hlt⟩ : ∃ l, ltT zs = l := ⟨_, rfl⟩
  have HLT := Lib.hid hlt
  rw [hlt]
  clear hlt
  go_wp2_with fail
  refine (validZeros_any (HR.out.below HB1.out (Nat.le_refl _))).mono ?_
  rintro e w2 ⟨rfl, hb2⟩
  rw [hz]
  have HB2 := Lib.hid (HB1.out.trans (hb2.mono HB1.out.size))
  have HI2 := Lib.hid (HI1.out.below hb2 (Nat.le_refl _))
  clear hb2 i0 i1
  have i0 := HI2.out.cell (i := 0) (v := .int .i64 Z) rfl
  go_wp2_with fail
  refine (decimal_any (HT.out.below HB2.out (Nat.le_refl _)) hzb.1 hzb.2).mono ?_
  rintro e w3 ⟨rfl, hb3⟩
  have HB3 := Lib.hid (HB2.out.trans (hb3.mono HB2.out.size))
  have hls : lt.size ≤ 1400 := by rw [← HLT.out]; exact hlz
  have HRE : Hid (res = (decT Z ++ ⟨#[59]⟩) ++ lt) := Lib.hid (by rw [HRES.out, ← HLT.out, ltT_yes hv])
  obtain ⟨d, hd⟩ : ∃ d, decT Z = d := ⟨_, rfl⟩
  rw [hd] at hds HRE ⊢
  have e59 : (⟨#[59]⟩ : ByteArray).size = 1 := rfl
  have hadd1 : ∀ w', (Op.stringOp .add d ⟨#[59]⟩).run Tryd.prog w' = .ok (.string (d ++ ⟨#[59]⟩)) w' := fun w' => run_string_add_sum _ _ _ (by omega)
  have hs2 : (d ++ (⟨#[59]⟩ : ByteArray)).size ≤ 21 := by rw [ByteArray.size_append]; omega
  obtain ⟨dc, hdc⟩ : ∃ dc, d ++ (⟨#[59]⟩ : ByteArray) = dc := ⟨_, rfl⟩
  rw [hdc] at hadd1 hs2 HRE
  have hadd2 : ∀ w', (Op.stringOp .add dc lt).run Tryd.prog w' = .ok (.string (dc ++ lt)) w' := fun w' => run_string_add_sum _ _ _ (by omega)
  clear hb3 hd hdc e59 hs2 hls hds hlz i0
  go_wp2
  go_ret2
  exact ⟨by rw [HRE.out]; rfl, HB3.out⟩

end Go.Proofs.YtmmpemfhbnkomaaDoor

namespace Go.Proofs.YtmmpemfhbnkomaaDoor
open Go.RowKit

def winTV (L P : Int) (ts ss : List Int) : Bool := valsB ts && valsB ss && winB L P ts ss
def winT (L P : Int) (ts ss : List Int) : ByteArray := if winTV L P ts ss then (((lstT [L, P] ++ ⟨#[59]⟩) ++ lstT ts) ++ ⟨#[59]⟩) ++ lstT ss else ⟨#[]⟩
theorem win_in {L P : Int} {ts ss : List Int} (h : winB L P ts ss = true) : InB [L, P] := by
  have h := winB_parts h
  intro k hk
  match k, hk with
  | 0, _ => show _ ≤ L ∧ L ≤ _; omega
  | 1, _ => show _ ≤ P ∧ P ≤ _; omega

set_option maxRecDepth 20000 in
set_option maxHeartbeats 4000000 in
theorem windowText_any {ta sa : Option Addr} {tc sc : Nat} {ts ss : List Int} {L P : Int} {w : World} (hT : PTab w) (ht : Rd (Value.int .i64) w ta tc ts) (hs : Rd (Value.int .i64) w sa sc ss) :
    Calls Tryd.prog 45 #[.agg #[.int .i64 L, .int .i64 P, .slice ta ts.length tc, .slice sa ss.length sc]] w fun e w' => e = .returned (.tuple #[.string (winT L P ts ss), .bool (winTV L P ts ss)]) ∧ Below w.heap.size w w' := by
  have B0 : Below w.heap.size w (w.alloc (.cells #[.int .i64 L, .int .i64 P, .slice ta ts.length tc, .slice sa ss.length sc] 43)) := (Below.refl _ _).alloc (Nat.le_refl _) _
  have I0 : Blk (w.alloc (.cells #[.int .i64 L, .int .i64 P, .slice ta ts.length tc, .slice sa ss.length sc] 43)) w.heap.size #[.int .i64 L, .int .i64 P, .slice ta ts.length tc, .slice sa ss.length sc] 43 := Blk.new _ _ _
  have H0 := Lib.hid (And.intro B0 I0)
  have HR := Lib.hid (And.intro ht hs)
  have HT := Lib.hid hT
  clear B0 I0 ht hs hT
  cases hv1 : valsB ts with
  | false =>
    have he : winTV L P ts ss = false := by unfold winTV; rw [hv1]; rfl
    have he2 : winT L P ts ss = ⟨#[]⟩ := by unfold winT; rw [he]; rfl
    rw [he, he2]
    clear he he2
    go_enter Tryd.func45, Tryd.ntmps45
    go_wp2_with fail
    generalize (w.alloc (.cells #[.int .i64 L, .int .i64 P, .slice ta ts.length tc, .slice sa ss.length sc] 43)) = w0 at H0 ⊢
    refine (implListText_any (HT.out.below H0.out.1 (Nat.le_refl _)) (HR.out.1.below H0.out.1 (Nat.le_refl _))).mono ?_
    rintro e w1 ⟨rfl, hb1⟩
    have HB1 := Lib.hid (H0.out.1.trans (hb1.mono H0.out.1.size))
    have HI1 := Lib.hid (H0.out.2.below hb1 (Nat.le_refl _))
    clear hb1 H0
    obtain ⟨lt, hlt⟩ : ∃ l, ltT ts = l := ⟨_, rfl⟩
    have HLT := Lib.hid hlt
    rw [hlt, hv1]
    clear hlt
    have i3 := HI1.out.cell (i := 3) (v := .slice sa ss.length sc) rfl
    go_wp2_with fail
    refine (implListText_any (HT.out.below HB1.out (Nat.le_refl _)) (HR.out.2.below HB1.out (Nat.le_refl _))).mono ?_
    rintro e w2 ⟨rfl, hb2⟩
    have HB2 := Lib.hid (HB1.out.trans (hb2.mono HB1.out.size))
    have HI2 := Lib.hid (HI1.out.below hb2 (Nat.le_refl _))
    clear hb2 HI1 i3
    obtain ⟨ls, hls⟩ : ∃ l, ltT ss = l := ⟨_, rfl⟩
    have HLS := Lib.hid hls
    rw [hls]
    clear hls
    obtain ⟨v2, hv2⟩ : ∃ b, valsB ss = b := ⟨_, rfl⟩
    rw [hv2]
    clear hv2
    go_wp2
    go_ret2
    exact ⟨rfl, HB2.out⟩
  | true =>
  have hz1 := lt_size hv1
  cases hv2 : valsB ss with
  | false =>
    have he : winTV L P ts ss = false := by unfold winTV; rw [hv1, hv2]; rfl
    have he2 : winT L P ts ss = ⟨#[]⟩ := by unfold winT; rw [he]; rfl
    rw [he, he2]
    clear he he2
    go_enter Tryd.func45, Tryd.ntmps45
    go_wp2_with fail
    generalize (w.alloc (.cells #[.int .i64 L, .int .i64 P, .slice ta ts.length tc, .slice sa ss.length sc] 43)) = w0 at H0 ⊢
    refine (implListText_any (HT.out.below H0.out.1 (Nat.le_refl _)) (HR.out.1.below H0.out.1 (Nat.le_refl _))).mono ?_
    rintro e w1 ⟨rfl, hb1⟩
    have HB1 := Lib.hid (H0.out.1.trans (hb1.mono H0.out.1.size))
    have HI1 := Lib.hid (H0.out.2.below hb1 (Nat.le_refl _))
    clear hb1 H0
    obtain ⟨lt, hlt⟩ : ∃ l, ltT ts = l := ⟨_, rfl⟩
    have HLT := Lib.hid hlt
    rw [hlt, hv1]
    clear hlt
    have i3 := HI1.out.cell (i := 3) (v := .slice sa ss.length sc) rfl
    go_wp2_with fail
    refine (implListText_any (HT.out.below HB1.out (Nat.le_refl _)) (HR.out.2.below HB1.out (Nat.le_refl _))).mono ?_
    rintro e w2 ⟨rfl, hb2⟩
    have HB2 := Lib.hid (HB1.out.trans (hb2.mono HB1.out.size))
    have HI2 := Lib.hid (HI1.out.below hb2 (Nat.le_refl _))
    clear hb2 HI1 i3
    obtain ⟨ls, hls⟩ : ∃ l, ltT ss = l := ⟨_, rfl⟩
    have HLS := Lib.hid hls
    rw [hls]
    clear hls
    rw [hv2]
    go_wp2
    go_ret2
    exact ⟨rfl, HB2.out⟩
  | true =>
  have hz2 := lt_size hv2
  cases hv3 : winB L P ts ss with
  | false =>
    have he : winTV L P ts ss = false := by unfold winTV; rw [hv1, hv2, hv3]; rfl
    have he2 : winT L P ts ss = ⟨#[]⟩ := by unfold winT; rw [he]; rfl
    rw [he, he2]
    clear he he2
    go_enter Tryd.func45, Tryd.ntmps45
    go_wp2_with fail
    generalize (w.alloc (.cells #[.int .i64 L, .int .i64 P, .slice ta ts.length tc, .slice sa ss.length sc] 43)) = w0 at H0 ⊢
    refine (implListText_any (HT.out.below H0.out.1 (Nat.le_refl _)) (HR.out.1.below H0.out.1 (Nat.le_refl _))).mono ?_
    rintro e w1 ⟨rfl, hb1⟩
    have HB1 := Lib.hid (H0.out.1.trans (hb1.mono H0.out.1.size))
    have HI1 := Lib.hid (H0.out.2.below hb1 (Nat.le_refl _))
    clear hb1 H0
    obtain ⟨lt, hlt⟩ : ∃ l, ltT ts = l := ⟨_, rfl⟩
    have HLT := Lib.hid hlt
    rw [hlt, hv1]
    clear hlt
    have i3 := HI1.out.cell (i := 3) (v := .slice sa ss.length sc) rfl
    go_wp2_with fail
    refine (implListText_any (HT.out.below HB1.out (Nat.le_refl _)) (HR.out.2.below HB1.out (Nat.le_refl _))).mono ?_
    rintro e w2 ⟨rfl, hb2⟩
    have HB2 := Lib.hid (HB1.out.trans (hb2.mono HB1.out.size))
    have HI2 := Lib.hid (HI1.out.below hb2 (Nat.le_refl _))
    clear hb2 HI1 i3
    obtain ⟨ls, hls⟩ : ∃ l, ltT ss = l := ⟨_, rfl⟩
    have HLS := Lib.hid hls
    rw [hls]
    clear hls
    rw [hv2]
    have i0 := HI2.out.cell (i := 0) (v := .int .i64 L) rfl
    have i1 := HI2.out.cell (i := 1) (v := .int .i64 P) rfl
    have i2 := HI2.out.cell (i := 2) (v := .slice ta ts.length tc) rfl
    have i3 := HI2.out.cell (i := 3) (v := .slice sa ss.length sc) rfl
    go_wp2_with fail
    refine (validWindow_any (HR.out.1.below HB2.out (Nat.le_refl _)) (HR.out.2.below HB2.out (Nat.le_refl _))).mono ?_
    rintro e w3 ⟨rfl, hb3⟩
    rw [hv3]
    have HB3 := Lib.hid (HB2.out.trans (hb3.mono HB2.out.size))
    have HI3 := Lib.hid (HI2.out.below hb3 (Nat.le_refl _))
    clear hb3 HI2 i0 i1 i2 i3
    go_wp2
    go_ret2
    exact ⟨rfl, HB3.out⟩
  | true =>
  have HIN := Lib.hid (win_in hv3)
  have hl46 := lstT_size HIN.out
  simp at hl46
  have he : winTV L P ts ss = true := by unfold winTV; rw [hv1, hv2, hv3]; rfl
  rw [he]
  obtain ⟨res, hres⟩ : ∃ r, winT L P ts ss = r := ⟨_, rfl⟩
  have HRES : Hid (res = (((lstT [L, P] ++ ⟨#[59]⟩) ++ lstT ts) ++ ⟨#[59]⟩) ++ lstT ss) := Lib.hid (by rw [← hres]; unfold winT; rw [he]; rfl)
  rw [hres]
  clear hres he
  go_enter Tryd.func45, Tryd.ntmps45
  go_wp2_with fail
  generalize (w.alloc (.cells #[.int .i64 L, .int .i64 P, .slice ta ts.length tc, .slice sa ss.length sc] 43)) = w0 at H0 ⊢
  refine (implListText_any (HT.out.below H0.out.1 (Nat.le_refl _)) (HR.out.1.below H0.out.1 (Nat.le_refl _))).mono ?_
  rintro e w1 ⟨rfl, hb1⟩
  have HB1 := Lib.hid (H0.out.1.trans (hb1.mono H0.out.1.size))
  have HI1 := Lib.hid (H0.out.2.below hb1 (Nat.le_refl _))
  clear hb1 H0
  obtain ⟨lt, hlt⟩ : ∃ l, ltT ts = l := ⟨_, rfl⟩
  have HLT := Lib.hid hlt
  rw [hlt, hv1]
  clear hlt
  have i3 := HI1.out.cell (i := 3) (v := .slice sa ss.length sc) rfl
  go_wp2_with fail
  refine (implListText_any (HT.out.below HB1.out (Nat.le_refl _)) (HR.out.2.below HB1.out (Nat.le_refl _))).mono ?_
  rintro e w2 ⟨rfl, hb2⟩
  have HB2 := Lib.hid (HB1.out.trans (hb2.mono HB1.out.size))
  have HI2 := Lib.hid (HI1.out.below hb2 (Nat.le_refl _))
  clear hb2 HI1 i3
  obtain ⟨ls, hls⟩ : ∃ l, ltT ss = l := ⟨_, rfl⟩
  have HLS := Lib.hid hls
  rw [hls]
  clear hls
  rw [hv2]
  have i0 := HI2.out.cell (i := 0) (v := .int .i64 L) rfl
  have i1 := HI2.out.cell (i := 1) (v := .int .i64 P) rfl
  have i2 := HI2.out.cell (i := 2) (v := .slice ta ts.length tc) rfl
  have i3 := HI2.out.cell (i := 3) (v := .slice sa ss.length sc) rfl
  go_wp2_with fail
  refine (validWindow_any (HR.out.1.below HB2.out (Nat.le_refl _)) (HR.out.2.below HB2.out (Nat.le_refl _))).mono ?_
  rintro e w3 ⟨rfl, hb3⟩
  rw [hv3]
  have HB3 := Lib.hid (HB2.out.trans (hb3.mono HB2.out.size))
  have HI3 := Lib.hid (HI2.out.below hb3 (Nat.le_refl _))
  clear hb3 HI2 i0 i1 i2 i3
  have i0 := HI3.out.cell (i := 0) (v := .int .i64 L) rfl
  have i1 := HI3.out.cell (i := 1) (v := .int .i64 P) rfl
  have HBL := Lib.hid ((Below.refl w3.heap.size w3).alloc (Nat.le_refl _) (.cells (([L, P] : List Int).map (Value.int .i64)).toArray 2))
  have HC := Lib.hid (listText_any (w := w3.alloc (.cells (([L, P] : List Int).map (Value.int .i64)).toArray 2)) ((HT.out.below HB3.out (Nat.le_refl _)).below HBL.out (Nat.le_refl _)) (own_lit (f := Value.int .i64) w3 w3.heap.size [L, P] (Nat.le_refl _) (by simp [maxLen])).rd HIN.out (by simp))
  go_wp2_with fail
  refine HC.out.mono ?_
  rintro e w4 ⟨rfl, hb4⟩
  have HB4 := Lib.hid (HB3.out.trans ((HBL.out.trans (hb4.mono HBL.out.size)).mono HB3.out.size))
  have HRE : Hid (res = (((lstT [L, P] ++ ⟨#[59]⟩) ++ lt) ++ ⟨#[59]⟩) ++ ls) := Lib.hid (by rw [HRES.out, ← HLT.out, ← HLS.out, ltT_yes hv1, ltT_yes hv2])
  have hlt : lt.size ≤ 1400 := by rw [← HLT.out]; exact hz1
  have hls : ls.size ≤ 1400 := by rw [← HLS.out]; exact hz2
  obtain ⟨l, hl⟩ : ∃ l, lstT [L, P] = l := ⟨_, rfl⟩
  rw [hl] at hl46 HRE ⊢
  clear hl hb4 HC HBL i0 i1
  have e59 : (⟨#[59]⟩ : ByteArray).size = 1 := rfl
  have hadd1 : ∀ w', (Op.stringOp .add l ⟨#[59]⟩).run Tryd.prog w' = .ok (.string (l ++ ⟨#[59]⟩)) w' := fun w' => run_string_add_sum _ _ _ (by omega)
  have hs1 : (l ++ (⟨#[59]⟩ : ByteArray)).size ≤ 101 := by rw [ByteArray.size_append]; omega
  obtain ⟨x1, hx1⟩ : ∃ x, l ++ (⟨#[59]⟩ : ByteArray) = x := ⟨_, rfl⟩
  rw [hx1] at hadd1 hs1 HRE
  have hadd2 : ∀ w', (Op.stringOp .add x1 lt).run Tryd.prog w' = .ok (.string (x1 ++ lt)) w' := fun w' => run_string_add_sum _ _ _ (by omega)
  have hs2 : (x1 ++ lt).size ≤ 1501 := by rw [ByteArray.size_append]; omega
  obtain ⟨x2, hx2⟩ : ∃ x, x1 ++ lt = x := ⟨_, rfl⟩
  rw [hx2] at hadd2 hs2 HRE
  have hadd3 : ∀ w', (Op.stringOp .add x2 ⟨#[59]⟩).run Tryd.prog w' = .ok (.string (x2 ++ ⟨#[59]⟩)) w' := fun w' => run_string_add_sum _ _ _ (by omega)
  have hs3 : (x2 ++ (⟨#[59]⟩ : ByteArray)).size ≤ 1502 := by rw [ByteArray.size_append]; omega
  obtain ⟨x3, hx3⟩ : ∃ x, x2 ++ (⟨#[59]⟩ : ByteArray) = x := ⟨_, rfl⟩
  rw [hx3] at hadd3 hs3 HRE
  have hadd4 : ∀ w', (Op.stringOp .add x3 ls).run Tryd.prog w' = .ok (.string (x3 ++ ls)) w' := fun w' => run_string_add_sum _ _ _ (by omega)
  clear hx1 hx2 hx3 e59 hs1 hs2 hs3 hlt hls hl46 hz1 hz2
  go_wp2
  go_ret2
  exact ⟨by rw [HRE.out]; rfl, HB4.out⟩

end Go.Proofs.YtmmpemfhbnkomaaDoor
