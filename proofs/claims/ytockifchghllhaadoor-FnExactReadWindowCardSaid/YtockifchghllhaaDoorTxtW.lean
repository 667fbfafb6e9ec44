/- The text of a window, in both texts. -/
import Derived.Test.YtockifchghllhaaDoorTxtZ
import Derived.Test.YtockifchghllhaaDoorWinV
import Derived.Test.YtockifchghllhaaDoorWinS
import Derived.Test.YtockifchghllhaaDoorWinL
namespace Go.Proofs.YtockifchghllhaaDoor
open Go.RowKit

def winTV (L P : Int) (ts ss : List Int) : Bool := valsB ts && valsB ss && winB L P ts ss
def winT (L P : Int) (ts ss : List Int) : ByteArray := if winTV L P ts ss then (((lstT [L, P] ++ ⟨#[59]⟩) ++ lstT ts) ++ ⟨#[59]⟩) ++ lstT ss else ⟨#[]⟩
theorem win_in {L P : Int} {ts ss : List Int} (h : winB L P ts ss = true) : InB [L, P] := by
  have h := winB_parts h
  intro k hk
  match k, hk with
  | 0, _ => show _ ≤ L ∧ L ≤ _; omega
  | 1, _ => show _ ≤ P ∧ P ≤ _; omega

set_option maxRecDepth 20000 in
set_option maxHeartbeats 4000000 in
theorem windowText_any {ta sa : Option Addr} {tc sc : Nat} {ts ss : List Int} {L P : Int} {w : World} (hT : PTab w) (ht : Rd (Value.int .i64) w ta tc ts) (hs : Rd (Value.int .i64) w sa sc ss) :
    Calls Tryd.prog 36 #[.agg #[.int .i64 L, .int .i64 P, .slice ta ts.length tc, .slice sa ss.length sc]] w fun e w' => e = .returned (.tuple #[.string (winT L P ts ss), .bool (winTV L P ts ss)]) ∧ Below w.heap.size w w' := by
  have B0 : Below w.heap.size w (w.alloc (.cells #[.int .i64 L, .int .i64 P, .slice ta ts.length tc, .slice sa ss.length sc] 56)) := (Below.refl _ _).alloc (Nat.le_refl _) _
  have I0 : Blk (w.alloc (.cells #[.int .i64 L, .int .i64 P, .slice ta ts.length tc, .slice sa ss.length sc] 56)) w.heap.size #[.int .i64 L, .int .i64 P, .slice ta ts.length tc, .slice sa ss.length sc] 56 := Blk.new _ _ _
  have H0 := Lib.hid (And.intro B0 I0)
  have HR := Lib.hid (And.intro ht hs)
  have HT := Lib.hid hT
  clear B0 I0 ht hs hT
  cases hv1 : valsB ts with
  | false =>
    have he : winTV L P ts ss = false := by unfold winTV; rw [hv1]; rfl
    have he2 : winT L P ts ss = ⟨#[]⟩ := by unfold winT; rw [he]; rfl
    rw [he, he2]
    clear he he2
    go_enter Tryd.func36, Tryd.ntmps36
    go_wp2_with fail
    generalize (w.alloc (.cells #[.int .i64 L, .int .i64 P, .slice ta ts.length tc, .slice sa ss.length sc] 56)) = w0 at H0 ⊢
    refine (implListText_any (HT.out.below H0.out.1 (Nat.le_refl _)) (HR.out.1.below H0.out.1 (Nat.le_refl _))).mono ?_
    rintro e w1 ⟨rfl, hb1⟩
    have HB1 := Lib.hid (H0.out.1.trans (hb1.mono H0.out.1.size))
    have HI1 := Lib.hid (H0.out.2.below hb1 (Nat.le_refl _))
    clear hb1 H0
    obtain ⟨lt, hlt⟩ : ∃ l, ltT ts = l := ⟨_, rfl⟩
    have HLT := Lib.hid hlt
    rw [hlt, hv1]
    clear hlt
    have i3 := HI1.out.cell (i := 3) (v := .slice sa ss.length sc) rfl
    go_wp2_with fail
    refine (implListText_any (HT.out.below HB1.out (Nat.le_refl _)) (HR.out.2.below HB1.out (Nat.le_refl _))).mono ?_
    rintro e w2 ⟨rfl, hb2⟩
    have HB2 := Lib.hid (HB1.out.trans (hb2.mono HB1.out.size))
    have HI2 := Lib.hid (HI1.out.below hb2 (Nat.le_refl _))
    clear hb2 HI1 i3
    obtain ⟨ls, hls⟩ : ∃ l, ltT ss = l := ⟨_, rfl⟩
    have HLS := Lib.hid hls
    rw [hls]
    clear hls
    obtain ⟨v2, hv2⟩ : ∃ b, valsB ss = b := ⟨_, rfl⟩
    rw [hv2]
    clear hv2
    go_wp2
    go_ret2
    exact ⟨rfl, HB2.out⟩
  | true =>
  have hz1 := lt_size hv1
  cases hv2 : valsB ss with
  | false =>
    have he : winTV L P ts ss = false := by unfold winTV; rw [hv1, hv2]; rfl
    have he2 : winT L P ts ss = ⟨#[]⟩ := by unfold winT; rw [he]; rfl
    rw [he, he2]
    clear he he2
    go_enter Tryd.func36, Tryd.ntmps36
    go_wp2_with fail
    generalize (w.alloc (.cells #[.int .i64 L, .int .i64 P, .slice ta ts.length tc, .slice sa ss.length sc] 56)) = w0 at H0 ⊢
    refine (implListText_any (HT.out.below H0.out.1 (Nat.le_refl _)) (HR.out.1.below H0.out.1 (Nat.le_refl _))).mono ?_
    rintro e w1 ⟨rfl, hb1⟩
    have HB1 := Lib.hid (H0.out.1.trans (hb1.mono H0.out.1.size))
    have HI1 := Lib.hid (H0.out.2.below hb1 (Nat.le_refl _))
    clear hb1 H0
    obtain ⟨lt, hlt⟩ : ∃ l, ltT ts = l := ⟨_, rfl⟩
    have HLT := Lib.hid hlt
    rw [hlt, hv1]
    clear hlt
    have i3 := HI1.out.cell (i := 3) (v := .slice sa ss.length sc) rfl
    go_wp2_with fail
    refine (implListText_any (HT.out.below HB1.out (Nat.le_refl _)) (HR.out.2.below HB1.out (Nat.le_refl _))).mono ?_
    rintro e w2 ⟨rfl, hb2⟩
    have HB2 := Lib.hid (HB1.out.trans (hb2.mono HB1.out.size))
    have HI2 := Lib.hid (HI1.out.below hb2 (Nat.le_refl _))
    clear hb2 HI1 i3
    obtain ⟨ls, hls⟩ : ∃ l, ltT ss = l := ⟨_, rfl⟩
    have HLS := Lib.hid hls
    rw [hls]
    clear hls
    rw [hv2]
    go_wp2
    go_ret2
    exact ⟨rfl, HB2.out⟩
  | true =>
  have hz2 := lt_size hv2
  cases hv3 : winB L P ts ss with
  | false =>
    have he : winTV L P ts ss = false := by unfold winTV; rw [hv1, hv2, hv3]; rfl
    have he2 : winT L P ts ss = ⟨#[]⟩ := by unfold winT; rw [he]; rfl
    rw [he, he2]
    clear he he2
    go_enter Tryd.func36, Tryd.ntmps36
    go_wp2_with fail
    generalize (w.alloc (.cells #[.int .i64 L, .int .i64 P, .slice ta ts.length tc, .slice sa ss.length sc] 56)) = w0 at H0 ⊢
    refine (implListText_any (HT.out.below H0.out.1 (Nat.le_refl _)) (HR.out.1.below H0.out.1 (Nat.le_refl _))).mono ?_
    rintro e w1 ⟨rfl, hb1⟩
    have HB1 := Lib.hid (H0.out.1.trans (hb1.mono H0.out.1.size))
    have HI1 := Lib.hid (H0.out.2.below hb1 (Nat.le_refl _))
    clear hb1 H0
    obtain ⟨lt, hlt⟩ : ∃ l, ltT ts = l := ⟨_, rfl⟩
    have HLT := Lib.hid hlt
    rw [hlt, hv1]
    clear hlt
    have i3 := HI1.out.cell (i := 3) (v := .slice sa ss.length sc) rfl
    go_wp2_with fail
    refine (implListText_any (HT.out.below HB1.out (Nat.le_refl _)) (HR.out.2.below HB1.out (Nat.le_refl _))).mono ?_
    rintro e w2 ⟨rfl, hb2⟩
    have HB2 := Lib.hid (HB1.out.trans (hb2.mono HB1.out.size))
    have HI2 := Lib.hid (HI1.out.below hb2 (Nat.le_refl _))
    clear hb2 HI1 i3
    obtain ⟨ls, hls⟩ : ∃ l, ltT ss = l := ⟨_, rfl⟩
    have HLS := Lib.hid hls
    rw [hls]
    clear hls
    rw [hv2]
    have i0 := HI2.out.cell (i := 0) (v := .int .i64 L) rfl
    have i1 := HI2.out.cell (i := 1) (v := .int .i64 P) rfl
    have i2 := HI2.out.cell (i := 2) (v := .slice ta ts.length tc) rfl
    have i3 := HI2.out.cell (i := 3) (v := .slice sa ss.length sc) rfl
    go_wp2_with fail
    refine (validWindow_any (HR.out.1.below HB2.out (Nat.le_refl _)) (HR.out.2.below HB2.out (Nat.le_refl _))).mono ?_
    rintro e w3 ⟨rfl, hb3⟩
    rw [hv3]
    have HB3 := Lib.hid (HB2.out.trans (hb3.mono HB2.out.size))
    have HI3 := Lib.hid (HI2.out.below hb3 (Nat.le_refl _))
    clear hb3 HI2 i0 i1 i2 i3
    go_wp2
    go_ret2
    exact ⟨rfl, HB3.out⟩
  | true =>
  have HIN := Lib.hid (win_in hv3)
  have hl46 := lstT_size HIN.out
  simp at hl46
  have he : winTV L P ts ss = true := by unfold winTV; rw [hv1, hv2, hv3]; rfl
  rw [he]
  obtain ⟨res, hres⟩ : ∃ r, winT L P ts ss = r := ⟨_, rfl⟩
  have HRES : Hid (res = (((lstT [L, P] ++ ⟨#[59]⟩) ++ lstT ts) ++ ⟨#[59]⟩) ++ lstT ss) := Lib.hid (by rw [← hres]; unfold winT; rw [he]; rfl)
  rw [hres]
  clear hres he
  go_enter Tryd.func36, Tryd.ntmps36
  go_wp2_with fail
  generalize (w.alloc (.cells #[.int .i64 L, .int .i64 P, .slice ta ts.length tc, .slice sa ss.length sc] 56)) = w0 at H0 ⊢
  refine (implListText_any (HT.out.below H0.out.1 (Nat.le_refl _)) (HR.out.1.below H0.out.1 (Nat.le_refl _))).mono ?_
  rintro e w1 ⟨rfl, hb1⟩
  have HB1 := Lib.hid (H0.out.1.trans (hb1.mono H0.out.1.size))
  have HI1 := Lib.hid (H0.out.2.below hb1 (Nat.le_refl _))
  clear hb1 H0
  obtain ⟨lt, hlt⟩ : ∃ l, ltT ts = l := ⟨_, rfl⟩
  have HLT := Lib.hid hlt
  rw [hlt, hv1]
  clear hlt
  have i3 := HI1.out.cell (i := 3) (v := .slice sa ss.length sc) rfl
  go_wp2_with fail
  refine (implListText_any (HT.out.below HB1.out (Nat.le_refl _)) (HR.out.2.below HB1.out (Nat.le_refl _))).mono ?_
  rintro e w2 ⟨rfl, hb2⟩
  have HB2 := Lib.hid (HB1.out.trans (hb2.mono HB1.out.size))
  have HI2 := Lib.hid (HI1.out.below hb2 (Nat.le_refl _))
  clear hb2 HI1 i3
  obtain ⟨ls, hls⟩ : ∃ l, ltT ss = l := ⟨_, rfl⟩
  have HLS := Lib.hid hls
  rw [hls]
  clear hls
  rw [hv2]
  have i0 := HI2.out.cell (i := 0) (v := .int .i64 L) rfl
  have i1 := HI2.out.cell (i := 1) (v := .int .i64 P) rfl
  have i2 := HI2.out.cell (i := 2) (v := .slice ta ts.length tc) rfl
  have i3 := HI2.out.cell (i := 3) (v := .slice sa ss.length sc) rfl
  go_wp2_with fail
  refine (validWindow_any (HR.out.1.below HB2.out (Nat.le_refl _)) (HR.out.2.below HB2.out (Nat.le_refl _))).mono ?_
  rintro e w3 ⟨rfl, hb3⟩
  rw [hv3]
  have HB3 := Lib.hid (HB2.out.trans (hb3.mono HB2.out.size))
  have HI3 := Lib.hid (HI2.out.below hb3 (Nat.le_refl _))
  clear hb3 HI2 i0 i1 i2 i3
  have i0 := HI3.out.cell (i := 0) (v := .int .i64 L) rfl
  have i1 := HI3.out.cell (i := 1) (v := .int .i64 P) rfl
  have HBL := Lib.hid ((Below.refl w3.heap.size w3).alloc (Nat.le_refl _) (.cells (([L, P] : List Int).map (Value.int .i64)).toArray 2))
  have HC := Lib.hid (listText_any (w := w3.alloc (.cells (([L, P] : List Int).map (Value.int .i64)).toArray 2)) ((HT.out.below HB3.out (Nat.le_refl _)).below HBL.out (Nat.le_refl _)) (own_lit (f := Value.int .i64) w3 w3.heap.size [L, P] (Nat.le_refl _) (by simp [maxLen])).rd HIN.out (by simp))
  go_wp2_with fail
  refine HC.out.mono ?_
  rintro e w4 ⟨rfl, hb4⟩
  have HB4 := Lib.hid (HB3.out.trans ((HBL.out.trans (hb4.mono HBL.out.size)).mono HB3.out.size))
  have HRE : Hid (res = (((lstT [L, P] ++ ⟨#[59]⟩) ++ lt) ++ ⟨#[59]⟩) ++ ls) := Lib.hid (by rw [HRES.out, ← HLT.out, ← HLS.out, ltT_yes hv1, ltT_yes hv2])
  have hlt : lt.size ≤ 1400 := by rw [← HLT.out]; exact hz1
  have hls : ls.size ≤ 1400 := by rw [← HLS.out]; exact hz2
  obtain ⟨l, hl⟩ : ∃ l, lstT [L, P] = l := ⟨_, rfl⟩
  rw [hl] at hl46 HRE ⊢
  clear hl hb4 HC HBL i0 i1
  have e59 : (⟨#[59]⟩ : ByteArray).size = 1 := rfl
  have hadd1 : ∀ w', (Op.stringOp .add l ⟨#[59]⟩).run Tryd.prog w' = .ok (.string (l ++ ⟨#[59]⟩)) w' := fun w' => run_string_add_sum _ _ _ (by omega)
  have hs1 : (l ++ (⟨#[59]⟩ : ByteArray)).size ≤ 101 := by rw [ByteArray.size_append]; omega
  obtain ⟨x1, hx1⟩ : ∃ x, l ++ (⟨#[59]⟩ : ByteArray) = x := ⟨_, rfl⟩
  rw [hx1] at hadd1 hs1 HRE
  have hadd2 : ∀ w', (Op.stringOp .add x1 lt).run Tryd.prog w' = .ok (.string (x1 ++ lt)) w' := fun w' => run_string_add_sum _ _ _ (by omega)
  have hs2 : (x1 ++ lt).size ≤ 1501 := by rw [ByteArray.size_append]; omega
  obtain ⟨x2, hx2⟩ : ∃ x, x1 ++ lt = x := ⟨_, rfl⟩
  rw [hx2] at hadd2 hs2 HRE
  have hadd3 : ∀ w', (Op.stringOp .add x2 ⟨#[59]⟩).run Tryd.prog w' = .ok (.string (x2 ++ ⟨#[59]⟩)) w' := fun w' => run_string_add_sum _ _ _ (by omega)
  have hs3 : (x2 ++ (⟨#[59]⟩ : ByteArray)).size ≤ 1502 := by rw [ByteArray.size_append]; omega
  obtain ⟨x3, hx3⟩ : ∃ x, x2 ++ (⟨#[59]⟩ : ByteArray) = x := ⟨_, rfl⟩
  rw [hx3] at hadd3 hs3 HRE
  have hadd4 : ∀ w', (Op.stringOp .add x3 ls).run Tryd.prog w' = .ok (.string (x3 ++ ls)) w' := fun w' => run_string_add_sum _ _ _ (by omega)
  clear hx1 hx2 hx3 e59 hs1 hs2 hs3 hlt hls hl46 hz1 hz2
  go_wp2
  go_ret2
  exact ⟨by rw [HRE.out]; rfl, HB4.out⟩

set_option maxRecDepth 20000 in
set_option maxHeartbeats 4000000 in
theorem l08Window_any {b o : Nat} {ta sa : Option Addr} {tc sc : Nat} {ts ss : List Int} {L P : Int} {w : World} (ht : Rd (Value.int .i64) w ta tc ts) (hs : Rd (Value.int .i64) w sa sc ss) (hv1 : valsB ts = true) (hv2 : valsB ss = true) (hv3 : winB L P ts ss = true)
    (c0 : w.cell? ⟨b, o, none⟩ = some (.int .i64 L)) (c1 : w.cell? ⟨b, o + 1, none⟩ = some (.int .i64 P)) (c2 : w.cell? ⟨b, o + 2, none⟩ = some (.slice ta ts.length tc)) (c3 : w.cell? ⟨b, o + 3, none⟩ = some (.slice sa ss.length sc)) :
    Calls Tryd.prog 78 #[.pointer (some ⟨b, o, none⟩)] w fun e w' => e = .returned (.string (winT L P ts ss)) ∧ Below w.heap.size w w' := by
  have HK := Lib.hid (And.intro c0 (And.intro c1 (And.intro c2 c3)))
  have hz1 := lt_size hv1
  have hz2 := lt_size hv2
  rw [ltT_yes hv1] at hz1
  rw [ltT_yes hv2] at hz2
  have HI1 := Lib.hid (valsB_in hv1)
  have HI2 := Lib.hid (valsB_in hv2)
  have HIN := Lib.hid (win_in hv3)
  have hl46 := lstT_size HIN.out
  simp at hl46
  have he : winTV L P ts ss = true := by unfold winTV; rw [hv1, hv2, hv3]; rfl
  have HRE : Hid (winT L P ts ss = (((lstT [L, P] ++ ⟨#[59]⟩) ++ lstT ts) ++ ⟨#[59]⟩) ++ lstT ss) := Lib.hid (by unfold winT; rw [he]; rfl)
  have HR := Lib.hid (And.intro ht hs)
  have HBL : Hid (Below w.heap.size w ((w.alloc (.cells #[.int .i64 L, .int .i64 P] 2)).drew)) := Lib.hid (((Below.refl w.heap.size w).alloc (Nat.le_refl _) (.cells #[.int .i64 L, .int .i64 P] 2)).trans (below_of_drewN (w.alloc (.cells #[.int .i64 L, .int .i64 P] 2)) 1 _))
  have k1 := Lib.hid (And.intro (k_below HBL.out (Nat.le_refl _) HK.out.1) (And.intro (k_below HBL.out (Nat.le_refl _) HK.out.2.1) (And.intro (k_below HBL.out (Nat.le_refl _) HK.out.2.2.1) (k_below HBL.out (Nat.le_refl _) HK.out.2.2.2))))
  have HC0 : Hid (Calls Tryd.prog 94 #[.slice (some ⟨w.heap.size, 0, none⟩) 2 2] ((w.alloc (.cells #[.int .i64 L, .int .i64 P] 2)).drew) fun e w2 => e = .returned (.string (lstT [L, P])) ∧ Below ((w.alloc (.cells #[.int .i64 L, .int .i64 P] 2)).drew).heap.size ((w.alloc (.cells #[.int .i64 L, .int .i64 P] 2)).drew) w2) := Lib.hid (l01Text_any (w := (w.alloc (.cells (([L, P] : List Int).map (Value.int .i64)).toArray 2)).drew) ((own_lit (f := Value.int .i64) w w.heap.size [L, P] (Nat.le_refl _) (by simp [maxLen])).drew).rd HIN.out (by simp))
  have HC1 : Hid (∀ w', Below w.heap.size w w' → Calls Tryd.prog 94 #[.slice ta ts.length tc] w' fun e w2 => e = .returned (.string (lstT ts)) ∧ Below w'.heap.size w' w2) := Lib.hid (fun w' hb => l01Text_any (HR.out.1.below hb (Nat.le_refl _)) HI1.out.1 (by have := HI1.out.2; omega))
  have HC2 : Hid (∀ w', Below w.heap.size w w' → Calls Tryd.prog 94 #[.slice sa ss.length sc] w' fun e w2 => e = .returned (.string (lstT ss)) ∧ Below w'.heap.size w' w2) := Lib.hid (fun w' hb => l01Text_any (HR.out.2.below hb (Nat.le_refl _)) HI2.out.1 (by have := HI2.out.2; omega))
  obtain ⟨res, hres⟩ : ∃ r, winT L P ts ss = r := ⟨_, rfl⟩
  rw [hres] at HRE ⊢
  obtain ⟨l, hl⟩ : ∃ l, lstT [L, P] = l := ⟨_, rfl⟩
  rw [hl] at hl46 HRE HC0
  obtain ⟨lt, hlt⟩ : ∃ l, lstT ts = l := ⟨_, rfl⟩
  rw [hlt] at hz1 HRE HC1
  obtain ⟨ls, hls⟩ : ∃ l, lstT ss = l := ⟨_, rfl⟩
  rw [hls] at hz2 HRE HC2
  have e59 : (⟨#[59]⟩ : ByteArray).size = 1 := rfl
  have hadd1 : ∀ w', (Op.stringOp .add l ⟨#[59]⟩).run Tryd.prog w' = .ok (.string (l ++ ⟨#[59]⟩)) w' := fun w' => run_string_add_sum _ _ _ (by omega)
  have hs1 : (l ++ (⟨#[59]⟩ : ByteArray)).size ≤ 101 := by rw [ByteArray.size_append]; omega
  obtain ⟨x1, hx1⟩ : ∃ x, l ++ (⟨#[59]⟩ : ByteArray) = x := ⟨_, rfl⟩
  rw [hx1] at hadd1 hs1 HRE
  have hadd2 : ∀ w', (Op.stringOp .add x1 lt).run Tryd.prog w' = .ok (.string (x1 ++ lt)) w' := fun w' => run_string_add_sum _ _ _ (by omega)
  have hs2 : (x1 ++ lt).size ≤ 1501 := by rw [ByteArray.size_append]; omega
  obtain ⟨x2, hx2⟩ : ∃ x, x1 ++ lt = x := ⟨_, rfl⟩
  rw [hx2] at hadd2 hs2 HRE
  have hadd3 : ∀ w', (Op.stringOp .add x2 ⟨#[59]⟩).run Tryd.prog w' = .ok (.string (x2 ++ ⟨#[59]⟩)) w' := fun w' => run_string_add_sum _ _ _ (by omega)
  have hs3 : (x2 ++ (⟨#[59]⟩ : ByteArray)).size ≤ 1502 := by rw [ByteArray.size_append]; omega
  obtain ⟨x3, hx3⟩ : ∃ x, x2 ++ (⟨#[59]⟩ : ByteArray) = x := ⟨_, rfl⟩
  rw [hx3] at hadd3 hs3 HRE
  have hadd4 : ∀ w', (Op.stringOp .add x3 ls).run Tryd.prog w' = .ok (.string (x3 ++ ls)) w' := fun w' => run_string_add_sum _ _ _ (by omega)
  clear hx1 hx2 hx3 e59 hs1 hs2 hs3 hz1 hz2 hl46 hl hlt hls hres he hv1 hv2 hv3 ht hs
  go_enter Tryd.func78, Tryd.ntmps78
  go_wp2_with fail
  go_region_held3 (fun w' => w'.cell? ⟨b, o, none⟩ = some (.int .i64 L) ∧ w'.cell? ⟨b, o + 1, none⟩ = some (.int .i64 P) ∧ w'.cell? ⟨b, o + 2, none⟩ = some (.slice ta ts.length tc) ∧ w'.cell? ⟨b, o + 3, none⟩ = some (.slice sa ss.length sc))
    (first | (with_reducible exact k2.out) | (with_reducible exact k3.out) | (with_reducible exact k4.out) | (with_reducible exact k1.out) | exact HK.out)
    (first
      | (go_at_call 94; with_reducible refine (HC1.out w2 B2.out).mono ?_; rintro e w3 ⟨rfl, hb3⟩; have B3 := Lib.hid (B2.out.trans (hb3.mono B2.out.size)); have k3 := Lib.hid (And.intro (k_below B3.out (Nat.le_refl _) HK.out.1) (And.intro (k_below B3.out (Nat.le_refl _) HK.out.2.1) (And.intro (k_below B3.out (Nat.le_refl _) HK.out.2.2.1) (k_below B3.out (Nat.le_refl _) HK.out.2.2.2)))))
      | (go_at_call 94; with_reducible refine (HC2.out w3 B3.out).mono ?_; rintro e w4 ⟨rfl, hb4⟩; have B4 := Lib.hid (B3.out.trans (hb4.mono B3.out.size)); have k4 := Lib.hid (And.intro (k_below B4.out (Nat.le_refl _) HK.out.1) (And.intro (k_below B4.out (Nat.le_refl _) HK.out.2.1) (And.intro (k_below B4.out (Nat.le_refl _) HK.out.2.2.1) (k_below B4.out (Nat.le_refl _) HK.out.2.2.2)))))
      | (go_at_call 94; with_reducible refine HC0.out.mono ?_; rintro e w2 ⟨rfl, hb2⟩; have B2 := Lib.hid (HBL.out.trans (hb2.mono HBL.out.size)); have k2 := Lib.hid (And.intro (k_below B2.out (Nat.le_refl _) HK.out.1) (And.intro (k_below B2.out (Nat.le_refl _) HK.out.2.1) (And.intro (k_below B2.out (Nat.le_refl _) HK.out.2.2.1) (k_below B2.out (Nat.le_refl _) HK.out.2.2.2))))))
  go_wp2
  go_ret
  exact ⟨by rw [HRE.out]; rfl, B4.out⟩

set_option maxRecDepth 20000 in
set_option maxHeartbeats 4000000 in
theorem specWindowText_any {ta sa : Option Addr} {tc sc : Nat} {ts ss : List Int} {L P : Int} {w : World} (ht : Rd (Value.int .i64) w ta tc ts) (hs : Rd (Value.int .i64) w sa sc ss) :
    Calls Tryd.prog 34 #[.agg #[.int .i64 L, .int .i64 P, .slice ta ts.length tc, .slice sa ss.length sc]] w fun e w' => e = .returned (.tuple #[.string (winT L P ts ss), .bool (winTV L P ts ss)]) ∧ Below w.heap.size w w' := by
  have B0 : Below w.heap.size w (w.alloc (.cells #[.int .i64 L, .int .i64 P, .slice ta ts.length tc, .slice sa ss.length sc] 56)) := (Below.refl _ _).alloc (Nat.le_refl _) _
  have I0 : Blk (w.alloc (.cells #[.int .i64 L, .int .i64 P, .slice ta ts.length tc, .slice sa ss.length sc] 56)) w.heap.size #[.int .i64 L, .int .i64 P, .slice ta ts.length tc, .slice sa ss.length sc] 56 := Blk.new _ _ _
  have HC1 := Lib.hid (l06Is_any (b := w.heap.size) (o := 0) (w := (w.alloc (.cells #[.int .i64 L, .int .i64 P, .slice ta ts.length tc, .slice sa ss.length sc] 56))) ⟨I0.cell (i := 0) (v := .int .i64 L) rfl, I0.cell (i := 1) (v := .int .i64 P) rfl, I0.cell (i := 2) (v := .slice ta ts.length tc) rfl, I0.cell (i := 3) (v := .slice sa ss.length sc) rfl, I0.lt⟩ (ht.below B0 (Nat.le_refl _)) (hs.below B0 (Nat.le_refl _)))
  have HRR := Lib.hid (And.intro (ht.below B0 (Nat.le_refl _)) (hs.below B0 (Nat.le_refl _)))
  have HB0 := Lib.hid B0
  have HI0 := Lib.hid I0
  clear B0 I0 ht hs
  cases hv3 : winB L P ts ss with
  | false =>
    have he : winTV L P ts ss = false := by unfold winTV; rw [hv3]; simp
    have he2 : winT L P ts ss = ⟨#[]⟩ := by unfold winT; rw [he]; rfl
    rw [he, he2]
    clear he he2
    rw [hv3] at HC1
    go_enter Tryd.func34, Tryd.ntmps34
    go_wp2_with fail
    generalize (w.alloc (.cells #[.int .i64 L, .int .i64 P, .slice ta ts.length tc, .slice sa ss.length sc] 56)) = w0 at HB0 HI0 HC1 HRR ⊢
    refine HC1.out.mono ?_
    rintro e w1 ⟨rfl, n1, hw1⟩
    have HB1 : Hid (Below w0.heap.size w0 w1) := Lib.hid (by rw [hw1]; exact below_of_drewN w0 n1 _)
    have HI1 := Lib.hid (HI0.out.below HB1.out (Nat.le_refl _))
    clear hw1
    go_wp2
    go_ret2
    exact ⟨rfl, HB0.out.trans (HB1.out.mono HB0.out.size)⟩
  | true =>
  rw [hv3] at HC1
  cases hv1 : valsB ts with
  | false =>
    have he : winTV L P ts ss = false := by unfold winTV; rw [hv1]; simp
    have he2 : winT L P ts ss = ⟨#[]⟩ := by unfold winT; rw [he]; rfl
    rw [he, he2]
    clear he he2
    go_enter Tryd.func34, Tryd.ntmps34
    go_wp2_with fail
    generalize (w.alloc (.cells #[.int .i64 L, .int .i64 P, .slice ta ts.length tc, .slice sa ss.length sc] 56)) = w0 at HB0 HI0 HC1 HRR ⊢
    refine HC1.out.mono ?_
    rintro e w1 ⟨rfl, n1, hw1⟩
    have HB1 : Hid (Below w0.heap.size w0 w1) := Lib.hid (by rw [hw1]; exact below_of_drewN w0 n1 _)
    have HI1 := Lib.hid (HI0.out.below HB1.out (Nat.le_refl _))
    clear hw1
    have i2 := HI1.out.cell (i := 2) (v := .slice ta ts.length tc) rfl
    have i3 := HI1.out.cell (i := 3) (v := .slice sa ss.length sc) rfl
    go_wp2_with fail
    refine (l01List_any (HRR.out.1.below HB1.out (Nat.le_refl _))).mono ?_
    rintro e w2 ⟨rfl, rfl⟩
    rw [hv1]
    go_wp2
    go_ret2
    exact ⟨rfl, HB0.out.trans (HB1.out.mono HB0.out.size)⟩
  | true =>
  cases hv2 : valsB ss with
  | false =>
    have he : winTV L P ts ss = false := by unfold winTV; rw [hv2]; simp
    have he2 : winT L P ts ss = ⟨#[]⟩ := by unfold winT; rw [he]; rfl
    rw [he, he2]
    clear he he2
    go_enter Tryd.func34, Tryd.ntmps34
    go_wp2_with fail
    generalize (w.alloc (.cells #[.int .i64 L, .int .i64 P, .slice ta ts.length tc, .slice sa ss.length sc] 56)) = w0 at HB0 HI0 HC1 HRR ⊢
    refine HC1.out.mono ?_
    rintro e w1 ⟨rfl, n1, hw1⟩
    have HB1 : Hid (Below w0.heap.size w0 w1) := Lib.hid (by rw [hw1]; exact below_of_drewN w0 n1 _)
    have HI1 := Lib.hid (HI0.out.below HB1.out (Nat.le_refl _))
    clear hw1
    have i2 := HI1.out.cell (i := 2) (v := .slice ta ts.length tc) rfl
    have i3 := HI1.out.cell (i := 3) (v := .slice sa ss.length sc) rfl
    go_wp2_with fail
    refine (l01List_any (HRR.out.1.below HB1.out (Nat.le_refl _))).mono ?_
    rintro e w2 ⟨rfl, rfl⟩
    rw [hv1]
    go_wp2_with fail
    refine (l01List_any (HRR.out.2.below HB1.out (Nat.le_refl _))).mono ?_
    rintro e w2 ⟨rfl, rfl⟩
    rw [hv2]
    go_wp2
    go_ret2
    exact ⟨rfl, HB0.out.trans (HB1.out.mono HB0.out.size)⟩
  | true =>
  have he : winTV L P ts ss = true := by unfold winTV; rw [hv1, hv2, hv3]; rfl
  rw [he]
  clear he
  obtain ⟨res, hres⟩ : ∃ r, winT L P ts ss = r := ⟨_, rfl⟩
  rw [hres]
  go_enter Tryd.func34, Tryd.ntmps34
  go_wp2_with fail
  generalize (w.alloc (.cells #[.int .i64 L, .int .i64 P, .slice ta ts.length tc, .slice sa ss.length sc] 56)) = w0 at HB0 HI0 HC1 HRR ⊢
  refine HC1.out.mono ?_
  rintro e w1 ⟨rfl, n1, hw1⟩
  have HB1 : Hid (Below w0.heap.size w0 w1) := Lib.hid (by rw [hw1]; exact below_of_drewN w0 n1 _)
  have HI1 := Lib.hid (HI0.out.below HB1.out (Nat.le_refl _))
  clear hw1
  have i2 := HI1.out.cell (i := 2) (v := .slice ta ts.length tc) rfl
  have i3 := HI1.out.cell (i := 3) (v := .slice sa ss.length sc) rfl
  go_wp2_with fail
  refine (l01List_any (HRR.out.1.below HB1.out (Nat.le_refl _))).mono ?_
  rintro e w2 ⟨rfl, rfl⟩
  rw [hv1]
  go_wp2_with fail
  refine (l01List_any (HRR.out.2.below HB1.out (Nat.le_refl _))).mono ?_
  rintro e w2 ⟨rfl, rfl⟩
  rw [hv2]
  have HC4 := Lib.hid (l08Window_any (b := w.heap.size) (o := 0) (HRR.out.1.below HB1.out (Nat.le_refl _)) (HRR.out.2.below HB1.out (Nat.le_refl _)) hv1 hv2 hv3 (HI1.out.cell (i := 0) (v := .int .i64 L) rfl) (HI1.out.cell (i := 1) (v := .int .i64 P) rfl) (HI1.out.cell (i := 2) (v := .slice ta ts.length tc) rfl) (HI1.out.cell (i := 3) (v := .slice sa ss.length sc) rfl))
  rw [hres] at HC4
  clear i2 i3
  go_wp2_with fail
  refine HC4.out.mono ?_
  rintro e w3 ⟨rfl, hb3⟩
  have HB3 := Lib.hid (HB0.out.trans ((HB1.out.trans (hb3.mono HB1.out.size)).mono HB0.out.size))
  clear hb3
  go_wp2
  go_ret2
  exact ⟨rfl, HB3.out⟩

end Go.Proofs.YtockifchghllhaaDoor
