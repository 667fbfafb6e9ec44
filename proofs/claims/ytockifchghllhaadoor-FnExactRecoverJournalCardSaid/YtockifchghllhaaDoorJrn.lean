/- JournalOf in both texts. -/
import Derived.Test.YtockifchghllhaaDoorJrnL
import Derived.Test.YtockifchghllhaaDoorCtL
import Derived.Test.YtockifchghllhaaDoorBld
import Derived.Test.YtockifchghllhaaDoorTxt
import Derived.Deep.DrawnRows
namespace Go.Proofs.YtockifchghllhaaDoor
open Go.RowKit
attribute [local go_sem ↓] Go.wp_at_zero Go.wp_at_succ

theorem noNL_ct (s : ByteArray) : noNL s = !ctB 10 s := by
  unfold noNL ctB ctI
  rw [index_one, toL_len]
  by_cases h : fIdx 10 (toL s) < s.size
  · rw [if_pos h, decide_eq_true h, decide_eq_false (by omega)]; rfl
  · rw [if_neg h, decide_eq_false h]; rfl
theorem noNL_yes {s : ByteArray} (h : ∀ j, j < s.size → byt s j ≠ 10) : noNL s = true := by
  rw [noNL_ct]
  cases hb : ctB 10 s with
  | false => rfl
  | true =>
    have h2 : ctI 10 s < s.size := of_decide_eq_true hb
    exact absurd (ctI_at h2) (h _ h2)
theorem noNL_no {s : ByteArray} {j : Nat} (hj : j < s.size) (h : byt s j = 10) : noNL s = false := by
  rw [noNL_ct]
  cases hb : ctB 10 s with
  | true => rfl
  | false =>
    have h2 : ¬ ctI 10 s < s.size := of_decide_eq_false hb
    have h3 := ctI_lt (m := 10) (l := s) (k := j) (by omega)
    exact absurd h h3.2
theorem contains_any {s : ByteArray} {w : World} (hM : MLen w) (hs : s.size ≤ 1048576) :
    Calls Tryd.prog 60 #[.string s, .string ⟨#[10]⟩] w fun e w' => e = .returned (.bool (!noNL s)) ∧ w = w' := by
  obtain ⟨v, hv⟩ := hM
  have h := Tryd.strings_Contains s ⟨#[10]⟩ v w (by omega) hv
  have e1 : ((⟨#[10]⟩ : ByteArray).data.toList) = [10] := rfl
  have e2 : Lib.contains s.data.toList [10] = !noNL s := by
    unfold Lib.contains noNL
    have hge := Go.Lib.index_ge (toL s) [10]
    have e : s.data.toList = toL s := rfl
    rw [e]
    by_cases h : Go.Lib.index (toL s) [10] = -1
    · rw [h]; rfl
    · rw [decide_eq_false h, decide_eq_true (by omega)]; rfl
  rw [e1, e2] at h
  refine h.mono ?_
  rintro e w' ⟨rfl, rfl⟩
  exact ⟨rfl, rfl⟩
theorem bsT_at {L : List ByteArray} {k : Nat} (h : k < L.length) : bsT L k = L[k] := by simp [bsT, h]
theorem rd_bsT {w : World} {a : Option Addr} {c : Nat} {L : List ByteArray} (hr : Rd Value.string w a c L) {k : Nat} (h : k < L.length) : w.cell? (elt a k) = some (.string (bsT L k)) := by
  have := hr.cell k h
  simp only [List.getElem?_eq_getElem h, Option.getD_some] at this
  rw [bsT_at h]; exact this

set_option maxHeartbeats 4000000 in
theorem implJournalOf_any {a : Option Addr} {c : Nat} {L : List ByteArray} {w : World} (hM : MLen w) (hT : PTab w) (hr : Rd Value.string w a c L) (hsz : ∀ k, (bsT L k).size ≤ 1048576) (hln : L.length ≤ 1048576) :
    Calls Tryd.prog 22 #[.slice a L.length c] w fun e w' => e = .returned (.tuple #[.string (jR L), .bool (jOk L)]) ∧ Below w.heap.size w w' := by
  have HBL := Lib.hid (bld_new w)
  have HB0 := Lib.hid ((Below.refl w.heap.size w).alloc (Nat.le_refl _) (.cells #[.pointer none, .slice none 0 0] 85))
  have HM := Lib.hid hM
  have HT := Lib.hid hT
  have HR := Lib.hid hr
  have HSZ := Lib.hid hsz
  have HC := Lib.hid (jC_bd L)
  have H0 : Hid (jC L 0 = 0 ∧ jJ L 0 = ⟨#[]⟩) := Lib.hid ⟨rfl, rfl⟩
  have HCS : Hid (∀ k, jC L (k + 1) = chk (jC L k) (bsT L k) (bsT L k).size) := Lib.hid (fun _ => rfl)
  have HJS : Hid (∀ k, jJ L (k + 1) = jJ L k ++ (((decT (jC L (k + 1)) ++ ⟨#[32]⟩) ++ bsT L k) ++ ⟨#[10]⟩)) := Lib.hid (fun _ => rfl)
  obtain ⟨rt, hrt⟩ : ∃ r, jR L = r := ⟨_, rfl⟩
  obtain ⟨rb, hrb⟩ : ∃ r, jOk L = r := ⟨_, rfl⟩
  have HNO : Hid (jOk L = false → rt = ⟨#[]⟩ ∧ rb = false) := Lib.hid (fun h => ⟨by rw [← hrt]; unfold jR; rw [h]; rfl, hrb ▸ h⟩)
  have HYES : Hid (jOk L = true → rt = jJ L L.length ∧ rb = true) := Lib.hid (fun h => ⟨by rw [← hrt]; unfold jR; rw [h]; rfl, hrb ▸ h⟩)
  have HNL := Lib.hid (fun k h h2 => jOk_nl (L := L) (k := k) h h2)
  have HBG := Lib.hid (fun k h h2 => jOk_big (L := L) (k := k) h h2)
  have HOK := Lib.hid (fun h => jOk_yes (L := L) h)
  rw [hrt, hrb]
  clear hrt hrb hM hT hsz
  generalize jOk L = ok at HNO HYES HNL HBG HOK
  generalize jJ L = J at H0 HJS HYES HBG HOK
  generalize jC L = C at HC H0 HCS HJS
  go_enter Tryd.func22, Tryd.ntmps22
  go_wp2
  obtain ⟨B, hB⟩ : ∃ B, w.heap.size = B := ⟨_, rfl⟩
  rw [hB] at HBL HB0 ⊢
  generalize w.alloc (.cells #[.pointer none, .slice none 0 0] 85) = w0 at HBL HB0 ⊢
  go_loopw [5, 7, 11] (fun ci _ vi wr => ∃ k : Nat, vi = .int .i64 k ∧ k ≤ L.length ∧ ci = .int .i64 (C k) ∧ (J k).size ≤ 16000 ∧ Hid (Bld B B (J k) wr ∧ Below B w wr) ∧ Hid (∀ j, j < k → noNL (bsT L j) = true)) (fun _ _ vi _ => L.length - (intOf vi).toNat)
  case atStart => exact ⟨0, rfl, Nat.zero_le _, by rw [H0.out.1], by rw [H0.out.2]; exact Nat.zero_le _, Lib.hid ⟨by rw [H0.out.2]; exact HBL.out, HB0.out⟩, Lib.hid (fun j hj => absurd hj (Nat.not_lt_zero _))⟩
  case round =>
    clear HBL HB0
    obtain ⟨k, rfl, hk, rfl, hjz, HI, HN⟩ := hrel
    subst hB
    by_cases hlt : k < L.length
    · have hltz : (k : Int) < (L.length : Int) := by omega
      have ewk : IntKind.i64.wrap ((k : Int) + 1) = (k : Int) + 1 := IntWalk.i64_in _ (by omega)
      have hix := HR.out.idx und_ss siz_ss
      have hcx := rd_bsT (HR.out.below HI.out.2 (Nat.le_refl _)) hlt
      have hxs := HSZ.out k
      have HN1 : Hid (noNL (bsT L k) = true → ∀ j, j < k + 1 → noNL (bsT L j) = true) := Lib.hid (fun h j hj => by
        rcases Nat.lt_or_ge j k with h2 | h2
        · exact HN.out j h2
        · rw [show j = k by omega]; exact h)
      have HNL1 := Lib.hid (HNL.out k hlt)
      have HCS1 := Lib.hid (HCS.out k)
      have HJS1 := Lib.hid (HJS.out k)
      have hcb := HC.out k
      have hcb1 := HC.out (k + 1)
      generalize bsT L k = x at hcx hxs HN1 HNL1 HCS1 HJS1
      have HCT := Lib.hid (contains_any (s := x) (HM.out.below HI.out.2 (Nat.le_refl _)) hxs)
      cases hnl : noNL x with
      | false =>
        obtain ⟨rfl, rfl⟩ := HNO.out (HNL1.out hnl)
        rw [hnl] at HCT
        go_wp2_with fail
        refine HCT.out.mono ?_
        rintro e w1 ⟨rfl, rfl⟩
        go_wp2
        go_ret2
        exact ⟨rfl, HI.out.2⟩
      | true =>
        rw [hnl] at HCT
        have HN2 := Lib.hid (HN1.out hnl)
        obtain ⟨z, hz⟩ : ∃ z, C (k + 1) = z := ⟨_, rfl⟩
        rw [hz] at HCS1 HJS1 hcb1
        have HZ := Lib.hid hz
        go_wp2_with fail
        refine HCT.out.mono ?_
        rintro e w1 ⟨rfl, rfl⟩
        clear hcx HCT
        go_wp2_with fail
        refine (checkOf_any hcb (by omega)).mono ?_
        rintro e w1 ⟨rfl, rfl⟩
        rw [← HCS1.out]
        go_wp2_with fail
        refine (decimal_any (n := z) (HT.out.below HI.out.2 (Nat.le_refl _)) (by omega) (by omega)).mono ?_
        rintro e w1 ⟨rfl, hb1⟩
        have hds := decT_size (n := z) (by omega) (by omega)
        have HI1 : Hid (Bld w.heap.size w.heap.size (J k) w1 ∧ Below w.heap.size w w1) := Lib.hid ⟨HI.out.1.below hb1, HI.out.2.trans (hb1.mono HI.out.2.size)⟩
        clear hb1 HI
        obtain ⟨d, hd⟩ : ∃ d, decT z = d := ⟨_, rfl⟩
        rw [hd] at hds HJS1 ⊢
        have e32 : (⟨#[32]⟩ : ByteArray).size = 1 := rfl
        have e10 : (⟨#[10]⟩ : ByteArray).size = 1 := rfl
        have hadd1 : ∀ w', (Op.stringOp .add d ⟨#[32]⟩).run Tryd.prog w' = .ok (.string (d ++ ⟨#[32]⟩)) w' := fun w' => run_string_add_sum _ _ _ (by omega)
        have hs1 : (d ++ (⟨#[32]⟩ : ByteArray)).size ≤ 21 := by rw [ByteArray.size_append]; omega
        obtain ⟨d1, hd1⟩ : ∃ x, d ++ (⟨#[32]⟩ : ByteArray) = x := ⟨_, rfl⟩
        rw [hd1] at hadd1 hs1 HJS1
        have hadd2 : ∀ w', (Op.stringOp .add d1 x).run Tryd.prog w' = .ok (.string (d1 ++ x)) w' := fun w' => run_string_add_sum _ _ _ (by omega)
        have hs2 : (d1 ++ x).size ≤ 1048600 := by rw [ByteArray.size_append]; omega
        obtain ⟨d2, hd2⟩ : ∃ y, d1 ++ x = y := ⟨_, rfl⟩
        rw [hd2] at hadd2 hs2 HJS1
        have hadd3 : ∀ w', (Op.stringOp .add d2 ⟨#[10]⟩).run Tryd.prog w' = .ok (.string (d2 ++ ⟨#[10]⟩)) w' := fun w' => run_string_add_sum _ _ _ (by omega)
        have hs3 : (d2 ++ (⟨#[10]⟩ : ByteArray)).size ≤ 1048601 := by rw [ByteArray.size_append]; omega
        obtain ⟨d3, hd3⟩ : ∃ y, d2 ++ (⟨#[10]⟩ : ByteArray) = y := ⟨_, rfl⟩
        rw [hd3] at hadd3 hs3 HJS1
        have HW := Lib.hid (bldWrite_any (t := d3) HI1.out.1 (by omega) HI1.out.2.size)
        rw [← HJS1.out] at HW
        have HBG1 := Lib.hid (HBG.out (k + 1) (by omega))
        clear hd hd1 hd2 hd3 e32 e10 hs1 hs2 hds hxs hz
        go_wp2_with fail
        refine HW.out.mono ?_
        rintro e w2 ⟨rfl, hbl, hb2⟩
        have HI2 : Hid (Bld w.heap.size w.heap.size (J (k + 1)) w2 ∧ Below w.heap.size w w2) := Lib.hid ⟨hbl, HI1.out.2.trans hb2⟩
        clear hbl hb2 HW HI1 hadd1 hadd2 hadd3
        have HLN := Lib.hid (bldLen_any HI2.out.1)
        by_cases hbig : (J (k + 1)).size ≤ 16000
        · have hdb : decide ((16000 : Int) < ((J (k + 1)).size : Int)) = false := decide_eq_false (by omega)
          go_wp2_with fail
          refine HLN.out.mono ?_
          rintro e w3 ⟨rfl, rfl⟩
          go_wp2
          go_roundw
          case rel => exact ⟨k + 1, by go_num, by omega, by rw [HZ.out], hbig, HI2, HN2⟩
          case measure => simp [intOf]; omega
        · obtain ⟨rfl, rfl⟩ := HNO.out (HBG1.out (by omega))
          have hdb : decide ((16000 : Int) < ((J (k + 1)).size : Int)) = true := decide_eq_true (by omega)
          go_wp2_with fail
          refine HLN.out.mono ?_
          rintro e w3 ⟨rfl, rfl⟩
          go_wp2
          go_ret2
          exact ⟨rfl, HI2.out.2⟩
    · obtain rfl : k = L.length := by omega
      have hltz : ¬ (L.length : Int) < (L.length : Int) := by omega
      obtain ⟨hrt, rfl⟩ := HYES.out (by rw [HOK.out HN.out, decide_eq_true hjz])
      have HS := Lib.hid (bldString_any HI.out.1 HI.out.2.size)
      rw [← hrt] at HS
      clear hrt
      go_wp2_with fail
      refine HS.out.mono ?_
      rintro e w1 ⟨rfl, hb1⟩
      have HB := Lib.hid (HI.out.2.trans hb1)
      clear hb1
      go_wp2
      go_ret2
      exact ⟨rfl, HB.out⟩

set_option maxHeartbeats 4000000 in
theorem l08Journal_any {a : Option Addr} {c : Nat} {L : List ByteArray} {w : World} (hr : Rd Value.string w a c L) (hbd : ∀ k, k ≤ L.length → (jJ L k).size ≤ 1048576) (hln : L.length ≤ 1048576) :
    Calls Tryd.prog 59 #[.slice a L.length c] w fun e w' => e = .returned (.string (jJ L L.length)) ∧ Below w.heap.size w w' := by
  have HR := Lib.hid hr
  have HC := Lib.hid (jC_bd L)
  have H0 : Hid (jC L 0 = 0 ∧ jJ L 0 = ⟨#[]⟩) := Lib.hid ⟨rfl, rfl⟩
  have HCS : Hid (∀ k, jC L (k + 1) = chk (jC L k) (bsT L k) (bsT L k).size) := Lib.hid (fun _ => rfl)
  have HJS : Hid (∀ k, jJ L (k + 1) = jJ L k ++ (((decT (jC L (k + 1)) ++ ⟨#[32]⟩) ++ bsT L k) ++ ⟨#[10]⟩)) := Lib.hid (fun _ => rfl)
  have HXS : Hid (∀ k, k < L.length → (bsT L k).size + 3 + (jJ L k).size ≤ 1048576) := Lib.hid (fun k hk => by
    have h1 := hbd (k + 1) (by omega)
    rw [jJ, ByteArray.size_append] at h1
    have h2 := (jLine_size (jC_bd L (k + 1)) (bsT L k)).1
    omega)
  clear hbd hr
  generalize jJ L = J at H0 HJS HXS ⊢
  generalize jC L = C at HC H0 HCS HJS
  go_enter Tryd.func59, Tryd.ntmps59
  go_wp2
  go_loopw [3, 4, 5] (fun oi ci vi wr => ∃ k : Nat, vi = .int .i64 k ∧ k ≤ L.length ∧ ci = .int .i64 (C k) ∧ oi = .string (J k) ∧ Hid (Below w.heap.size w wr)) (fun _ _ vi _ => L.length - (intOf vi).toNat)
  case atStart => exact ⟨0, rfl, Nat.zero_le _, by rw [H0.out.1], by rw [H0.out.2], Lib.hid (Below.refl _ _)⟩
  case round =>
    obtain ⟨k, rfl, hk, rfl, rfl, HI⟩ := hrel
    by_cases hlt : k < L.length
    · have hltz : (k : Int) < (L.length : Int) := by omega
      have ewk : IntKind.i64.wrap ((k : Int) + 1) = (k : Int) + 1 := IntWalk.i64_in _ (by omega)
      have hix := HR.out.idx und_ss siz_ss
      have hcx := rd_bsT (HR.out.below HI.out (Nat.le_refl _)) hlt
      have HEL := Lib.hid (fun (w' : World) (hb : Below wr.heap.size wr w') => rd_bsT ((HR.out.below HI.out (Nat.le_refl _)).below hb (Nat.le_refl _)) hlt)
      have hxs := HXS.out k hlt
      have HCS1 := Lib.hid (HCS.out k)
      have HJS1 := Lib.hid (HJS.out k)
      have hcb := HC.out k
      have hcb1 := HC.out (k + 1)
      generalize bsT L k = x at hcx hxs HCS1 HJS1 HEL
      obtain ⟨z, hz⟩ : ∃ z, C (k + 1) = z := ⟨_, rfl⟩
      rw [hz] at HCS1 HJS1 hcb1
      go_wp2_with fail
      refine (l01Check_any hcb (by omega)).mono ?_
      rintro e w1 ⟨rfl, rfl⟩
      rw [← HCS1.out]
      have hds := decT_size (n := z) (by omega) (by omega)
      have HD := Lib.hid (fun w' => l01Dec_any (n := z) (w := w') (by omega) (by omega))
      obtain ⟨d, hd⟩ : ∃ d, decT z = d := ⟨_, rfl⟩
      rw [hd] at hds HJS1 HD
      generalize J k = j at HJS1 hxs ⊢
      have e32 : (⟨#[32]⟩ : ByteArray).size = 1 := rfl
      have e10 : (⟨#[10]⟩ : ByteArray).size = 1 := rfl
      have hadd1 : ∀ w', (Op.stringOp .add d ⟨#[32]⟩).run Tryd.prog w' = .ok (.string (d ++ ⟨#[32]⟩)) w' := fun w' => run_string_add_sum _ _ _ (by omega)
      have hs1 : (d ++ (⟨#[32]⟩ : ByteArray)).size ≤ 21 := by rw [ByteArray.size_append]; omega
      obtain ⟨d1, hd1⟩ : ∃ x, d ++ (⟨#[32]⟩ : ByteArray) = x := ⟨_, rfl⟩
      rw [hd1] at hadd1 hs1 HJS1
      have hadd2 : ∀ w', (Op.stringOp .add d1 x).run Tryd.prog w' = .ok (.string (d1 ++ x)) w' := fun w' => run_string_add_sum _ _ _ (by omega)
      have hs2 : (d1 ++ x).size ≤ 1048600 := by rw [ByteArray.size_append]; omega
      obtain ⟨d2, hd2⟩ : ∃ y, d1 ++ x = y := ⟨_, rfl⟩
      rw [hd2] at hadd2 hs2 HJS1
      have hadd3 : ∀ w', (Op.stringOp .add d2 ⟨#[10]⟩).run Tryd.prog w' = .ok (.string (d2 ++ ⟨#[10]⟩)) w' := fun w' => run_string_add_sum _ _ _ (by omega)
      have hs3 : (d2 ++ (⟨#[10]⟩ : ByteArray)).size ≤ 1048601 := by rw [ByteArray.size_append]; omega
      obtain ⟨d3, hd3⟩ : ∃ y, d2 ++ (⟨#[10]⟩ : ByteArray) = y := ⟨_, rfl⟩
      rw [hd3] at hadd3 hs3 HJS1
      have hadd4 : ∀ w', (Op.stringOp .add j d3).run Tryd.prog w' = .ok (.string (j ++ d3)) w' := fun w' => run_string_add_sum _ _ _ (by omega)
      rw [← HJS1.out] at hadd4
      clear hd hd1 hd2 hd3 e32 e10 hs1 hs2 hs3 hds hxs
      go_wp2_with fail
      have hbd : Below wr.heap.size wr wr.drew := below_of_drewN wr 1 _
      have HBD := Lib.hid hbd
      clear hbd
      go_region_held3 (fun w' => w'.cell? (elt a k) = some (.string x))
        (first | (with_reducible exact hk8.out) | exact hcx)
        (first
          | (go_at_call 99; refine (HD.out _).mono ?_; rintro e w8 ⟨rfl, hb8⟩; have HB8 := Lib.hid (HBD.out.trans (hb8.mono HBD.out.size)); have hk8 := Lib.hid (HEL.out w8 HB8.out); clear hb8))
      have HI8 := Lib.hid (HI.out.trans (HB8.out.mono HI.out.size))
      go_wp2
      go_roundw
      case rel => exact ⟨k + 1, by go_num, by omega, by rw [hz], rfl, HI8⟩
      case measure => simp [intOf]; omega
    · obtain rfl : k = L.length := by omega
      have hltz : ¬ (L.length : Int) < (L.length : Int) := by omega
      go_wp2
      go_ret
      exact ⟨rfl, HI.out⟩


set_option maxHeartbeats 4000000 in
theorem specJournalOf_any {a : Option Addr} {c : Nat} {L : List ByteArray} {w : World} (hr : Rd Value.string w a c L) (hsz : ∀ k, (bsT L k).size ≤ 1048576) (hln : L.length ≤ 1048576) :
    Calls Tryd.prog 20 #[.slice a L.length c] w fun e w' => e = .returned (.tuple #[.string (jR L), .bool (jOk L)]) ∧ Below w.heap.size w w' := by
  have HR := Lib.hid hr
  have HSZ := Lib.hid hsz
  have H0 : Hid (lnS L 0 = 0) := Lib.hid rfl
  have HLS : Hid (∀ k, lnS L (k + 1) = lnS L k + ((bsT L k).size + 3)) := Lib.hid (fun _ => rfl)
  obtain ⟨rt, hrt⟩ : ∃ r, jR L = r := ⟨_, rfl⟩
  obtain ⟨rb, hrb⟩ : ∃ r, jOk L = r := ⟨_, rfl⟩
  have HNO : Hid (jOk L = false → rt = ⟨#[]⟩ ∧ rb = false) := Lib.hid (fun h => ⟨by rw [← hrt]; unfold jR; rw [h]; rfl, hrb ▸ h⟩)
  have HYES : Hid (jOk L = true → rt = jJ L L.length ∧ rb = true) := Lib.hid (fun h => ⟨by rw [← hrt]; unfold jR; rw [h]; rfl, hrb ▸ h⟩)
  have HNL := Lib.hid (fun k h h2 => jOk_nl (L := L) (k := k) h h2)
  have HLB := Lib.hid (fun k h h2 => jOk_ln (L := L) (k := k) h h2)
  have HOK := Lib.hid (fun h => jOk_yes (L := L) h)
  have HJB : Hid (lnS L L.length ≤ 16000 → ∀ k, k ≤ L.length → (jJ L k).size ≤ 1048576) := Lib.hid (fun h k hk => by
    have h1 : ∀ k, (jJ L k).size ≤ lnS L k + 19 * k := by
      intro k
      induction k with
      | zero => exact Nat.zero_le _
      | succ k ih =>
        rw [jJ, ByteArray.size_append, lnS]
        have := (jLine_size (jC_bd L (k + 1)) (bsT L k)).2
        omega
    have h2 : ∀ j, 3 * j ≤ lnS L j := by
      intro j
      induction j with
      | zero => exact Nat.zero_le _
      | succ j ih => rw [lnS]; omega
    have h3 : ∀ d j, lnS L j ≤ lnS L (j + d) := by
      intro d j
      induction d with
      | zero => exact Nat.le_refl _
      | succ d ih => rw [← Nat.add_assoc, lnS]; omega
    have h4 := h3 (L.length - k) k
    rw [show k + (L.length - k) = L.length by omega] at h4
    have h5 := h1 k
    have h6 := h2 k
    omega)
  rw [hrt, hrb]
  clear hrt hrb hsz
  have HJ := Lib.hid (fun h => l08Journal_any (w := w) hr h hln)
  generalize jOk L = ok at HNO HYES HNL HLB HOK
  generalize jJ L = J at HYES HOK HJB HJ
  generalize lnS L = S at H0 HLS HLB HJB
  go_enter Tryd.func20, Tryd.ntmps20
  go_wp2
  go_loopw [4, 5, 6] (fun ti vi _ wr => ∃ k : Nat, vi = .int .i64 k ∧ k ≤ L.length ∧ ti = .int .i64 (S k) ∧ S k ≤ 16000 ∧ Hid (wr = w) ∧ Hid (∀ j, j < k → noNL (bsT L j) = true)) (fun _ vi _ _ => L.length - (intOf vi).toNat)
  case atStart => exact ⟨0, rfl, Nat.zero_le _, by rw [H0.out]; rfl, by rw [H0.out]; omega, Lib.hid rfl, Lib.hid (fun j hj => absurd hj (Nat.not_lt_zero _))⟩
  case round =>
    obtain ⟨k, rfl, hk, rfl, hS, HW, HN⟩ := hrel
    obtain rfl := HW.out
    clear HW
    by_cases hlt : k < L.length
    · have hltz : (k : Int) < (L.length : Int) := by omega
      have ewk : IntKind.i64.wrap ((k : Int) + 1) = (k : Int) + 1 := IntWalk.i64_in _ (by omega)
      have hix := HR.out.idx und_ss siz_ss
      have hcx := rd_bsT HR.out hlt
      have hxs := HSZ.out k
      have HN1 : Hid (noNL (bsT L k) = true → ∀ j, j < k + 1 → noNL (bsT L j) = true) := Lib.hid (fun h j hj => by
        rcases Nat.lt_or_ge j k with h2 | h2
        · exact HN.out j h2
        · rw [show j = k by omega]; exact h)
      have HNL1 := Lib.hid (HNL.out k hlt)
      have hls1 := HLS.out k
      have HLB1 := Lib.hid (HLB.out (k + 1) (by omega))
      generalize bsT L k = x at hcx hxs HN1 HNL1 hls1
      obtain ⟨s1, hs1⟩ : ∃ s, S (k + 1) = s := ⟨_, rfl⟩
      rw [hs1] at hls1 HLB1
      have e1 : IntKind.i64.wrap ((x.size : Int) + 3) = (x.size : Int) + 3 := IntWalk.i64_in _ (by omega)
      have e2 : IntKind.i64.wrap ((S k : Int) + ((x.size : Int) + 3)) = (s1 : Int) := by rw [IntWalk.i64_in _ (by omega)]; omega
      have HS1 := Lib.hid hs1
      have HE := Lib.hid hls1
      clear hs1 hls1
      by_cases hbig : s1 ≤ 16000
      · have hdb : decide ((16000 : Int) < (s1 : Int)) = false := decide_eq_false (by omega)
        have hxb : x.size ≤ 16000 := by have := HE.out; omega
        go_wp2
        obtain ⟨wo, hwo⟩ : ∃ wo : World, wo = wr := ⟨_, rfl⟩
        have HWO := Lib.hid hwo
        go_loopw [6] (fun ji wq => ∃ j : Nat, ji = .int .i64 j ∧ j ≤ x.size ∧ Hid (wq = wr) ∧ Hid (∀ i, i < j → byt x i ≠ 10)) (fun ji _ => x.size - (intOf ji).toNat)
        case atStart => exact ⟨0, rfl, Nat.zero_le _, Lib.hid rfl, Lib.hid (fun j hj => absurd hj (Nat.not_lt_zero _))⟩
        case round =>
          obtain ⟨j, rfl, hj, HWQ, HB⟩ := hrel
          obtain rfl := HWQ.out
          clear HWQ
          by_cases hjl : j < x.size
          · have hjz : (j : Int) < (x.size : Int) := by omega
            have hbe := byt_eq hjl
            have ewj : IntKind.i64.wrap ((j : Int) + 1) = (j : Int) + 1 := IntWalk.i64_in _ (by omega)
            have HNN := Lib.hid (fun h => noNL_no (s := x) (j := j) hjl h)
            have HB1 : Hid (byt x j ≠ 10 → ∀ i, i < j + 1 → byt x i ≠ 10) := Lib.hid (fun h i hi => by
              rcases Nat.lt_or_ge i j with h2 | h2
              · exact HB.out i h2
              · rw [show i = j by omega]; exact h)
            obtain ⟨y, hy⟩ : ∃ y, byt x j = y := ⟨_, rfl⟩
            rw [hy] at hbe HNN HB1
            clear hy
            by_cases hn : y = 10
            · have hd : ((y : Int) == 10) = true := by rw [hn]; rfl
              obtain ⟨rfl, rfl⟩ := HNO.out (HNL1.out (HNN.out hn))
              clear hn
              go_wp2
              go_ret2
              exact ⟨rfl, Below.refl _ _⟩
            · have hd : ((y : Int) == 10) = false := beq_eq_false_iff_ne.2 (by omega)
              have HB2 := Lib.hid (HB1.out hn)
              clear hn
              go_wp2
              go_roundw
              case rel => exact ⟨j + 1, by go_num, by omega, Lib.hid trivial, HB2⟩
              case measure => simp [intOf]; omega
          · obtain rfl : j = x.size := by omega
            have hjz : ¬ (x.size : Int) < (x.size : Int) := by omega
            have HN2 := Lib.hid (HN1.out (noNL_yes HB.out))
            go_wp2
            go_roundw
            case rel => exact ⟨k + 1, by go_num, by omega, by rw [HS1.out], by rw [HS1.out]; exact hbig, Lib.hid trivial, HN2⟩
            case measure => simp [intOf]; omega
      · have hdb : decide ((16000 : Int) < (s1 : Int)) = true := decide_eq_true (by omega)
        obtain ⟨rfl, rfl⟩ := HNO.out (HLB1.out (by omega))
        go_wp2
        go_ret2
        exact ⟨rfl, Below.refl _ _⟩
    · obtain rfl : k = L.length := by omega
      have hltz : ¬ (L.length : Int) < (L.length : Int) := by omega
      have HJ2 := Lib.hid (HJ.out (HJB.out hS))
      have hok := HOK.out HN.out
      go_wp2_with fail
      refine HJ2.out.mono ?_
      rintro e w1 ⟨rfl, hb1⟩
      have HB1 := Lib.hid hb1
      clear hb1 HJ2
      by_cases hbig : (J L.length).size ≤ 16000
      · have hdb : decide ((16000 : Int) < ((J L.length).size : Int)) = false := decide_eq_false (by omega)
        rw [decide_eq_true hbig] at hok
        obtain ⟨hrt, rfl⟩ := HYES.out hok
        rw [← hrt] at hdb ⊢
        clear hrt hok
        go_wp2
        go_ret2
        exact ⟨rfl, HB1.out⟩
      · have hdb : decide ((16000 : Int) < ((J L.length).size : Int)) = true := decide_eq_true (by omega)
        rw [decide_eq_false hbig] at hok
        obtain ⟨rfl, rfl⟩ := HNO.out hok
        clear hok
        go_wp2
        go_ret2
        exact ⟨rfl, HB1.out⟩

end Go.Proofs.YtockifchghllhaaDoor
