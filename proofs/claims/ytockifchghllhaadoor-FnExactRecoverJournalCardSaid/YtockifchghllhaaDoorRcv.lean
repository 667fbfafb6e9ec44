/- RecoverJournal in both texts. -/
import Derived.Test.YtockifchghllhaaDoorRcvL
import Derived.Test.YtockifchghllhaaDoorJrn
import Derived.Test.YtockifchghllhaaDoorRzI
import Derived.Deep.DrawnRows
namespace Go.Proofs.YtockifchghllhaaDoor
open Go.RowKit
attribute [local go_sem ↓] Go.wp_at_zero Go.wp_at_succ

theorem indexByte_any {s : ByteArray} {w : World} : Calls Tryd.prog 108 #[.string s, .int .u8 10] w fun e w' => e = .returned (.int .i64 (if fIdx 10 (toL s) < s.size then (fIdx 10 (toL s) : Int) else -1)) ∧ w = w' := by
  refine (Tryd.strings_IndexByte s 10 w).mono ?_
  rintro e w' ⟨rfl, rfl⟩
  refine ⟨?_, rfl⟩
  have e1 : Lib.indexByte s.data.toList (10 : Int).toNat.toUInt8 = Lib.indexByte (toL s) 10 := rfl
  rw [e1, indexByte_one, index_one, toL_len]
theorem ext_drop (t : ByteArray) {k : Nat} (h : k ≤ t.size) : toL (t.extract k t.size) = (toL t).drop k := by
  rw [toL_extract, List.take_of_length_le (by rw [List.length_drop, toL_len]; omega)]
theorem rA_le {L : List ByteArray} {j k : Nat} (h : j ≤ k) : rA L j ≤ rA L k := by
  induction k with
  | zero => rw [Nat.le_zero.1 h]; exact Nat.le_refl _
  | succ k ih =>
    rcases Nat.lt_or_ge j (k + 1) with h2 | h2
    · have := ih (by omega); rw [rA]; omega
    · rw [show j = k + 1 by omega]; exact Nat.le_refl _
theorem lines_size {t : ByteArray} {k : Nat} : (bsT (linesL t) k).size ≤ t.size := by
  by_cases hk : k < (linesL t).length
  · have h := lies_hit hk
    have h3 := h.2.1
    rw [rA] at h3
    omega
  · have : bsT (linesL t) k = ⟨#[]⟩ := by unfold bsT; rw [List.getElem?_eq_none (by omega)]; rfl
    rw [this]; exact Nat.zero_le _

set_option maxRecDepth 10000 in
set_option maxHeartbeats 8000000 in
theorem recovered_any {t : ByteArray} {w : World} (hM : MLen w) (hT : PTab w) (hs : t.size ≤ 1048576) :
    Calls Tryd.prog 75 #[.string t] w fun e w' => ∃ a c, e = .returned (.tuple #[.slice a (rL (linesL t) (rN (linesL t))).length c, .int .i64 (rA (linesL t) (rN (linesL t)))]) ∧ Own Value.string 9 w' w.heap.size a c (rL (linesL t) (rN (linesL t))) ∧ Below w.heap.size w w' := by
  have HB0 := Lib.hid ((Below.refl w.heap.size w).alloc (Nat.le_refl _) (.cells #[] 9))
  have HO0 : Hid (Own Value.string 9 (w.alloc (.cells #[] 9)) w.heap.size (some ⟨w.heap.size, 0, none⟩) 0 []) := Lib.hid (own_empty w _ (Nat.le_refl _) rfl)
  have HM := Lib.hid hM
  have HT := Lib.hid hT
  have HHIT : Hid (∀ k, k < (linesL t).length → fIdx 10 ((toL t).drop (rA (linesL t) k)) = (bsT (linesL t) k).size ∧ rA (linesL t) (k + 1) ≤ t.size ∧ t.extract (rA (linesL t) k) (rA (linesL t) k + (bsT (linesL t) k).size) = bsT (linesL t) k) := Lib.hid (fun k hk => lies_hit hk)
  have HEND := Lib.hid (lies_end t)
  have HLS := Lib.hid (fun k => lines_size (t := t) (k := k))
  have HLL : Hid ((linesL t).length ≤ 1048576) := Lib.hid (by have := parts_len t 10; unfold linesL; rw [List.length_take]; omega)
  generalize linesL t = L at HHIT HEND HLS HLL ⊢
  have HC := Lib.hid (rC_bd L)
  have HCS : Hid (∀ k, rC L (k + 1) = chk (rC L k) (lnT (bsT L k)) (lnT (bsT L k)).size) := Lib.hid (fun _ => rfl)
  have HAS : Hid (∀ k, rA L (k + 1) = rA L k + ((bsT L k).size + 1)) := Lib.hid (fun _ => rfl)
  have H0 : Hid (rA L 0 = 0 ∧ rC L 0 = 0) := Lib.hid ⟨rfl, rfl⟩
  have HOK : Hid (∀ k, rOk L k = (decide (lnI (bsT L k) < (bsT L k).size) && decide (lnH (bsT L k) = decT (rC L (k + 1))))) := Lib.hid (fun _ => rfl)
  have HST : Hid (∀ k, k ≤ L.length → (∀ j, j < k → rOk L j = true) → ¬ (k < L.length ∧ rOk L k = true) → rN L = k) := Lib.hid (fun k h1 h2 h3 => rN_stop h1 h2 h3)
  have HRS : Hid (∀ k, rL L (k + 1) = rL L k ++ [lnT (bsT L k)]) := Lib.hid (rL_succ L)
  have HRN : Hid (∀ k, (rL L k).length = k) := Lib.hid (rL_len L)
  have HR0 : Hid (rL L 0 = []) := Lib.hid rfl
  generalize rA L = A at HHIT HEND HAS H0 ⊢
  generalize rC L = C at HC HCS H0 HOK
  generalize rL L = RL at HRS HRN HR0 ⊢
  generalize rOk L = OK at HOK HST
  generalize rN L = N at HST ⊢
  go_enter Tryd.func75, Tryd.ntmps75
  go_wp2
  go_loopw [4, 5, 6, 7, 8, 9, 10, 11, 12] (fun oi ci ai _ _ _ _ _ _ wr => ∃ (k : Nat) (a : Option Addr) (c : Nat) (out : List ByteArray), k ≤ L.length ∧ ai = .int .i64 (A k) ∧ A k ≤ t.size ∧ ci = .int .i64 (C k) ∧ oi = .slice a out.length c ∧ out.length ≤ k ∧ Hid (out = RL k) ∧ Hid (∀ j, j < k → OK j = true) ∧ Hid (Own Value.string 9 wr w.heap.size a c out ∧ Below w.heap.size w wr)) (fun _ _ ai _ _ _ _ _ _ _ => t.size - (intOf ai).toNat)
  case atStart => exact ⟨0, _, _, [], Nat.zero_le _, by rw [H0.out.1]; rfl, by rw [H0.out.1]; exact Nat.zero_le _, by rw [H0.out.2], rfl, Nat.le_refl _, Lib.hid HR0.out.symm, Lib.hid (fun j hj => absurd hj (Nat.not_lt_zero _)), Lib.hid ⟨HO0.out, HB0.out⟩⟩
  case round =>
    clear HO0 HB0
    obtain ⟨k, a, c, out, hk, rfl, hat, rfl, rfl, hol, HOUT, HAL, HI⟩ := hrel
    have hbw : w.heap.size ≤ wr.heap.size := HI.out.2.size
    have hll := HLL.out
    obtain ⟨at0', hat0⟩ : ∃ x, A k = x := ⟨_, rfl⟩
    have HAT := Lib.hid hat0
    have hexd := ext_drop t (k := A k) hat
    rw [hat0] at hat hexd ⊢
    have hatz : (at0' : Int) ≤ (t.size : Int) := by omega
    obtain ⟨sx, hsx⟩ : ∃ x, t.extract at0' t.size = x := ⟨_, rfl⟩
    rw [hsx] at hexd
    have hsz : sx.size = t.size - at0' := by rw [← hsx, ByteArray.size_extract]; omega
    by_cases hlt : k < L.length
    · obtain ⟨h1, h2, h3⟩ := HHIT.out k hlt
      rw [hat0] at h1 h3
      have hA1 := HAS.out k
      rw [hat0] at hA1
      have hls := HLS.out k
      have HCS1 := Lib.hid (HCS.out k)
      have HOK1 := Lib.hid (HOK.out k)
      have HRS1 := Lib.hid (HRS.out k)
      have hcb := HC.out k
      have hcb1 := HC.out (k + 1)
      obtain ⟨l, hl⟩ : ∃ l, bsT L k = l := ⟨_, rfl⟩
      rw [hl] at h1 h3 hA1 hls HCS1 HOK1 HRS1
      have hif : (if fIdx 10 (toL sx) < sx.size then (fIdx 10 (toL sx) : Int) else -1) = (l.size : Int) := by
        rw [hexd, h1, hsz, if_pos (by omega)]
      have HIX : Hid (Calls Tryd.prog 108 #[.string sx, .int .u8 10] wr fun e w' => e = .returned (.int .i64 (l.size : Int)) ∧ wr = w') := Lib.hid (by have := indexByte_any (s := sx) (w := wr); rwa [hif] at this)
      have hneg : ¬ (l.size : Int) < 0 := by omega
      have hdn : decide ((l.size : Int) < 0) = false := decide_eq_false hneg
      have hub : (at0' : Int) + (l.size : Int) ≤ (t.size : Int) := by omega
      have ewa : IntKind.i64.wrap ((at0' : Int) + (l.size : Int)) = ((at0' + l.size : Nat) : Int) := by rw [IntWalk.i64_in _ (by omega)]; omega
      have hlz : l.size + at0' + 1 ≤ t.size := by omega
      have HX3 := Lib.hid h3
      have HA1 := Lib.hid hA1
      have HCU := Lib.hid (cutS_any (s := l) 32 (HM.out.below HI.out.2 (Nat.le_refl _)) (by omega))
      have hts : (lnT l).size ≤ 1048576 := Nat.le_trans (lnT_size l) (by omega)
      have hT1 : ctT 32 l = lnT l := rfl
      have hT2 : ctH 32 l = lnH l := rfl
      have hT3 : ctB 32 l = decide (lnI l < l.size) := rfl
      rw [hT1, hT2, hT3] at HCU
      clear h1 h2 h3 hA1 hl hif hexd hneg hT1 hT2 hT3 hls hat0
      generalize lnT l = lt at HCU HCS1 HRS1 hts
      generalize lnH l = lh at HCU HOK1
      generalize decide (lnI l < l.size) = fd at HCU HOK1
      go_wp2_with fail
      refine HIX.out.mono ?_
      rintro e w1 ⟨rfl, rfl⟩
      clear HIX
      have hx3 := HX3.out
      go_wp2_with fail
      refine HCU.out.mono ?_
      rintro e w2 ⟨rfl, hb2⟩
      have HI2 : Hid (Own Value.string 9 w2 w.heap.size a c out ∧ Below w.heap.size w w2) := Lib.hid ⟨HI.out.1.below hb2 (Nat.le_refl _), HI.out.2.trans (hb2.mono hbw)⟩
      have hbw2 : w.heap.size ≤ w2.heap.size := HI2.out.2.size
      clear hb2 HCU HI hx3 HX3
      go_wp2_with fail
      refine (checkOf_any hcb (by omega)).mono ?_
      rintro e w3 ⟨rfl, rfl⟩
      rw [← HCS1.out]
      obtain ⟨z, hz⟩ : ∃ z, C (k + 1) = z := ⟨_, rfl⟩
      have HZ := Lib.hid hz
      rw [hz] at HCS1 HOK1 hcb1 ⊢
      clear hz
      have fin : OK k = false → ∃ a' c', Ending.returned (.tuple #[.slice a out.length c, .int .i64 (at0' : Int)]) = .returned (.tuple #[.slice a' (RL N).length c', .int .i64 (A N)]) ∧ Own Value.string 9 w2 w.heap.size a' c' (RL N) ∧ Below w.heap.size w w2 := by
        intro h
        have hN := HST.out k hk HAL.out (fun hh => by rw [h] at hh; simp at hh)
        refine ⟨a, c, ?_, ?_, HI2.out.2⟩
        · rw [hN, ← HOUT.out, HAT.out]
        · rw [hN, ← HOUT.out]; exact HI2.out.1
      have FIN := Lib.hid fin
      clear fin
      cases fd with
      | false =>
        have HF := Lib.hid (FIN.out (by rw [HOK1.out]; rfl))
        go_wp2
        go_ret2
        exact HF.out
      | true =>
        have hds := decT_size (n := z) (by omega) (by omega)
        have hbq := tl_beq lh (decT z)
        go_wp2_with fail
        refine (decimal_any (n := z) (HT.out.below HI2.out.2 (Nat.le_refl _)) (by omega) (by omega)).mono ?_
        rintro e w3 ⟨rfl, hb3⟩
        have HB3 := Lib.hid hb3
        have HI3 : Hid (Own Value.string 9 w3 w.heap.size a c out ∧ Below w.heap.size w w3) := Lib.hid ⟨HI2.out.1.below hb3 (Nat.le_refl _), HI2.out.2.trans (hb3.mono hbw2)⟩
        have hbw3 : w.heap.size ≤ w3.heap.size := HI3.out.2.size
        clear hb3
        by_cases he : lh = decT z
        · have HOKT : Hid (OK k = true) := Lib.hid (by rw [HOK1.out, decide_eq_true he]; rfl)
          have HAL2 : Hid (∀ j, j < k + 1 → OK j = true) := Lib.hid (fun j hj => by
            rcases Nat.lt_or_ge j k with h2 | h2
            · exact HAL.out j h2
            · rw [show j = k by omega]; exact HOKT.out)
          rw [decide_eq_true he] at hbq
          have hbq3 : (lh.toList != (decT z).toList) = false := by show (!(lh.toList == (decT z).toList)) = false; rw [hbq]; rfl
          clear he
          generalize decT z = d at hbq hbq3 ⊢
          have ew1 : IntKind.i64.wrap ((l.size : Int) + 1) = (l.size : Int) + 1 := IntWalk.i64_in _ (by omega)
          have ew2 : IntKind.i64.wrap ((at0' : Int) + ((l.size : Int) + 1)) = (at0' : Int) + ((l.size : Int) + 1) := IntWalk.i64_in _ (by omega)
          clear hsx hsz FIN HI2
          go_wp2_with (at_builtin; refine wpl_append1 (f := Value.string) (d := ⟨#[]⟩) (base := w.heap.size) und_sse info_ss (fun _ => rfl) lt HI3.out.1 rfl _ _ rfl rfl rfl (by omega) (by omega) hbw3 ?_; intro a4 c4 w4 ho4 hg4; have HO4 := Lib.hid ho4; have HB4 := Lib.hid (HI3.out.2.trans (grown_belowOwn HI3.out.1 hg4 (Nat.le_refl _) hbw3)); clear ho4 hg4)
          go_roundw
          case rel => exact ⟨k + 1, a4, c4, out ++ [lt], by omega, by rw [HA1.out]; go_num, by rw [HA1.out]; omega, by rw [HZ.out], by simp, by simp; omega, Lib.hid (by rw [HRS1.out, ← HOUT.out]), HAL2, Lib.hid ⟨HO4.out, HB4.out⟩⟩
          case measure => simp [intOf]; omega
        · have HF := Lib.hid (FIN.out (by rw [HOK1.out, decide_eq_false he]; rfl))
          rw [decide_eq_false he] at hbq
          have hbq3 : (lh.toList != (decT z).toList) = true := by show (!(lh.toList == (decT z).toList)) = true; rw [hbq]; rfl
          clear he
          generalize decT z = d at hbq hbq3 ⊢
          go_wp2
          go_ret2
          obtain ⟨a', c', h1, h2, h3⟩ := HF.out
          exact ⟨a', c', h1, h2.below HB3.out (Nat.le_refl _), h3.trans (HB3.out.mono hbw2)⟩
    · obtain rfl : k = L.length := by omega
      obtain ⟨h1, h2⟩ := HEND.out
      rw [hat0] at h1 h2
      have hif : (if fIdx 10 (toL sx) < sx.size then (fIdx 10 (toL sx) : Int) else -1) = -1 := by
        rw [hexd, hsz, if_neg (by rw [List.length_drop, toL_len] at h1; exact h1)]
      have HIX : Hid (Calls Tryd.prog 108 #[.string sx, .int .u8 10] wr fun e w' => e = .returned (.int .i64 (-1)) ∧ wr = w') := Lib.hid (by have := indexByte_any (s := sx) (w := wr); rwa [hif] at this)
      have hN := HST.out L.length (Nat.le_refl _) HAL.out (fun h => Nat.lt_irrefl _ h.1)
      have HF : Hid (∃ a' c', Ending.returned (.tuple #[.slice a out.length c, .int .i64 (at0' : Int)]) = .returned (.tuple #[.slice a' (RL N).length c', .int .i64 (A N)]) ∧ Own Value.string 9 wr w.heap.size a' c' (RL N) ∧ Below w.heap.size w wr) := Lib.hid (by
        refine ⟨a, c, ?_, ?_, HI.out.2⟩
        · rw [hN, ← HOUT.out, HAT.out]
        · rw [hN, ← HOUT.out]; exact HI.out.1)
      clear hif h1 h2 hexd hN
      go_wp2_with fail
      refine HIX.out.mono ?_
      rintro e w1 ⟨rfl, rfl⟩
      clear HIX
      go_wp2
      go_ret2
      exact HF.out

end Go.Proofs.YtockifchghllhaaDoor
