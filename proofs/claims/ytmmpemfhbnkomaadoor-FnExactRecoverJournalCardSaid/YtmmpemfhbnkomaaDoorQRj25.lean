/- RecoverJournal in both texts. RecoverJournal: the reference's text, and both functions. The walk of the law FnExactRecoverJournal. -/
import Derived.Test.YtmmpemfhbnkomaaDoorQRj20
import Derived.Test.YtmmpemfhbnkomaaDoorQRj22
import Derived.Test.YtmmpemfhbnkomaaDoorQRj24
import Derived.Deep.DrawnRows
import Derived.Test.YtmmpemfhbnkomaaDoorQRj21
set_option linter.unusedVariables false
set_option linter.unusedSimpArgs false
namespace Go.Proofs.YtmmpemfhbnkomaaDoor
open Go.RowKit
attribute [local go_sem ↓] Go.wp_at_zero Go.wp_at_succ

theorem indexByte_any {s : ByteArray} {w : World} : Calls Tryd.prog 49 #[.string s, .int .u8 10] w fun e w' => e = .returned (.int .i64 (if fIdx 10 (toL s) < s.size then (fIdx 10 (toL s) : Int) else -1)) ∧ w = w' := by
  refine (Tryd.strings_IndexByte s 10 w).mono ?_
  rintro e w' ⟨rfl, rfl⟩
  refine ⟨?_, rfl⟩
  have e1 : Lib.indexByte s.data.toList (10 : Int).toNat.toUInt8 = Lib.indexByte (toL s) 10 := rfl
  rw [e1, indexByte_one, index_one, toL_len]
theorem ext_drop (t : ByteArray) {k : Nat} (h : k ≤ t.size) : toL (t.extract k t.size) = (toL t).drop k := by
  rw [toL_extract, List.take_of_length_le (by rw [List.length_drop, toL_len]; omega)]
theorem rA_le {L : List ByteArray} {j k : Nat} (h : j ≤ k) : rA L j ≤ rA L k := by
  induction k with
  | zero => rw [Nat.le_zero.1 h]; exact Nat.le_refl _
  | succ k ih =>
    rcases Nat.lt_or_ge j (k + 1) with h2 | h2
    · have := ih (by omega); rw [rA]; omega
    · rw [show j = k + 1 by omega]; exact Nat.le_refl _
theorem lines_size {t : ByteArray} {k : Nat} : (bsT (linesL t) k).size ≤ t.size := by
  by_cases hk : k < (linesL t).length
  · have h := lies_hit hk
    have h3 := h.2.1
    rw [rA] at h3
    omega
  · have : bsT (linesL t) k = ⟨#[]⟩ := by unfold bsT; rw [List.getElem?_eq_none (by omega)]; rfl
    rw [this]; exact Nat.zero_le _

set_option maxRecDepth 10000 in
set_option maxHeartbeats 8000000 in
theorem recovered_any {t : ByteArray} {w : World} (hM : MLen w) (hT : PTab w) (hs : t.size ≤ 1048576) :
    Calls Tryd.prog 28 #[.string t] w fun e w' => ∃ a c, e = .returned (.tuple #[.slice a (rL (linesL t) (rN (linesL t))).length c, .int .i64 (rA (linesL t) (rN (linesL t)))]) ∧ Own Value.string 9 w' w.heap.size a c (rL (linesL t) (rN (linesL t))) ∧ Below w.heap.size w w' := by
  have HB0 := Lib.hid ((Below.refl w.heap.size w).alloc (Nat.le_refl _) (.cells #[] 9))
  have HO0 : Hid (Own Value.string 9 (w.alloc (.cells #[] 9)) w.heap.size (some ⟨w.heap.size, 0, none⟩) 0 []) := Lib.hid (own_empty w _ (Nat.le_refl _) rfl)
  have HM := Lib.hid hM
  have HT := Lib.hid hT
  have HHIT : Hid (∀ k, k < (linesL t).length → fIdx 10 ((toL t).drop (rA (linesL t) k)) = (bsT (linesL t) k).size ∧ rA (linesL t) (k + 1) ≤ t.size ∧ t.extract (rA (linesL t) k) (rA (linesL t) k + (bsT (linesL t) k).size) = bsT (linesL t) k) := Lib.hid (fun k hk => lies_hit hk)
  have HEND := Lib.hid (lies_end t)
  have HLS := Lib.hid (fun k => lines_size (t := t) (k := k))
  have HLL : Hid ((linesL t).length ≤ 1048576) := Lib.hid (by have := parts_len t 10; unfold linesL; rw [List.length_take]; omega)
  generalize linesL t = L at HHIT HEND HLS HLL ⊢
  have HC := Lib.hid (rC_bd L)
  have HCS : Hid (∀ k, rC L (k + 1) = chk (rC L k) (lnT (bsT L k)) (lnT (bsT L k)).size) := Lib.hid (fun _ => rfl)
  have HAS : Hid (∀ k, rA L (k + 1) = rA L k + ((bsT L k).size + 1)) := Lib.hid (fun _ => rfl)
  have H0 : Hid (rA L 0 = 0 ∧ rC L 0 = 0) := Lib.hid ⟨rfl, rfl⟩
  have HOK : Hid (∀ k, rOk L k = (decide (lnI (bsT L k) < (bsT L k).size) && decide (lnH (bsT L k) = decT (rC L (k + 1))))) := Lib.hid (fun _ => rfl)
  have HST : Hid (∀ k, k ≤ L.length → (∀ j, j < k → rOk L j = true) → ¬ (k < L.length ∧ rOk L k = true) → rN L = k) := Lib.hid (fun k h1 h2 h3 => rN_stop h1 h2 h3)
  have HRS : Hid (∀ k, rL L (k + 1) = rL L k ++ [lnT (bsT L k)]) := Lib.hid (rL_succ L)
  have HRN : Hid (∀ k, (rL L k).length = k) := Lib.hid (rL_len L)
  have HR0 : Hid (rL L 0 = []) := Lib.hid rfl
  generalize rA L = A at HHIT HEND HAS H0 ⊢
  generalize rC L = C at HC HCS H0 HOK
  generalize rL L = RL at HRS HRN HR0 ⊢
  generalize rOk L = OK at HOK HST
  generalize rN L = N at HST ⊢
  go_enter Tryd.func28, Tryd.ntmps28
  go_wp2
  go_loopw [4, 5, 6, 7, 8, 9, 10, 11, 12] (fun oi ci ai _ _ _ _ _ _ wr => ∃ (k : Nat) (a : Option Addr) (c : Nat) (out : List ByteArray), k ≤ L.length ∧ ai = .int .i64 (A k) ∧ A k ≤ t.size ∧ ci = .int .i64 (C k) ∧ oi = .slice a out.length c ∧ out.length ≤ k ∧ Hid (out = RL k) ∧ Hid (∀ j, j < k → OK j = true) ∧ Hid (Own Value.string 9 wr w.heap.size a c out ∧ Below w.heap.size w wr)) (fun _ _ ai _ _ _ _ _ _ _ => t.size - (intOf ai).toNat)
  case atStart => exact ⟨0, _, _, [], Nat.zero_le _, by rw [H0.out.1]; rfl, by rw [H0.out.1]; exact Nat.zero_le _, by rw [H0.out.2], rfl, Nat.le_refl _, Lib.hid HR0.out.symm, Lib.hid (fun j hj => absurd hj (Nat.not_lt_zero _)), Lib.hid ⟨HO0.out, HB0.out⟩⟩
  case round =>
    clear HO0 HB0
    obtain ⟨k, a, c, out, hk, rfl, hat, rfl, rfl, hol, HOUT, HAL, HI⟩ := hrel
    have hbw : w.heap.size ≤ wr.heap.size := HI.out.2.size
    have hll := HLL.out
    obtain ⟨at0', hat0⟩ : ∃ x, A k = x := ⟨_, rfl⟩
    have HAT := Lib.hid hat0
    have hexd := ext_drop t (k := A k) hat
    rw [hat0] at hat hexd ⊢
    have hatz : (at0' : Int) ≤ (t.size : Int) := by omega
    obtain ⟨sx, hsx⟩ : ∃ x, t.extract at0' t.size = x := ⟨_, rfl⟩
    rw [hsx] at hexd
    have hsz : sx.size = t.size - at0' := by rw [← hsx, ByteArray.size_extract]; omega
    by_cases hlt : k < L.length
    · obtain ⟨h1, h2, h3⟩ := HHIT.out k hlt
      rw [hat0] at h1 h3
      have hA1 := HAS.out k
      rw [hat0] at hA1
      have hls := HLS.out k
      have HCS1 := Lib.hid (HCS.out k)
      have HOK1 := Lib.hid (HOK.out k)
      have HRS1 := Lib.hid (HRS.out k)
      have hcb := HC.out k
      have hcb1 := HC.out (k + 1)
      obtain ⟨l, hl⟩ : ∃ l, bsT L k = l := ⟨_, rfl⟩
      rw [hl] at h1 h3 hA1 hls HCS1 HOK1 HRS1
      have hif : (if fIdx 10 (toL sx) < sx.size then (fIdx 10 (toL sx) : Int) else -1) = (l.size : Int) := by
        rw [hexd, h1, hsz, if_pos (by omega)]
      have HIX : Hid (Calls Tryd.prog 49 #[.string sx, .int .u8 10] wr fun e w' => e = .returned (.int .i64 (l.size : Int)) ∧ wr = w') := Lib.hid (by have := indexByte_any (s := sx) (w := wr); rwa [hif] at this)
      have hneg : ¬ (l.size : Int) < 0 := by omega
      have hdn : decide ((l.size : Int) < 0) = false := decide_eq_false hneg
      have hub : (at0' : Int) + (l.size : Int) ≤ (t.size : Int) := by omega
      have ewa : IntKind.i64.wrap ((at0' : Int) + (l.size : Int)) = ((at0' + l.size : Nat) : Int) := by rw [IntWalk.i64_in _ (by omega)]; omega
      have hlz : l.size + at0' + 1 ≤ t.size := by omega
      have HX3 := Lib.hid h3
      have HA1 := Lib.hid hA1
      have HCU := Lib.hid (cutS_any (s := l) 32 (HM.out.below HI.out.2 (Nat.le_refl _)) (by omega))
      have hts : (lnT l).size ≤ 1048576 := Nat.le_trans (lnT_size l) (by omega)
      have hT1 : ctT 32 l = lnT l := rfl
      have hT2 : ctH 32 l = lnH l := rfl
      have hT3 : ctB 32 l = decide (lnI l < l.size) := rfl
      rw [hT1, hT2, hT3] at HCU
      clear h1 h2 h3 hA1 hl hif hexd hneg hT1 hT2 hT3 hls hat0
      generalize lnT l = lt at HCU HCS1 HRS1 hts
      generalize lnH l = lh at HCU HOK1
      generalize decide (lnI l < l.size) = fd at HCU HOK1
      go_wp2_with fail
      refine HIX.out.mono ?_
      rintro e w1 ⟨rfl, rfl⟩
      clear HIX
      have hx3 := HX3.out
      go_wp2_with fail
      refine HCU.out.mono ?_
      rintro e w2 ⟨rfl, hb2⟩
      have HI2 : Hid (Own Value.string 9 w2 w.heap.size a c out ∧ Below w.heap.size w w2) := Lib.hid ⟨HI.out.1.below hb2 (Nat.le_refl _), HI.out.2.trans (hb2.mono hbw)⟩
      have hbw2 : w.heap.size ≤ w2.heap.size := HI2.out.2.size
      clear hb2 HCU HI hx3 HX3
      go_wp2_with fail
      refine (checkOf_any hcb (by omega)).mono ?_
      rintro e w3 ⟨rfl, rfl⟩
      rw [← HCS1.out]
      obtain ⟨z, hz⟩ : ∃ z, C (k + 1) = z := ⟨_, rfl⟩
      have HZ := Lib.hid hz
      rw [hz] at HCS1 HOK1 hcb1 ⊢
      clear hz
      have fin : OK k = false → ∃ a' c', Ending.returned (.tuple #[.slice a out.length c, .int .i64 (at0' : Int)]) = .returned (.tuple #[.slice a' (RL N).length c', .int .i64 (A N)]) ∧ Own Value.string 9 w2 w.heap.size a' c' (RL N) ∧ Below w.heap.size w w2 := by
        intro h
        have hN := HST.out k hk HAL.out (fun hh => by rw [h] at hh; simp at hh)
        refine ⟨a, c, ?_, ?_, HI2.out.2⟩
        · rw [hN, ← HOUT.out, HAT.out]
        · rw [hN, ← HOUT.out]; exact HI2.out.1
      have FIN := Lib.hid fin
      clear fin
      cases fd with
      | false =>
        have HF := Lib.hid (FIN.out (by rw [HOK1.out]; rfl))
        go_wp2
        go_ret2
        exact HF.out
      | true =>
        have hds := decT_size (n := z) (by omega) (by omega)
        have hbq := tl_beq lh (decT z)
        go_wp2_with fail
        refine (decimal_any (n := z) (HT.out.below HI2.out.2 (Nat.le_refl _)) (by omega) (by omega)).mono ?_
        rintro e w3 ⟨rfl, hb3⟩
        have HB3 := Lib.hid hb3
        have HI3 : Hid (Own Value.string 9 w3 w.heap.size a c out ∧ Below w.heap.size w w3) := Lib.hid ⟨HI2.out.1.below hb3 (Nat.le_refl _), HI2.out.2.trans (hb3.mono hbw2)⟩
        have hbw3 : w.heap.size ≤ w3.heap.size := HI3.out.2.size
        clear hb3
        by_cases he : lh = decT z
        · have HOKT : Hid (OK k = true) := Lib.hid (by rw [HOK1.out, decide_eq_true he]; rfl)
          have HAL2 : Hid (∀ j, j < k + 1 → OK j = true) := Lib.hid (fun j hj => by
            rcases Nat.lt_or_ge j k with h2 | h2
            · exact HAL.out j h2
            · rw [show j = k by omega]; exact HOKT.out)
          rw [decide_eq_true he] at hbq
          have hbq3 : (lh.toList != (decT z).toList) = false := by show (!(lh.toList == (decT z).toList)) = false; rw [hbq]; rfl
          clear he
          generalize decT z = d at hbq hbq3 ⊢
          have ew1 : IntKind.i64.wrap ((l.size : Int) + 1) = (l.size : Int) + 1 := IntWalk.i64_in _ (by omega)
          have ew2 : IntKind.i64.wrap ((at0' : Int) + ((l.size : Int) + 1)) = (at0' : Int) + ((l.size : Int) + 1) := IntWalk.i64_in _ (by omega)
          clear hsx hsz FIN HI2
          go_wp2_with (at_builtin; refine wpl_append1 (f := Value.string) (d := ⟨#[]⟩) (base := w.heap.size) und_sse info_ss (fun _ => rfl) lt HI3.out.1 rfl _ _ rfl rfl rfl (by omega) (by omega) hbw3 ?_; intro a4 c4 w4 ho4 hg4; have HO4 := Lib.hid ho4; have HB4 := Lib.hid (HI3.out.2.trans (grown_belowOwn HI3.out.1 hg4 (Nat.le_refl _) hbw3)); clear ho4 hg4)
          go_roundw
          case rel => exact ⟨k + 1, a4, c4, out ++ [lt], by omega, by rw [HA1.out]; go_num, by rw [HA1.out]; omega, by rw [HZ.out], by simp, by simp; omega, Lib.hid (by rw [HRS1.out, ← HOUT.out]), HAL2, Lib.hid ⟨HO4.out, HB4.out⟩⟩
          case measure => simp [intOf]; omega
        · have HF := Lib.hid (FIN.out (by rw [HOK1.out, decide_eq_false he]; rfl))
          rw [decide_eq_false he] at hbq
          have hbq3 : (lh.toList != (decT z).toList) = true := by show (!(lh.toList == (decT z).toList)) = true; rw [hbq]; rfl
          clear he
          generalize decT z = d at hbq hbq3 ⊢
          go_wp2
          go_ret2
          obtain ⟨a', c', h1, h2, h3⟩ := HF.out
          exact ⟨a', c', h1, h2.below HB3.out (Nat.le_refl _), h3.trans (HB3.out.mono hbw2)⟩
    · obtain rfl : k = L.length := by omega
      obtain ⟨h1, h2⟩ := HEND.out
      rw [hat0] at h1 h2
      have hif : (if fIdx 10 (toL sx) < sx.size then (fIdx 10 (toL sx) : Int) else -1) = -1 := by
        rw [hexd, hsz, if_neg (by rw [List.length_drop, toL_len] at h1; exact h1)]
      have HIX : Hid (Calls Tryd.prog 49 #[.string sx, .int .u8 10] wr fun e w' => e = .returned (.int .i64 (-1)) ∧ wr = w') := Lib.hid (by have := indexByte_any (s := sx) (w := wr); rwa [hif] at this)
      have hN := HST.out L.length (Nat.le_refl _) HAL.out (fun h => Nat.lt_irrefl _ h.1)
      have HF : Hid (∃ a' c', Ending.returned (.tuple #[.slice a out.length c, .int .i64 (at0' : Int)]) = .returned (.tuple #[.slice a' (RL N).length c', .int .i64 (A N)]) ∧ Own Value.string 9 wr w.heap.size a' c' (RL N) ∧ Below w.heap.size w wr) := Lib.hid (by
        refine ⟨a, c, ?_, ?_, HI.out.2⟩
        · rw [hN, ← HOUT.out, HAT.out]
        · rw [hN, ← HOUT.out]; exact HI.out.1)
      clear hif h1 h2 hexd hN
      go_wp2_with fail
      refine HIX.out.mono ?_
      rintro e w1 ⟨rfl, rfl⟩
      clear HIX
      go_wp2
      go_ret2
      exact HF.out

end Go.Proofs.YtmmpemfhbnkomaaDoor

namespace Go.Proofs.YtmmpemfhbnkomaaDoor
open Go.RowKit
attribute [local go_sem ↓] Go.wp_at_zero Go.wp_at_succ

theorem lnI_lt {l : ByteArray} {k : Nat} (h : k < lnI l) : k < l.size ∧ byt l k ≠ 32 := ctI_lt h
theorem lnI_at {l : ByteArray} (h : lnI l < l.size) : byt l (lnI l) = 32 := ctI_at h
theorem lnI_le (l : ByteArray) : lnI l ≤ l.size := ctI_le 32 l

set_option maxRecDepth 10000 in
set_option maxHeartbeats 8000000 in
theorem l08Recover_any {t : ByteArray} {w : World} (hs : t.size ≤ 1048576) :
    Calls Tryd.prog 27 #[.string t] w fun e w' => ∃ a c, e = .returned (.tuple #[.slice a (rL (linesL t) (rN (linesL t))).length c, .int .i64 (rA (linesL t) (rN (linesL t)))]) ∧ Own Value.string 9 w' w.heap.size a c (rL (linesL t) (rN (linesL t))) ∧ Below w.heap.size w w' := by
  have HCU := Lib.hid (l08Lines_any (w := w) hs)
  have HLS := Lib.hid (fun k => lines_size (t := t) (k := k))
  have HAT : Hid (∀ k, k ≤ (linesL t).length → rA (linesL t) k ≤ t.size) := Lib.hid (fun k hk => Nat.le_trans (rA_le hk) (lies_end t).2)
  have HLL : Hid ((linesL t).length ≤ 1048576) := Lib.hid (by have := parts_len t 10; unfold linesL; rw [List.length_take]; omega)
  generalize linesL t = L at HCU HLS HLL HAT ⊢
  generalize restT t = RT at HCU
  have HC := Lib.hid (rC_bd L)
  have HCS : Hid (∀ k, rC L (k + 1) = chk (rC L k) (lnT (bsT L k)) (lnT (bsT L k)).size) := Lib.hid (fun _ => rfl)
  have HAS : Hid (∀ k, rA L (k + 1) = rA L k + ((bsT L k).size + 1)) := Lib.hid (fun _ => rfl)
  have H0 : Hid (rA L 0 = 0 ∧ rC L 0 = 0) := Lib.hid ⟨rfl, rfl⟩
  have HOK : Hid (∀ k, rOk L k = (decide (lnI (bsT L k) < (bsT L k).size) && decide (lnH (bsT L k) = decT (rC L (k + 1))))) := Lib.hid (fun _ => rfl)
  have HST : Hid (∀ k, k ≤ L.length → (∀ j, j < k → rOk L j = true) → ¬ (k < L.length ∧ rOk L k = true) → rN L = k) := Lib.hid (fun k h1 h2 h3 => rN_stop h1 h2 h3)
  have HRS : Hid (∀ k, rL L (k + 1) = rL L k ++ [lnT (bsT L k)]) := Lib.hid (rL_succ L)
  have HR0 : Hid (rL L 0 = []) := Lib.hid rfl
  generalize rA L = A at HAS H0 HAT ⊢
  generalize rC L = C at HC HCS H0 HOK
  generalize rL L = RL at HRS HR0 ⊢
  generalize rOk L = OK at HOK HST
  generalize rN L = N at HST ⊢
  go_enter Tryd.func27, Tryd.ntmps27
  go_wp2_with fail
  refine HCU.out.mono ?_
  rintro e w1 ⟨la, lc, rfl, hr, hb1⟩
  have HR1 := Lib.hid hr
  have HB1 := Lib.hid (hb1.alloc hb1.size (.cells #[] 9))
  have HO1 : Hid (Own Value.string 9 (w1.alloc (.cells #[] 9)) w1.heap.size (some ⟨w1.heap.size, 0, none⟩) 0 []) := Lib.hid (own_empty w1 _ (Nat.le_refl _) rfl)
  have HZ1 : Hid (w.heap.size ≤ w1.heap.size) := Lib.hid hb1.size
  have hix := hr.idx und_ss siz_ss
  clear hb1 HCU hr
  go_wp2
  go_loopw [6, 7, 8, 9, 10, 11] (fun oi ci ni vi _ _ wr => ∃ (k : Nat) (a : Option Addr) (c : Nat) (out : List ByteArray), vi = .int .i64 k ∧ k ≤ L.length ∧ ni = .int .i64 (A k) ∧ ci = .int .i64 (C k) ∧ oi = .slice a out.length c ∧ out.length ≤ k ∧ Hid (out = RL k) ∧ Hid (∀ j, j < k → OK j = true) ∧ Hid (Own Value.string 9 wr w1.heap.size a c out ∧ Below w.heap.size w wr ∧ Below w1.heap.size w1 wr)) (fun _ _ _ vi _ _ _ => L.length - (intOf vi).toNat)
  case atStart => exact ⟨0, _, _, [], rfl, Nat.zero_le _, by rw [H0.out.1]; rfl, by rw [H0.out.2], rfl, Nat.le_refl _, Lib.hid HR0.out.symm, Lib.hid (fun j hj => absurd hj (Nat.not_lt_zero _)), Lib.hid ⟨HO1.out, HB1.out, (Below.refl _ _).alloc (Nat.le_refl _) _⟩⟩
  case round =>
    clear HO1 HB1
    obtain ⟨k, a, c, out, rfl, hk, rfl, rfl, rfl, hol, HOUT, HAL, HI⟩ := hrel
    have hbw : w.heap.size ≤ wr.heap.size := HI.out.2.1.size
    have hbw1 : w1.heap.size ≤ wr.heap.size := HI.out.2.2.size
    have hll := HLL.out
    by_cases hlt : k < L.length
    · have hltz : (k : Int) < (L.length : Int) := by omega
      have ewk : IntKind.i64.wrap ((k : Int) + 1) = (k : Int) + 1 := IntWalk.i64_in _ (by omega)
      have hcx := rd_bsT (HR1.out.below HI.out.2.2 (Nat.le_refl _)) hlt
      have HCX1 := Lib.hid (fun (w' : World) (h : Below w1.heap.size w1 w') => rd_bsT (HR1.out.below h (Nat.le_refl _)) hlt)
      have HCX := Lib.hid (fun (w' : World) (h : Below wr.heap.size wr w') => rd_bsT ((HR1.out.below HI.out.2.2 (Nat.le_refl _)).below h (Nat.le_refl _)) hlt)
      have hA0 := HAT.out k hk
      have hA1 := HAT.out (k + 1) (by omega)
      have hAS := HAS.out k
      have HCS1 := Lib.hid (HCS.out k)
      have HOK1 := Lib.hid (HOK.out k)
      have HRS1 := Lib.hid (HRS.out k)
      have hcb := HC.out k
      have hcb1 := HC.out (k + 1)
      obtain ⟨l, hl⟩ : ∃ l, bsT L k = l := ⟨_, rfl⟩
      rw [hl] at hcx hAS HCS1 HOK1 HRS1 HCX HCX1
      clear hl
      obtain ⟨n0, hn0⟩ : ∃ x, A k = x := ⟨_, rfl⟩
      have HN0 := Lib.hid hn0
      have HA1 := Lib.hid hAS
      rw [hn0] at hA0 hAS ⊢
      have hlz : n0 + l.size + 1 ≤ 1048576 := by omega
      have hle := lnI_le l
      have HLI := Lib.hid (fun j h => lnI_lt (l := l) (k := j) h)
      have HLA := Lib.hid (fun h => lnI_at (l := l) h)
      have HTE : Hid (lnT l = l.extract (lnI l + 1) l.size) := Lib.hid rfl
      have HHE : Hid (lnH l = l.extract 0 (lnI l)) := Lib.hid rfl
      have hts : (lnT l).size ≤ 1048576 := Nat.le_trans (lnT_size l) (by omega)
      generalize lnT l = lt at HCS1 HRS1 hts HTE
      generalize lnH l = lh at HOK1 HHE
      generalize lnI l = I at hle HLI HLA HTE HHE HOK1
      have fin : OK k = false → ∃ a' c', Ending.returned (.tuple #[.slice a out.length c, .int .i64 (n0 : Int)]) = .returned (.tuple #[.slice a' (RL N).length c', .int .i64 (A N)]) ∧ Own Value.string 9 wr w.heap.size a' c' (RL N) ∧ Below w.heap.size w wr := by
        intro h
        have hN := HST.out k hk HAL.out (fun hh => by rw [h] at hh; simp at hh)
        refine ⟨a, c, ?_, ?_, HI.out.2.1⟩
        · rw [hN, ← HOUT.out, HN0.out]
        · rw [hN, ← HOUT.out]; exact HI.out.1.mono HZ1.out
      have FIN := Lib.hid fin
      clear fin hn0 hA1 hAS hA0
      go_wp2
      go_loopw [10] (fun ji wq => ∃ j : Nat, ji = .int .i64 j ∧ j ≤ I ∧ Hid (wq = wr)) (fun ji _ => l.size + 1 - (intOf ji).toNat)
      case atStart => exact ⟨0, rfl, Nat.zero_le _, Lib.hid rfl⟩
      case round =>
        obtain ⟨j, rfl, hj, HWQ⟩ := hrel
        obtain rfl := HWQ.out
        clear HWQ
        by_cases hjI : j < I
        · obtain ⟨hjl, hjb⟩ := HLI.out j hjI
          have hjz : (j : Int) < (l.size : Int) := by omega
          have hbe := byt_eq hjl
          have hbl := byt_lt l j
          have ewj : IntKind.i64.wrap ((j : Int) + 1) = (j : Int) + 1 := IntWalk.i64_in _ (by omega)
          obtain ⟨y, hy⟩ : ∃ y, byt l j = y := ⟨_, rfl⟩
          rw [hy] at hbe hjb hbl
          have hd : ((y : Int) == 32) = false := beq_eq_false_iff_ne.2 (by omega)
          have hd2 : ((y : Int) != 32) = true := by show (!((y : Int) == 32)) = true; rw [hd]; rfl
          clear hy
          go_wp2
          go_roundw
          case rel => exact ⟨j + 1, by go_num, by omega, Lib.hid trivial⟩
          case measure => simp [intOf]; omega
        · obtain rfl : j = I := by omega
          by_cases hjl : j < l.size
          · have hb32 := HLA.out hjl
            have hjz : (j : Int) < (l.size : Int) := by omega
            have hbe := byt_eq hjl
            rw [hb32] at hbe
            have hd2 : (((32 : Nat) : Int) != 32) = false := by rfl
            have hne : ((j : Int) == (l.size : Int)) = false := beq_eq_false_iff_ne.2 (by omega)
            have ewj : IntKind.i64.wrap ((j : Int) + 1) = ((j + 1 : Nat) : Int) := by rw [IntWalk.i64_in _ (by omega)]; omega
            have hjz1 : ((j + 1 : Nat) : Int) ≤ (l.size : Int) := by omega
            have hte := HTE.out.symm
            have hhe := HHE.out.symm
            obtain ⟨z, hz⟩ : ∃ z, C (k + 1) = z := ⟨_, rfl⟩
            have HZ := Lib.hid hz
            rw [hz] at HCS1 HOK1 hcb1
            clear hz
            go_wp2_with fail
            refine (l01Check_any hcb (by omega)).mono ?_
            rintro e w3 ⟨rfl, rfl⟩
            rw [← HCS1.out]
            have hds := decT_size (n := z) (by omega) (by omega)
            have hbq := tl_beq lh (decT z)
            have HD := Lib.hid (fun w' => l01Dec_any (n := z) (w := w') (by omega) (by omega))
            by_cases he : lh = decT z
            · have HOKT : Hid (OK k = true) := Lib.hid (by rw [HOK1.out, decide_eq_true hjl, decide_eq_true he]; rfl)
              have HAL2 : Hid (∀ j, j < k + 1 → OK j = true) := Lib.hid (fun j hj => by
                rcases Nat.lt_or_ge j k with h2 | h2
                · exact HAL.out j h2
                · rw [show j = k by omega]; exact HOKT.out)
              rw [decide_eq_true he] at hbq
              have hbq3 : (lh.toList != (decT z).toList) = false := by show (!(lh.toList == (decT z).toList)) = false; rw [hbq]; rfl
              clear he
              generalize decT z = d at hbq hbq3 HD hds
              have ew1 : IntKind.i64.wrap ((l.size : Int) + 1) = (l.size : Int) + 1 := IntWalk.i64_in _ (by omega)
              have ew2 : IntKind.i64.wrap ((n0 : Int) + ((l.size : Int) + 1)) = (n0 : Int) + ((l.size : Int) + 1) := IntWalk.i64_in _ (by omega)
              go_wp2_with fail
              have HBD := Lib.hid (below_of_drewN wr 1 wr.heap.size)
              go_region_held3 (fun w' => w'.cell? (elt la k) = some (.string l))
                (first | (with_reducible exact hk8.out) | exact hcx)
                (first
                  | (go_at_call 48; refine (HD.out _).mono ?_; rintro e w8 ⟨rfl, hb8⟩; have HB8 : Hid (Below wr.heap.size wr w8) := Lib.hid (HBD.out.trans (hb8.mono HBD.out.size)); have hk8 := Lib.hid (HCX.out w8 HB8.out); clear hb8))
              have HI8 : Hid (Own Value.string 9 w8 w1.heap.size a c out ∧ Below w.heap.size w w8 ∧ Below w1.heap.size w1 w8) := Lib.hid ⟨HI.out.1.below HB8.out (Nat.le_refl _), HI.out.2.1.trans (HB8.out.mono hbw), HI.out.2.2.trans (HB8.out.mono hbw1)⟩
              have hbw8 : w1.heap.size ≤ w8.heap.size := HI8.out.2.2.size
              clear HI FIN HD hk8 HB8 HBD hcx
              go_wp2_with (at_builtin; refine wpl_append1 (f := Value.string) (d := ⟨#[]⟩) (base := w1.heap.size) und_sse info_ss (fun _ => rfl) lt HI8.out.1 rfl _ _ rfl rfl rfl (by omega) (by omega) hbw8 ?_; intro a4 c4 w4 ho4 hg4; have HO4 := Lib.hid ho4; have HG1 := Lib.hid (HI8.out.2.2.trans (grown_belowOwn HI8.out.1 hg4 (Nat.le_refl _) hbw8)); have HB4 := Lib.hid (HI8.out.2.1.trans ((grown_belowOwn HI8.out.1 hg4 (Nat.le_refl _) hbw8).mono HZ1.out)); have hcx9 := HCX1.out w4 HG1.out; clear ho4 hg4)
              go_roundw
              case rel => exact ⟨k + 1, a4, c4, out ++ [lt], by go_num, by omega, by rw [HA1.out, HN0.out]; go_num, by rw [HZ.out], by simp, by simp; omega, Lib.hid (by rw [HRS1.out, ← HOUT.out]), HAL2, Lib.hid ⟨HO4.out, HB4.out, HG1.out⟩⟩
              case measure => simp [intOf]; omega
            · have HF := Lib.hid (FIN.out (by rw [HOK1.out, decide_eq_false he, Bool.and_false]))
              rw [decide_eq_false he] at hbq
              have hbq3 : (lh.toList != (decT z).toList) = true := by show (!(lh.toList == (decT z).toList)) = true; rw [hbq]; rfl
              clear he
              generalize decT z = d at hbq hbq3 HD hds
              go_wp2_with fail
              have HBD := Lib.hid (below_of_drewN wr 1 wr.heap.size)
              go_region_held3 (fun w' => w'.cell? (elt la k) = some (.string l))
                (first | (with_reducible exact hk8.out) | exact hcx)
                (first
                  | (go_at_call 48; refine (HD.out _).mono ?_; rintro e w8 ⟨rfl, hb8⟩; have HB8 : Hid (Below wr.heap.size wr w8) := Lib.hid (HBD.out.trans (hb8.mono HBD.out.size)); have hk8 := Lib.hid (HCX.out w8 HB8.out); clear hb8))
              go_wp2
              go_ret2
              obtain ⟨a', c', h1, h2, h3⟩ := HF.out
              exact ⟨a', c', h1, h2.below HB8.out (Nat.le_refl _), h3.trans (HB8.out.mono hbw)⟩
          · have hI : j = l.size := by omega
            subst hI
            have hjz : ¬ (l.size : Int) < (l.size : Int) := by omega
            have hne : ((l.size : Int) == (l.size : Int)) = true := by simp
            have HF := Lib.hid (FIN.out (by rw [HOK1.out, decide_eq_false hjl]; rfl))
            go_wp2
            go_ret2
            exact HF.out
    · obtain rfl : k = L.length := by omega
      have hltz : ¬ (L.length : Int) < (L.length : Int) := by omega
      have hN := HST.out L.length (Nat.le_refl _) HAL.out (fun h => Nat.lt_irrefl _ h.1)
      have HF : Hid (∃ a' c', Ending.returned (.tuple #[.slice a out.length c, .int .i64 (A L.length : Int)]) = .returned (.tuple #[.slice a' (RL N).length c', .int .i64 (A N)]) ∧ Own Value.string 9 wr w.heap.size a' c' (RL N) ∧ Below w.heap.size w wr) := Lib.hid (by
        refine ⟨a, c, ?_, ?_, HI.out.2.1⟩
        · rw [hN, ← HOUT.out]
        · rw [hN, ← HOUT.out]; exact HI.out.1.mono HZ1.out)
      clear hN
      go_wp2
      go_ret2
      exact HF.out

end Go.Proofs.YtmmpemfhbnkomaaDoor

namespace Go.Proofs.YtmmpemfhbnkomaaDoor
open Go.RowKit

def rjB (t : ByteArray) : Bool := decide (t.size ≤ 16000)
def rjL (t : ByteArray) : List ByteArray := if rjB t then rL (linesL t) (rN (linesL t)) else []
def rjN (t : ByteArray) : Int := if rjB t then (rA (linesL t) (rN (linesL t)) : Int) else 0
def RetJ (w : World) (L : List ByteArray) (n : Int) (b : Bool) (en : Ending) (w' : World) : Prop :=
  ∃ a c, en = .returned (.tuple #[.slice a L.length c, .int .i64 n, .bool b]) ∧ Own Value.string 9 w' w.heap.size a c L ∧ Below w.heap.size w w'

set_option maxHeartbeats 1000000 in
theorem implRecoverJournal_any {t : ByteArray} {w : World} (hM : MLen w) (hT : PTab w) (hs : t.size ≤ 1048576) :
    Calls Tryd.prog 8 #[.string t] w (RetJ w (rjL t) (rjN t) (rjB t)) := by
  by_cases h : t.size ≤ 16000
  · have hd : decide ((16000 : Int) < (t.size : Int)) = false := decide_eq_false (by omega)
    have hb : rjB t = true := decide_eq_true h
    have hL : rjL t = rL (linesL t) (rN (linesL t)) := by unfold rjL; rw [hb]; rfl
    have hN : rjN t = (rA (linesL t) (rN (linesL t)) : Int) := by unfold rjN; rw [hb]; rfl
    have HC := Lib.hid (recovered_any hM hT hs)
    rw [hb, hL, hN]
    generalize rL (linesL t) (rN (linesL t)) = L at HC ⊢
    generalize rA (linesL t) (rN (linesL t)) = n at HC ⊢
    clear hb hL hN hM hT
    go_enter Tryd.func8, Tryd.ntmps8
    go_wp2_with fail
    refine HC.out.mono ?_
    rintro e w1 ⟨a, c, rfl, ho, hb1⟩
    have HO := Lib.hid ho
    have HB := Lib.hid hb1
    clear ho hb1
    go_wp2
    go_ret3
    exact ⟨a, c, rfl, HO.out, HB.out⟩
  · have hd : decide ((16000 : Int) < (t.size : Int)) = true := decide_eq_true (by omega)
    have hb : rjB t = false := decide_eq_false h
    have hL : rjL t = [] := by unfold rjL; rw [hb]; rfl
    have hN : rjN t = 0 := by unfold rjN; rw [hb]; rfl
    rw [hb, hL, hN]
    clear hb hL hN
    go_enter Tryd.func8, Tryd.ntmps8
    go_wp2
    go_ret3
    exact ⟨none, 0, rfl, own_nil _ _ _ _, Below.refl _ _⟩

set_option maxHeartbeats 1000000 in
theorem specRecoverJournal_any {t : ByteArray} {w : World} (hs : t.size ≤ 1048576) :
    Calls Tryd.prog 7 #[.string t] w (RetJ w (rjL t) (rjN t) (rjB t)) := by
  by_cases h : t.size ≤ 16000
  · have hd : decide ((16000 : Int) < (t.size : Int)) = false := decide_eq_false (by omega)
    have hb : rjB t = true := decide_eq_true h
    have hL : rjL t = rL (linesL t) (rN (linesL t)) := by unfold rjL; rw [hb]; rfl
    have hN : rjN t = (rA (linesL t) (rN (linesL t)) : Int) := by unfold rjN; rw [hb]; rfl
    have HC := Lib.hid (l08Recover_any (w := w) hs)
    rw [hb, hL, hN]
    generalize rL (linesL t) (rN (linesL t)) = L at HC ⊢
    generalize rA (linesL t) (rN (linesL t)) = n at HC ⊢
    clear hb hL hN
    go_enter Tryd.func7, Tryd.ntmps7
    go_wp2_with fail
    refine HC.out.mono ?_
    rintro e w1 ⟨a, c, rfl, ho, hb1⟩
    have HO := Lib.hid ho
    have HB := Lib.hid hb1
    clear ho hb1
    go_wp2
    go_ret3
    exact ⟨a, c, rfl, HO.out, HB.out⟩
  · have hd : decide ((16000 : Int) < (t.size : Int)) = true := decide_eq_true (by omega)
    have hb : rjB t = false := decide_eq_false h
    have hL : rjL t = [] := by unfold rjL; rw [hb]; rfl
    have hN : rjN t = 0 := by unfold rjN; rw [hb]; rfl
    rw [hb, hL, hN]
    clear hb hL hN
    go_enter Tryd.func7, Tryd.ntmps7
    go_wp2
    go_ret3
    exact ⟨none, 0, rfl, own_nil _ _ _ _, Below.refl _ _⟩
theorem rj_len (t : ByteArray) (hs : t.size ≤ 1048576) : (rjL t).length ≤ 1048576 := by
  unfold rjL
  split
  · rw [rL_len]
    have h1 : ∀ f k, k ≤ (linesL t).length → rNf (linesL t) f k ≤ (linesL t).length := by
      intro f
      induction f with
      | zero => intro k hk; exact hk
      | succ f ih =>
        intro k hk
        rw [rNf]
        split
        · rename_i h; exact ih (k + 1) (by omega)
        · exact hk
    have h2 := h1 (linesL t).length 0 (Nat.zero_le _)
    have h3 := parts_len t 10
    have h4 : (linesL t).length ≤ (parts t 10).length - 1 := by unfold linesL; rw [List.length_take]; omega
    unfold rN
    omega
  · simp

set_option maxRecDepth 20000 in
set_option maxHeartbeats 4000000 in
theorem lawRecoverJournal_walk {s : ByteArray} {w : World} (hM : MLen w) (hT : PTab w) :
    Calls Tryd.prog 3 #[.string s] w fun e w' => e = .returned (.bool true) ∧ Below w.heap.size w w' := by
  by_cases hs : s.size ≤ 1048576
  · have hd : decide ((1048576 : Int) < (s.size : Int)) = false := decide_eq_false (by omega)
    have hlen := rj_len s hs
    obtain ⟨L, hL⟩ : ∃ z, rjL s = z := ⟨_, rfl⟩
    obtain ⟨n, hn⟩ : ∃ z, rjN s = z := ⟨_, rfl⟩
    obtain ⟨b, hb⟩ : ∃ z, rjB s = z := ⟨_, rfl⟩
    rw [hL] at hlen
    have HSP : Hid (∀ w : World, Calls Tryd.prog 7 #[.string s] w (RetJ w L n b)) := by
      show ∀ w : World, _
      intro w
      have := specRecoverJournal_any (t := s) (w := w) hs
      rwa [hL, hn, hb] at this
    have HIM : Hid (∀ w : World, MLen w → PTab w → Calls Tryd.prog 8 #[.string s] w (RetJ w L n b)) := by
      show ∀ w : World, _
      intro w h1 h2
      have := implRecoverJournal_any (t := s) (w := w) h1 h2 hs
      rwa [hL, hn, hb] at this
    have HV : Hid (∀ w', Below w.heap.size w w' → MLen w' ∧ PTab w') := Lib.hid (fun w' hb => ⟨hM.below hb (Nat.le_refl _), hT.below hb (Nat.le_refl _)⟩)
    have hnb : (b ^^ b) = false := by simp
    have hnb2 : (b != b) = false := by simp
    have hnn : (n == n) = true := by simp
    have hnn2 : (n != n) = false := by simp
    clear hM hT hL hn hb
    go_enter Tryd.func3, Tryd.ntmps3
    go_wp2_with fail
    refine (HSP.out _).mono ?_
    rintro e w1 ⟨aw, cw, rfl, ow, hb1⟩
    have B1 := Lib.hid hb1
    have W1 := Lib.hid ow
    clear hb1 ow
    go_wp2_with fail
    refine (HIM.out _ (HV.out _ B1.out).1 (HV.out _ B1.out).2).mono ?_
    rintro e w2 ⟨ag, cg, rfl, og, hb2⟩
    have B2 := Lib.hid (B1.out.trans (hb2.mono B1.out.size))
    have LW := Lib.hid W1.out.blk
    have LG := Lib.hid og.blk
    have W2 := Lib.hid (W1.out.below hb2 (Nat.le_refl _))
    have G2 := Lib.hid og
    clear hb2 og W1
    go_wp2_with fail
    refine (eqSs_any G2.out.rd W2.out.rd).mono ?_
    rintro e w3 ⟨rfl, hb3⟩
    rw [decide_eq_true (rfl : L = L)]
    have B3 := Lib.hid (B2.out.trans (hb3.mono B2.out.size))
    have W3 := Lib.hid (W2.out.below hb3 (Nat.le_refl _))
    have G3 := Lib.hid (G2.out.below hb3 (Nat.le_refl _))
    clear hb3 B2 W2 G2
    go_wp2_with fail
    refine (markS_any (k0 := 1) G3.out (Nat.le_refl _) (by omega)).mono ?_
    rintro e w4 ⟨rfl, hm, hg⟩
    have M4 := Lib.hid hm.rd
    have B4 : Hid (Below w.heap.size w w4) := Lib.hid (B3.out.trans (grown_belowOwn G3.out hg B1.out.size B3.out.size))
    have W4 : Hid (Own Value.string 9 w4 w.heap.size aw cw L) := Lib.hid (W3.out.kept hg (fun g hgg p hp => by
      cases ha : ag with
      | none => rw [ha] at hgg; simp at hgg
      | some q =>
        rw [ha] at hgg
        have h1 := (LG.out q ha).1
        have h2 := (LW.out p hp).2
        simp at hgg
        omega))
    clear hm hg G3 W3 B3
    go_wp2_with fail
    refine (heldS_any (k0 := 1) M4.out (Nat.le_refl _) (by omega)).mono ?_
    rintro e w5 ⟨rfl, hb5⟩
    have B5 := Lib.hid (B4.out.trans (hb5.mono B4.out.size))
    have W5 := Lib.hid (W4.out.below hb5 (Nat.le_refl _))
    have M5 := Lib.hid (M4.out.below hb5 (Nat.le_refl _))
    clear hb5 B4 W4 M4
    go_wp2_with fail
    refine (HIM.out _ (HV.out _ B5.out).1 (HV.out _ B5.out).2).mono ?_
    rintro e w6 ⟨ah, ch, rfl, oh, hb6⟩
    have B6 := Lib.hid (B5.out.trans (hb6.mono B5.out.size))
    have W6 := Lib.hid (W5.out.below hb6 (Nat.le_refl _))
    have M6 := Lib.hid (M5.out.below hb6 (Nat.le_refl _))
    have H6 := Lib.hid oh.rd
    clear hb6 oh B5 W5 M5
    go_wp2_with fail
    refine (eqSs_any H6.out W6.out.rd).mono ?_
    rintro e w7 ⟨rfl, hb7⟩
    rw [decide_eq_true (rfl : L = L)]
    have B7 := Lib.hid (B6.out.trans (hb7.mono B6.out.size))
    have M7 := Lib.hid (M6.out.below hb7 (Nat.le_refl _))
    clear hb7 B6 M6 H6 W6
    go_wp2_with fail
    refine (heldS_any (k0 := 1) M7.out (Nat.le_refl _) (by omega)).mono ?_
    rintro e w8 ⟨rfl, hb8⟩
    have B8 := Lib.hid (B7.out.trans (hb8.mono B7.out.size))
    clear hb8
    go_wp2
    go_ret
    exact ⟨rfl, B8.out⟩
  · have hd : decide ((1048576 : Int) < (s.size : Int)) = true := decide_eq_true (by omega)
    clear hM hT
    go_enter Tryd.func3, Tryd.ntmps3
    go_wp2
    go_ret
    exact ⟨rfl, Below.refl _ _⟩

end Go.Proofs.YtmmpemfhbnkomaaDoor
