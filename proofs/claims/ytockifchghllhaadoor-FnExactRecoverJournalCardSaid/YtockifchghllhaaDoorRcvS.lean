/- RecoverJournal: the reference's text, and both functions. -/
import Derived.Test.YtockifchghllhaaDoorRcv
namespace Go.Proofs.YtockifchghllhaaDoor
open Go.RowKit
attribute [local go_sem ↓] Go.wp_at_zero Go.wp_at_succ

theorem lnI_lt {l : ByteArray} {k : Nat} (h : k < lnI l) : k < l.size ∧ byt l k ≠ 32 := ctI_lt h
theorem lnI_at {l : ByteArray} (h : lnI l < l.size) : byt l (lnI l) = 32 := ctI_at h
theorem lnI_le (l : ByteArray) : lnI l ≤ l.size := ctI_le 32 l

set_option maxRecDepth 10000 in
set_option maxHeartbeats 8000000 in
theorem l08Recover_any {t : ByteArray} {w : World} (hs : t.size ≤ 1048576) :
    Calls Tryd.prog 74 #[.string t] w fun e w' => ∃ a c, e = .returned (.tuple #[.slice a (rL (linesL t) (rN (linesL t))).length c, .int .i64 (rA (linesL t) (rN (linesL t)))]) ∧ Own Value.string 9 w' w.heap.size a c (rL (linesL t) (rN (linesL t))) ∧ Below w.heap.size w w' := by
  have HCU := Lib.hid (l08Lines_any (w := w) hs)
  have HLS := Lib.hid (fun k => lines_size (t := t) (k := k))
  have HAT : Hid (∀ k, k ≤ (linesL t).length → rA (linesL t) k ≤ t.size) := Lib.hid (fun k hk => Nat.le_trans (rA_le hk) (lies_end t).2)
  have HLL : Hid ((linesL t).length ≤ 1048576) := Lib.hid (by have := parts_len t 10; unfold linesL; rw [List.length_take]; omega)
  generalize linesL t = L at HCU HLS HLL HAT ⊢
  generalize restT t = RT at HCU
  have HC := Lib.hid (rC_bd L)
  have HCS : Hid (∀ k, rC L (k + 1) = chk (rC L k) (lnT (bsT L k)) (lnT (bsT L k)).size) := Lib.hid (fun _ => rfl)
  have HAS : Hid (∀ k, rA L (k + 1) = rA L k + ((bsT L k).size + 1)) := Lib.hid (fun _ => rfl)
  have H0 : Hid (rA L 0 = 0 ∧ rC L 0 = 0) := Lib.hid ⟨rfl, rfl⟩
  have HOK : Hid (∀ k, rOk L k = (decide (lnI (bsT L k) < (bsT L k).size) && decide (lnH (bsT L k) = decT (rC L (k + 1))))) := Lib.hid (fun _ => rfl)
  have HST : Hid (∀ k, k ≤ L.length → (∀ j, j < k → rOk L j = true) → ¬ (k < L.length ∧ rOk L k = true) → rN L = k) := Lib.hid (fun k h1 h2 h3 => rN_stop h1 h2 h3)
  have HRS : Hid (∀ k, rL L (k + 1) = rL L k ++ [lnT (bsT L k)]) := Lib.hid (rL_succ L)
  have HR0 : Hid (rL L 0 = []) := Lib.hid rfl
  generalize rA L = A at HAS H0 HAT ⊢
  generalize rC L = C at HC HCS H0 HOK
  generalize rL L = RL at HRS HR0 ⊢
  generalize rOk L = OK at HOK HST
  generalize rN L = N at HST ⊢
  go_enter Tryd.func74, Tryd.ntmps74
  go_wp2_with fail
  refine HCU.out.mono ?_
  rintro e w1 ⟨la, lc, rfl, hr, hb1⟩
  have HR1 := Lib.hid hr
  have HB1 := Lib.hid (hb1.alloc hb1.size (.cells #[] 9))
  have HO1 : Hid (Own Value.string 9 (w1.alloc (.cells #[] 9)) w1.heap.size (some ⟨w1.heap.size, 0, none⟩) 0 []) := Lib.hid (own_empty w1 _ (Nat.le_refl _) rfl)
  have HZ1 : Hid (w.heap.size ≤ w1.heap.size) := Lib.hid hb1.size
  have hix := hr.idx und_ss siz_ss
  clear hb1 HCU hr
  go_wp2
  go_loopw [6, 7, 8, 9, 10, 11] (fun oi ci ni vi _ _ wr => ∃ (k : Nat) (a : Option Addr) (c : Nat) (out : List ByteArray), vi = .int .i64 k ∧ k ≤ L.length ∧ ni = .int .i64 (A k) ∧ ci = .int .i64 (C k) ∧ oi = .slice a out.length c ∧ out.length ≤ k ∧ Hid (out = RL k) ∧ Hid (∀ j, j < k → OK j = true) ∧ Hid (Own Value.string 9 wr w1.heap.size a c out ∧ Below w.heap.size w wr ∧ Below w1.heap.size w1 wr)) (fun _ _ _ vi _ _ _ => L.length - (intOf vi).toNat)
  case atStart => exact ⟨0, _, _, [], rfl, Nat.zero_le _, by rw [H0.out.1]; rfl, by rw [H0.out.2], rfl, Nat.le_refl _, Lib.hid HR0.out.symm, Lib.hid (fun j hj => absurd hj (Nat.not_lt_zero _)), Lib.hid ⟨HO1.out, HB1.out, (Below.refl _ _).alloc (Nat.le_refl _) _⟩⟩
  case round =>
    clear HO1 HB1
    obtain ⟨k, a, c, out, rfl, hk, rfl, rfl, rfl, hol, HOUT, HAL, HI⟩ := hrel
    have hbw : w.heap.size ≤ wr.heap.size := HI.out.2.1.size
    have hbw1 : w1.heap.size ≤ wr.heap.size := HI.out.2.2.size
    have hll := HLL.out
    by_cases hlt : k < L.length
    · have hltz : (k : Int) < (L.length : Int) := by omega
      have ewk : IntKind.i64.wrap ((k : Int) + 1) = (k : Int) + 1 := IntWalk.i64_in _ (by omega)
      have hcx := rd_bsT (HR1.out.below HI.out.2.2 (Nat.le_refl _)) hlt
      have HCX1 := Lib.hid (fun (w' : World) (h : Below w1.heap.size w1 w') => rd_bsT (HR1.out.below h (Nat.le_refl _)) hlt)
      have HCX := Lib.hid (fun (w' : World) (h : Below wr.heap.size wr w') => rd_bsT ((HR1.out.below HI.out.2.2 (Nat.le_refl _)).below h (Nat.le_refl _)) hlt)
      have hA0 := HAT.out k hk
      have hA1 := HAT.out (k + 1) (by omega)
      have hAS := HAS.out k
      have HCS1 := Lib.hid (HCS.out k)
      have HOK1 := Lib.hid (HOK.out k)
      have HRS1 := Lib.hid (HRS.out k)
      have hcb := HC.out k
      have hcb1 := HC.out (k + 1)
      obtain ⟨l, hl⟩ : ∃ l, bsT L k = l := ⟨_, rfl⟩
      rw [hl] at hcx hAS HCS1 HOK1 HRS1 HCX HCX1
      clear hl
      obtain ⟨n0, hn0⟩ : ∃ x, A k = x := ⟨_, rfl⟩
      have HN0 := Lib.hid hn0
      have HA1 := Lib.hid hAS
      rw [hn0] at hA0 hAS ⊢
      have hlz : n0 + l.size + 1 ≤ 1048576 := by omega
      have hle := lnI_le l
      have HLI := Lib.hid (fun j h => lnI_lt (l := l) (k := j) h)
      have HLA := Lib.hid (fun h => lnI_at (l := l) h)
      have HTE : Hid (lnT l = l.extract (lnI l + 1) l.size) := Lib.hid rfl
      have HHE : Hid (lnH l = l.extract 0 (lnI l)) := Lib.hid rfl
      have hts : (lnT l).size ≤ 1048576 := Nat.le_trans (lnT_size l) (by omega)
      generalize lnT l = lt at HCS1 HRS1 hts HTE
      generalize lnH l = lh at HOK1 HHE
      generalize lnI l = I at hle HLI HLA HTE HHE HOK1
      have fin : OK k = false → ∃ a' c', Ending.returned (.tuple #[.slice a out.length c, .int .i64 (n0 : Int)]) = .returned (.tuple #[.slice a' (RL N).length c', .int .i64 (A N)]) ∧ Own Value.string 9 wr w.heap.size a' c' (RL N) ∧ Below w.heap.size w wr := by
        intro h
        have hN := HST.out k hk HAL.out (fun hh => by rw [h] at hh; simp at hh)
        refine ⟨a, c, ?_, ?_, HI.out.2.1⟩
        · rw [hN, ← HOUT.out, HN0.out]
        · rw [hN, ← HOUT.out]; exact HI.out.1.mono HZ1.out
      have FIN := Lib.hid fin
      clear fin hn0 hA1 hAS hA0
      go_wp2
      go_loopw [10] (fun ji wq => ∃ j : Nat, ji = .int .i64 j ∧ j ≤ I ∧ Hid (wq = wr)) (fun ji _ => l.size + 1 - (intOf ji).toNat)
      case atStart => exact ⟨0, rfl, Nat.zero_le _, Lib.hid rfl⟩
      case round =>
        obtain ⟨j, rfl, hj, HWQ⟩ := hrel
        obtain rfl := HWQ.out
        clear HWQ
        by_cases hjI : j < I
        · obtain ⟨hjl, hjb⟩ := HLI.out j hjI
          have hjz : (j : Int) < (l.size : Int) := by omega
          have hbe := byt_eq hjl
          have hbl := byt_lt l j
          have ewj : IntKind.i64.wrap ((j : Int) + 1) = (j : Int) + 1 := IntWalk.i64_in _ (by omega)
          obtain ⟨y, hy⟩ : ∃ y, byt l j = y := ⟨_, rfl⟩
          rw [hy] at hbe hjb hbl
          have hd : ((y : Int) == 32) = false := beq_eq_false_iff_ne.2 (by omega)
          have hd2 : ((y : Int) != 32) = true := by show (!((y : Int) == 32)) = true; rw [hd]; rfl
          clear hy
          go_wp2
          go_roundw
          case rel => exact ⟨j + 1, by go_num, by omega, Lib.hid trivial⟩
          case measure => simp [intOf]; omega
        · obtain rfl : j = I := by omega
          by_cases hjl : j < l.size
          · have hb32 := HLA.out hjl
            have hjz : (j : Int) < (l.size : Int) := by omega
            have hbe := byt_eq hjl
            rw [hb32] at hbe
            have hd2 : (((32 : Nat) : Int) != 32) = false := by rfl
            have hne : ((j : Int) == (l.size : Int)) = false := beq_eq_false_iff_ne.2 (by omega)
            have ewj : IntKind.i64.wrap ((j : Int) + 1) = ((j + 1 : Nat) : Int) := by rw [IntWalk.i64_in _ (by omega)]; omega
            have hjz1 : ((j + 1 : Nat) : Int) ≤ (l.size : Int) := by omega
            have hte := HTE.out.symm
            have hhe := HHE.out.symm
            obtain ⟨z, hz⟩ : ∃ z, C (k + 1) = z := ⟨_, rfl⟩
            have HZ := Lib.hid hz
            rw [hz] at HCS1 HOK1 hcb1
            clear hz
            go_wp2_with fail
            refine (l01Check_any hcb (by omega)).mono ?_
            rintro e w3 ⟨rfl, rfl⟩
            rw [← HCS1.out]
            have hds := decT_size (n := z) (by omega) (by omega)
            have hbq := tl_beq lh (decT z)
            have HD := Lib.hid (fun w' => l01Dec_any (n := z) (w := w') (by omega) (by omega))
            by_cases he : lh = decT z
            · have HOKT : Hid (OK k = true) := Lib.hid (by rw [HOK1.out, decide_eq_true hjl, decide_eq_true he]; rfl)
              have HAL2 : Hid (∀ j, j < k + 1 → OK j = true) := Lib.hid (fun j hj => by
                rcases Nat.lt_or_ge j k with h2 | h2
                · exact HAL.out j h2
                · rw [show j = k by omega]; exact HOKT.out)
              rw [decide_eq_true he] at hbq
              have hbq3 : (lh.toList != (decT z).toList) = false := by show (!(lh.toList == (decT z).toList)) = false; rw [hbq]; rfl
              clear he
              generalize decT z = d at hbq hbq3 HD hds
              have ew1 : IntKind.i64.wrap ((l.size : Int) + 1) = (l.size : Int) + 1 := IntWalk.i64_in _ (by omega)
              have ew2 : IntKind.i64.wrap ((n0 : Int) + ((l.size : Int) + 1)) = (n0 : Int) + ((l.size : Int) + 1) := IntWalk.i64_in _ (by omega)
              go_wp2_with fail
              have HBD := Lib.hid (below_of_drewN wr 1 wr.heap.size)
              go_region_held3 (fun w' => w'.cell? (elt la k) = some (.string l))
                (first | (with_reducible exact hk8.out) | exact hcx)
                (first
                  | (go_at_call 99; refine (HD.out _).mono ?_; rintro e w8 ⟨rfl, hb8⟩; have HB8 : Hid (Below wr.heap.size wr w8) := Lib.hid (HBD.out.trans (hb8.mono HBD.out.size)); have hk8 := Lib.hid (HCX.out w8 HB8.out); clear hb8))
              have HI8 : Hid (Own Value.string 9 w8 w1.heap.size a c out ∧ Below w.heap.size w w8 ∧ Below w1.heap.size w1 w8) := Lib.hid ⟨HI.out.1.below HB8.out (Nat.le_refl _), HI.out.2.1.trans (HB8.out.mono hbw), HI.out.2.2.trans (HB8.out.mono hbw1)⟩
              have hbw8 : w1.heap.size ≤ w8.heap.size := HI8.out.2.2.size
              clear HI FIN HD hk8 HB8 HBD hcx
              go_wp2_with (at_builtin; refine wpl_append1 (f := Value.string) (d := ⟨#[]⟩) (base := w1.heap.size) und_sse info_ss (fun _ => rfl) lt HI8.out.1 rfl _ _ rfl rfl rfl (by omega) (by omega) hbw8 ?_; intro a4 c4 w4 ho4 hg4; have HO4 := Lib.hid ho4; have HG1 := Lib.hid (HI8.out.2.2.trans (grown_belowOwn HI8.out.1 hg4 (Nat.le_refl _) hbw8)); have HB4 := Lib.hid (HI8.out.2.1.trans ((grown_belowOwn HI8.out.1 hg4 (Nat.le_refl _) hbw8).mono HZ1.out)); have hcx9 := HCX1.out w4 HG1.out; clear ho4 hg4)
              go_roundw
              case rel => exact ⟨k + 1, a4, c4, out ++ [lt], by go_num, by omega, by rw [HA1.out, HN0.out]; go_num, by rw [HZ.out], by simp, by simp; omega, Lib.hid (by rw [HRS1.out, ← HOUT.out]), HAL2, Lib.hid ⟨HO4.out, HB4.out, HG1.out⟩⟩
              case measure => simp [intOf]; omega
            · have HF := Lib.hid (FIN.out (by rw [HOK1.out, decide_eq_false he, Bool.and_false]))
              rw [decide_eq_false he] at hbq
              have hbq3 : (lh.toList != (decT z).toList) = true := by show (!(lh.toList == (decT z).toList)) = true; rw [hbq]; rfl
              clear he
              generalize decT z = d at hbq hbq3 HD hds
              go_wp2_with fail
              have HBD := Lib.hid (below_of_drewN wr 1 wr.heap.size)
              go_region_held3 (fun w' => w'.cell? (elt la k) = some (.string l))
                (first | (with_reducible exact hk8.out) | exact hcx)
                (first
                  | (go_at_call 99; refine (HD.out _).mono ?_; rintro e w8 ⟨rfl, hb8⟩; have HB8 : Hid (Below wr.heap.size wr w8) := Lib.hid (HBD.out.trans (hb8.mono HBD.out.size)); have hk8 := Lib.hid (HCX.out w8 HB8.out); clear hb8))
              go_wp2
              go_ret2
              obtain ⟨a', c', h1, h2, h3⟩ := HF.out
              exact ⟨a', c', h1, h2.below HB8.out (Nat.le_refl _), h3.trans (HB8.out.mono hbw)⟩
          · have hI : j = l.size := by omega
            subst hI
            have hjz : ¬ (l.size : Int) < (l.size : Int) := by omega
            have hne : ((l.size : Int) == (l.size : Int)) = true := by simp
            have HF := Lib.hid (FIN.out (by rw [HOK1.out, decide_eq_false hjl]; rfl))
            go_wp2
            go_ret2
            exact HF.out
    · obtain rfl : k = L.length := by omega
      have hltz : ¬ (L.length : Int) < (L.length : Int) := by omega
      have hN := HST.out L.length (Nat.le_refl _) HAL.out (fun h => Nat.lt_irrefl _ h.1)
      have HF : Hid (∃ a' c', Ending.returned (.tuple #[.slice a out.length c, .int .i64 (A L.length : Int)]) = .returned (.tuple #[.slice a' (RL N).length c', .int .i64 (A N)]) ∧ Own Value.string 9 wr w.heap.size a' c' (RL N) ∧ Below w.heap.size w wr) := Lib.hid (by
        refine ⟨a, c, ?_, ?_, HI.out.2.1⟩
        · rw [hN, ← HOUT.out]
        · rw [hN, ← HOUT.out]; exact HI.out.1.mono HZ1.out)
      clear hN
      go_wp2
      go_ret2
      exact HF.out

end Go.Proofs.YtockifchghllhaaDoor
