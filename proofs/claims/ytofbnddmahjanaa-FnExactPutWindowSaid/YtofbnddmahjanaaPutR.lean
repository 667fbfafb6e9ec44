/- A bit is brought into a window: the reference's text. -/
import Derived.Test.YtofbnddmahjanaaPutW
import Derived.Test.YtofbnddmahjanaaWinB
import Derived.Test.YtofbnddmahjanaaCalm
import Derived.Deep.LoopGhost
import Derived.Deep.DrawnRows
namespace Go.Proofs.Ytofbnddmahjanaa
open Go.RowKit
attribute [local go_sem ↓] Go.wp_at_zero Go.wp_at_succ

set_option maxRecDepth 100000 in
set_option maxHeartbeats 8000000 in
theorem l06Put_any {b : Nat} {ta sa : Option Addr} {tc sc : Nat} {ts ss : List Int} {L P t : Int} {bit : Bool} {w : World} (hw : WinAt w b 0 L P ta ts.length tc sa ss.length sc) (ht : Rd (Value.int .i64) w ta tc ts) (hs : Rd (Value.int .i64) w sa sc ss) (hv : lateB L P ts ss t = true) (Q : Pr) (hQ : Hid (putR P (put0 (ts.drop (keptI ts (t - L))) (ss.drop (keptI ts (t - L))) t bit) = Q)) :
    Calls Try.prog 95 #[.pointer (some ⟨b, 0, none⟩), .int .i64 t, .bool bit] w (RetKS2 w L P Q.1 Q.2) := by
  obtain ⟨hwin, t0, t1⟩ := late_parts hv
  obtain ⟨l0, l1, p0, p1, hl, h4, _, _⟩ := winB_parts hwin
  have HWIN := Lib.hid hwin
  have H4 := Lib.hid h4
  have b0 : Below w.heap.size w (w.alloc (.cells #[.int .i64 0, .int .i64 0, .slice none 0 0, .slice none 0 0] 53)) := (Below.refl _ _).alloc (Nat.le_refl _) _
  have RB : Hid (Blk (w.alloc (.cells #[.int .i64 0, .int .i64 0, .slice none 0 0, .slice none 0 0] 53)) w.heap.size #[.int .i64 0, .int .i64 0, .slice none 0 0, .slice none 0 0] 53) := Lib.hid (Blk.new _ _ _)
  have BW := Lib.hid b0
  have HW := Lib.hid (hw.below b0 (Nat.le_refl _))
  have HT := Lib.hid (ht.below b0 (Nat.le_refl _))
  have HS := Lib.hid (hs.below b0 (Nat.le_refl _))
  have lz : w.heap.size < (w.alloc (.cells #[.int .i64 0, .int .i64 0, .slice none 0 0, .slice none 0 0] 53)).heap.size := by simp
  clear hw ht hs hv h4 b0 hwin
  go_enter Try.func95, Try.ntmps95
  go_wp2_with fail
  generalize w.alloc (.cells #[.int .i64 0, .int .i64 0, .slice none 0 0, .slice none 0 0] 53) = wb at RB BW HW HT HS lz ⊢
  refine (l06Kept_any2 HW.out HT.out HS.out hl H4.out t0 t1 l0 l1).mono ?_
  rintro e w1 ⟨aT, cT, aS, cS, rfl, oT, oS, hsep, hb1⟩
  rw [(keep_all HWIN.out _).1, (keep_all HWIN.out _).2] at *
  have hinv := put0_inv HWIN.out (keptI ts (t - L)) t bit
  have hlen := (put0_inv HWIN.out (keptI ts (t - L)) t false).len
  have hcnt : ∀ z, (((ss.drop (keptI ts (t - L))).count z : Nat) : Int) ≤ P + 1 := fun z => by
    have h1 := win_count HWIN.out z
    have h2 : ss.count z = (ss.take (keptI ts (t - L))).count z + (ss.drop (keptI ts (t - L))).count z := by rw [← List.count_append, List.take_append_drop]
    omega
  have hT128 : (ts.drop (keptI ts (t - L))).length ≤ 128 := by simp; omega
  generalize ts.drop (keptI ts (t - L)) = KT at oT hinv hQ hlen hT128
  generalize ss.drop (keptI ts (t - L)) = KS at oS hinv hQ hlen hcnt
  simp only [put0] at hlen
  have hS128 : KS.length ≤ 128 := by simp at hlen; omega
  have PW0 := PW.init (L := L) (P := P) oT oS hsep hb1
  have HP0 := Lib.hid PW0
  have lg : wb.heap.size ≤ w1.heap.size := hb1.size
  have HINV := Lib.hid hinv
  have HCNT := Lib.hid hcnt
  clear oT oS hsep hb1 PW0 hinv hcnt HW HT HS hlen
  cases bit with
  | false =>
    have HFIN : Hid (Q = (KT, KS)) := Lib.hid (by rw [← hQ.out]; show putK P 21 1 (KT, KS) = _; exact putK_id _ _ _ HCNT.out)
    go_upto_region 3 with (fail)
    generalize w1.alloc (.cells #[.int .i64 L, .int .i64 P, .slice aT KT.length cT, .slice aS KS.length cS] 53) = wx at HP0 ⊢
    have c0 := HP0.out.blk.cell (i := 0) (v := .int .i64 L) rfl
    have c1 := HP0.out.blk.cell (i := 1) (v := .int .i64 P) rfl
    have c2 := HP0.out.blk.cell (i := 2) (v := .slice aT KT.length cT) rfl
    have c3 := HP0.out.blk.cell (i := 3) (v := .slice aS KS.length cS) rfl
    have RR := RB.out.below HP0.out.B (Nat.le_refl _)
    have r0 := RR.cell (i := 0) (v := .int .i64 0) rfl
    have f0 := RR.free 0
    have r1 := RR.cell (i := 1) (v := .int .i64 0) rfl
    have f1 := RR.free 1
    have r2 := RR.cell (i := 2) (v := .slice none 0 0) rfl
    have f2 := RR.free 2
    have r3 := RR.cell (i := 3) (v := .slice none 0 0) rfl
    have f3 := RR.free 3
    clear RR
    go_wp2
    refine bodyPost_ret (v := .agg #[.int .i64 L, .int .i64 P, .slice aT KT.length cT, .slice aS KS.length cS]) (by simp [results, Try.results95, go_sem, r0, r1, r2, r3]) rfl ⟨aT, cT, aS, cS, ?_, ?_, ?_, HP0.out.nTS, ((((BW.out.trans (HP0.out.B.mono BW.out.size)).setCell (by simp) _).setCell (by simp) _).setCell (by simp) _).setCell (by simp) _⟩
    · rw [HFIN.out]
    · rw [HFIN.out]; exact ((((HP0.out.oT.setFar _ _ (by simp; omega)).setFar _ _ (by simp; omega)).setFar _ _ (by simp; omega)).setFar _ _ (by simp; omega)).mono BW.out.size
    · rw [HFIN.out]; exact ((((HP0.out.oS.setFar _ _ (by simp; omega)).setFar _ _ (by simp; omega)).setFar _ _ (by simp; omega)).setFar _ _ (by simp; omega)).mono BW.out.size
  | true =>
    go_upto_region 4 with (fail)
    generalize w1.alloc (.cells #[.int .i64 L, .int .i64 P, .slice aT KT.length cT, .slice aS KS.length cS] 53) = wx at HP0 ⊢
    have c2 := HP0.out.blk.cell (i := 2) (v := .slice aT KT.length cT) rfl
    have hzx := HP0.out.B.size
    have e1 : (KT ++ [t]).length = KT.length + 1 := by simp
    have e2 : (KS ++ [(1 : Int)]).length = KS.length + 1 := by simp
    have E1 := Lib.hid e1
    have E2 := Lib.hid e2
    clear e1 e2
    go_upto_region 5 with (at_builtin; refine wpl_append1w (f := Value.int .i64) (d := 0) (base := wb.heap.size) und_ise info_i (fun _ => rfl) t HP0.out.oT rfl _ _ rfl rfl rfl (by omega) (by omega) hzx ?_; intro a3 c3 w3 ho3 hg3 hl3; have tn := HP0.out.turnT hg3 ho3 hl3; rw [E1.out] at tn; have x2 := tn.1.cell (i := 2) (v := .slice aT KT.length cT) rfl; have y2 := tn.1.free 2; have HP1 := Lib.hid tn.2; clear tn ho3 hg3 hl3)
    generalize w3.setCell ⟨w1.heap.size, 2, none⟩ (.slice a3 (KT.length + 1) c3) = wy at HP1 ⊢
    clear x2 y2 HP0 c2 hzx
    have c3' := HP1.out.blk.cell (i := 3) (v := .slice aS KS.length cS) rfl
    have hzy := HP1.out.B.size
    go_upto_region 6 with (at_builtin; refine wpl_append1w (f := Value.int .i64) (d := 0) (base := wb.heap.size) und_ise info_i (fun _ => rfl) (1 : Int) HP1.out.oS rfl _ _ rfl rfl rfl (by omega) (by omega) hzy ?_; intro a4 c4 w4 ho4 hg4 hl4; have tn := HP1.out.turnS hg4 ho4 hl4; rw [E2.out] at tn; have x3 := tn.1.cell (i := 3) (v := .slice aS KS.length cS) rfl; have y3 := tn.1.free 3; have HP2 := Lib.hid tn.2; clear tn ho4 hg4 hl4)
    generalize w4.setCell ⟨w1.heap.size, 3, none⟩ (.slice a4 (KS.length + 1) c4) = wz at HP2 ⊢
    clear x3 y3 HP1 c3' hzy
    have hq0 : PW1 wb wz w1.heap.size L P (KT ++ [t], KS ++ [1]) := ⟨a3, c3, a4, c4, HP2.out⟩
    have HQ0 := Lib.hid hq0
    have hl1 : (KT ++ [t]).length ≤ 129 := by rw [E1.out]; omega
    have hl2 : (KS ++ [(1 : Int)]).length ≤ 129 := by rw [E2.out]; omega
    have HL0 := Lib.hid (And.intro hl1 hl2)
    clear hq0 hl1 hl2 HP2
    go_wp2_with fail
    go_loopg [8, 9, 10] 22 (fun gk s _ _ wr => ∃ (j : Nat) (S : Int) (q : Pr), gk = 22 - j ∧ j ≤ 21 ∧ s = .int .i64 S ∧ 1 ≤ S ∧ S ≤ 2097152 ∧ Hid (S = 2 ^ j ∧ PInv P j q ∧ putK P (21 - j) S q = Q) ∧ q.1.length ≤ 129 ∧ q.2.length ≤ 129 ∧ PW1 wb wr w1.heap.size L P q)
    case atStart => exact ⟨0, 1, (KT ++ [t], KS ++ [1]), rfl, by omega, rfl, by omega, by omega, Lib.hid ⟨rfl, HINV.out, hQ.out⟩, HL0.out.1, HL0.out.2, HQ0.out⟩
    case round =>
      obtain ⟨j, S, q, rfl, hj, rfl, hS1, hS2, HQJ, hq1, hq2, hpw⟩ := hrel
      obtain ⟨OT, OS⟩ := q
      obtain ⟨pT, cT, pS, cS, hpw⟩ := hpw
      simp only at hq1 hq2 hpw
      have HPW := Lib.hid hpw
      obtain ⟨wr, rfl⟩ : ∃ wx : World, wx = wr := ⟨_, rfl⟩
      have hfirst := l06First_any (s := S) hpw.winAt hpw.oS.rd (by omega)
      obtain ⟨m, hm⟩ : ∃ m, OS.count S = m := ⟨_, rfl⟩
      have hc1 := hpw.blk.cell (i := 1) (v := .int .i64 P) rfl
      have hzr := hpw.B.size
      have hmm := List.count_le_length (a := S) (l := OS)
      rw [hm] at hmm
      clear hpw
      by_cases hc : (m : Int) ≤ P + 1
      · have hfin : Q = (OT, OS) := by
          rw [← HQJ.out.2.2]
          by_cases hj20 : j ≤ 20
          · exact putK_id _ _ _ (pinv_skip p0 hj20 HQJ.out.2.1 (by rw [← HQJ.out.1]; rw [hm]; exact hc)).2
          · have : j = 21 := by omega
            rw [this]; rfl
        have HFIN := Lib.hid hfin
        rw [hm] at hfirst
        have HFI := Lib.hid hfirst
        clear hfin hfirst hm
        obtain ⟨z, hz⟩ : ∃ z, idxOf (fun x => x == S) OS = z := ⟨_, rfl⟩
        rw [hz] at HFI
        clear hz
        go_wp2_with fail
        refine HFI.out.mono ?_
        rintro e w5 ⟨rfl, rfl⟩

        have c0 := HPW.out.blk.cell (i := 0) (v := .int .i64 L) rfl
        have c1' := HPW.out.blk.cell (i := 1) (v := .int .i64 P) rfl
        have c2 := HPW.out.blk.cell (i := 2) (v := .slice pT OT.length cT) rfl
        have c3 := HPW.out.blk.cell (i := 3) (v := .slice pS OS.length cS) rfl
        have RR := RB.out.below HPW.out.B (Nat.le_refl _)
        have r0 := RR.cell (i := 0) (v := .int .i64 0) rfl
        have f0 := RR.free 0
        have r1 := RR.cell (i := 1) (v := .int .i64 0) rfl
        have f1 := RR.free 1
        have r2 := RR.cell (i := 2) (v := .slice none 0 0) rfl
        have f2 := RR.free 2
        have r3 := RR.cell (i := 3) (v := .slice none 0 0) rfl
        have f3 := RR.free 3
        clear RR
        go_wp2
        refine bodyPost_ret (v := .agg #[.int .i64 L, .int .i64 P, .slice pT OT.length cT, .slice pS OS.length cS]) (by simp [results, Try.results95, go_sem, r0, r1, r2, r3]) rfl ⟨pT, cT, pS, cS, ?_, ?_, ?_, HPW.out.nTS, ((((BW.out.trans (HPW.out.B.mono BW.out.size)).setCell (by simp) _).setCell (by simp) _).setCell (by simp) _).setCell (by simp) _⟩
        · rw [HFIN.out]
        · rw [HFIN.out]; exact ((((HPW.out.oT.setFar _ _ (by simp; omega)).setFar _ _ (by simp; omega)).setFar _ _ (by simp; omega)).setFar _ _ (by simp; omega)).mono BW.out.size
        · rw [HFIN.out]; exact ((((HPW.out.oS.setFar _ _ (by simp; omega)).setFar _ _ (by simp; omega)).setFar _ _ (by simp; omega)).setFar _ _ (by simp; omega)).mono BW.out.size
      · have hj20 : j ≤ 20 := by
          by_cases hj21 : j = 21
          · exfalso
            have := HQJ.out.2.1.end_ hj21
            rw [← HQJ.out.1] at this
            simp only at this
            rw [hm] at this
            omega
          · omega
        have h2 : 2 ≤ OS.count S := by rw [hm]; omega
        have hstep := pinv_step p0 hj20 HQJ.out.2.1 (by rw [← HQJ.out.1]; rw [hm]; exact hc)
        rw [← HQJ.out.1] at hstep
        have hml := mg_len (q := (OT, OS)) HQJ.out.2.1.len h2
        have hlen : OT.length = OS.length := HQJ.out.2.1.len
        have hix1 := fstI_two h2
        have hnext : putK P (21 - (j + 1)) (2 * S) (merge S (OT, OS)) = Q := by
          rw [← HQJ.out.2.2]
          have e : 21 - j = (21 - (j + 1)) + 1 := by omega
          rw [e]
          conv => rhs; unfold putK
          rw [if_neg (by simp only; rw [hm]; exact hc)]
        have e2 : 2 * S = 2 ^ (j + 1) := by rw [HQJ.out.1, Int.pow_succ]; omega
        have hS20 : S ≤ 1048576 := by
          rw [HQJ.out.1]
          have h1 : (2 : Nat) ^ j ≤ 2 ^ 20 := Nat.pow_le_pow_right (by omega) hj20
          have h3 : ((2 : Int) ^ j) = (((2 : Nat) ^ j : Nat) : Int) := by simp
          rw [h3]; omega
        rw [idx_fst (by omega), hm] at hfirst
        have hmg : merge S (OT, OS) = (OT.take (fstI S OS) ++ OT.drop (fstI S OS + 1), OS.take (fstI S OS) ++ 2 * S :: OS.drop (fstI S OS + 2)) := rfl
        obtain ⟨i, hi⟩ : ∃ i, fstI S OS = i := ⟨_, rfl⟩
        rw [hi] at hfirst hix1 hmg
        have HREL := Lib.hid (And.intro e2 (And.intro hstep.1 (And.intro hnext (And.intro hml.1 (And.intro hml.2.1 hmg)))))
        have HFI := Lib.hid hfirst
        have HLEN := Lib.hid hlen
        have hi2 : i < OT.length := by omega
        clear hstep hml hnext hfirst hm hi e2 h2 hmg hlen
        have hxi := rd_idxAt HPW.out.oS.rd und_is siz_is (i + 1) hix1 ((i : Int) + 1) (by omega)
        have hcell := HPW.out.oS.cell (i + 1) hix1
        have hfrz := HPW.out.oS.free (i + 1) hix1
        have hcs := HPW.out.blk.cell (i := 3) (v := .slice pS OS.length cS) rfl
        have HPX := Lib.hid (HPW.out.setS (i + 1) hix1 (2 * S))
        go_upto_region 9 with (go_at_call 143; refine HFI.out.mono ?_; rintro e w5 ⟨rfl, rfl⟩)
        clear HFI
        go_upto_region 12 with (fail)
        generalize wr.setCell (elt pS (i + 1)) (.int .i64 (2 * S)) = wx at HPX ⊢
        clear hxi hcell hfrz hcs hc1
        obtain ⟨OX, hOX⟩ : ∃ OX, OS.set (i + 1) (2 * S) = OX := ⟨_, rfl⟩
        have hOXl : OX.length = OS.length := by rw [← hOX]; simp
        have hdl : OX.take i ++ OX.drop (i + 1) = OS.take i ++ 2 * S :: OS.drop (i + 2) := by rw [← hOX]; exact mgS_del hix1
        have HX0 : Hid (PW wb wx w1.heap.size L P pT cT OT pS cS OX) := Lib.hid (by rw [← hOX]; exact HPX.out)
        have HOX := Lib.hid (And.intro hOXl hdl)
        have hx2 : i < OX.length := by omega
        obtain ⟨gT, rfl⟩ : ∃ g, pT = some ⟨g, 0, none⟩ := by
          rcases HX0.out.oT.shape with ⟨_, _, h⟩ | ⟨g, h, _⟩
          · rw [h] at hi2; simp at hi2
          · exact ⟨g, h⟩
        obtain ⟨gS, rfl⟩ : ∃ g, pS = some ⟨g, 0, none⟩ := by
          rcases HX0.out.oS.shape with ⟨_, _, h⟩ | ⟨g, h, _⟩
          · rw [h] at hx2; simp at hx2
          · exact ⟨g, h⟩
        clear HPX hOX hOXl hdl
        have E3 : Hid ((OT.take i ++ OT.drop (i + 1)).length = OT.length - 1) := Lib.hid (by simp; omega)
        have E4 : Hid ((OX.take i ++ OX.drop (i + 1)).length = OX.length - 1) := Lib.hid (by simp; omega)
        have hcT := HX0.out.oT.cap.1
        have hcS := HX0.out.oS.cap.1
        have ew : IntKind.i64.wrap ((i : Int) + 1) = (i : Int) + 1 := IntWalk.i64_in _ (by omega)
        have n1 : (0 : Int) ≤ (i : Int) + 1 := by omega
        have n2 : (i : Int) + 1 ≤ (OT.length : Int) := by omega
        have n3 : i ≤ cT := by omega
        have n4 : (i : Int) + 1 ≤ (OX.length : Int) := by omega
        have n5 : i ≤ cS := by omega
        obtain ⟨wd1, hwd⟩ : ∃ wd : World, wd = wx.drew := ⟨_, rfl⟩
        have HD1 : Hid (PW wb wd1 w1.heap.size L P (some ⟨gT, 0, none⟩) cT OT (some ⟨gS, 0, none⟩) cS OX) := Lib.hid (by rw [hwd]; exact HX0.out.drew)
        have HW1 := Lib.hid hwd
        clear hwd
        have t2 := HD1.out.blk.cell (i := 2) (v := .slice (some ⟨gT, 0, none⟩) OT.length cT) rfl
        go_wp2_with fail
        refine wp_tail wd1 HW1.out 9 (by kernel_rfl) (by kernel_rfl) ?_
        simp only [List.take_succ_cons, List.take_zero, List.drop_succ_cons, List.drop_zero]
        repeat still_step
        refine wpStill_nil ?_
        go_upto_region 13 with (refine wpl_del (f := Value.int .i64) (d := 0) (xs := OT) (c := cT) (g := gT) (i := i) und_ise info_i (fun _ => rfl) HD1.out.oT hi2 rfl _ _ rfl rfl rfl ?_; intro w5 ho5 hg5; generalize (if cT = i + 1 then (some ⟨gT, 0, none⟩ : Option Addr) else some ⟨gT, i + 1, none⟩) = zT; have tn := HD1.out.turnT hg5 ho5 (fun p hp => .inl ⟨p, hp, rfl⟩); rw [E3.out] at tn; have x5 := tn.1.cell (i := 2) (v := .slice (some ⟨gT, 0, none⟩) OT.length cT) rfl; have y5 := tn.1.free 2; have HP5 := Lib.hid tn.2; clear tn ho5 hg5)
        clear x5 y5 t2
        generalize w5.setCell ⟨w1.heap.size, 2, none⟩ (.slice (some ⟨gT, 0, none⟩) (OT.length - 1) cT) = wy at HP5 ⊢
        obtain ⟨wd2, hwd⟩ : ∃ wd : World, wd = wy.drew := ⟨_, rfl⟩
        have HD2 : Hid (PW wb wd2 w1.heap.size L P (some ⟨gT, 0, none⟩) cT (OT.take i ++ OT.drop (i + 1)) (some ⟨gS, 0, none⟩) cS OX) := Lib.hid (by rw [hwd]; exact HP5.out.drew)
        have HW2 := Lib.hid hwd
        clear hwd HP5
        have t3 := HD2.out.blk.cell (i := 3) (v := .slice (some ⟨gS, 0, none⟩) OX.length cS) rfl
        refine wp_tail wd2 HW2.out 9 (by kernel_rfl) (by kernel_rfl) ?_
        simp only [List.take_succ_cons, List.take_zero, List.drop_succ_cons, List.drop_zero]
        repeat still_step
        refine wpStill_nil ?_
        go_wp2_with (refine wpl_del (f := Value.int .i64) (d := 0) (xs := OX) (c := cS) (g := gS) (i := i) und_ise info_i (fun _ => rfl) HD2.out.oS hx2 rfl _ _ rfl rfl rfl ?_; intro w6 ho6 hg6; generalize (if cS = i + 1 then (some ⟨gS, 0, none⟩ : Option Addr) else some ⟨gS, i + 1, none⟩) = zS; have tn := HD2.out.turnS hg6 ho6 (fun p hp => .inl ⟨p, hp, rfl⟩); rw [E4.out] at tn; have x6 := tn.1.cell (i := 3) (v := .slice (some ⟨gS, 0, none⟩) OX.length cS) rfl; have y6 := tn.1.free 3; have HP6 := Lib.hid tn.2; clear tn ho6 hg6)
        generalize w6.setCell ⟨w1.heap.size, 3, none⟩ (.slice (some ⟨gS, 0, none⟩) (OX.length - 1) cS) = wu at HP6 ⊢
        clear x6 y6 t3
        have hpw1 : PW1 wb wu w1.heap.size L P (merge S (OT, OS)) := by
          rw [HREL.out.2.2.2.2.2]
          have := HP6.out
          rw [HOX.out.2] at this
          exact ⟨_, _, _, _, this⟩
        have HPW1 := Lib.hid hpw1
        clear hpw1
        go_roundg (22 - (j + 1))
        case rel =>
          have h1 := HREL.out.2.2.2.1
          have h2 := HREL.out.2.2.2.2.1
          exact ⟨j + 1, 2 * S, merge S (OT, OS), rfl, by omega, rfl, by omega, by omega, Lib.hid ⟨HREL.out.1, HREL.out.2.1, HREL.out.2.2.1⟩, by omega, by omega, HPW1.out⟩
        case measure => omega

end Go.Proofs.Ytofbnddmahjanaa
