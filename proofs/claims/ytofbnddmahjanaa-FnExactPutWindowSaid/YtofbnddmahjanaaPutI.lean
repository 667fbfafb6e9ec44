/- PutWindow in the program's text. -/
import Derived.Test.YtofbnddmahjanaaPutQ
import Derived.Deep.Cut
namespace Go.Proofs.Ytofbnddmahjanaa
open Go.RowKit
attribute [local go_sem ↓] Go.wp_at_zero Go.wp_at_succ

set_option maxRecDepth 8000 in
set_option maxHeartbeats 4000000 in
theorem implPut_no {ta sa : Option Addr} {tc sc : Nat} {ts ss : List Int} {L P t : Int} {bit : Bool} {w : World} (ht : Rd (Value.int .i64) w ta tc ts) (hs : Rd (Value.int .i64) w sa sc ss) (h : lateB L P ts ss t = false) :
    Calls Try.prog 40 #[winV L P ta ts.length tc sa ss.length sc, .int .i64 t, .bool bit] w (RetWinX w 0 0 [] [] false) := by
  have b1 : Below w.heap.size w ((w.alloc (.cells #[.int .i64 L, .int .i64 P, .slice ta ts.length tc, .slice sa ss.length sc] 53)).alloc (.cells #[.int .i64 0, .int .i64 0, .slice none 0 0, .slice none 0 0] 53)) := ((Below.refl _ _).alloc (Nat.le_refl _) _).alloc (by simp) _
  have R : Hid (Blk ((w.alloc (.cells #[.int .i64 L, .int .i64 P, .slice ta ts.length tc, .slice sa ss.length sc] 53)).alloc (.cells #[.int .i64 0, .int .i64 0, .slice none 0 0, .slice none 0 0] 53)) (w.heap.size + 1) #[.int .i64 0, .int .i64 0, .slice none 0 0, .slice none 0 0] 53) := Lib.hid (Blk.new' (by simp))
  have HB := Lib.hid b1
  have HT := Lib.hid (ht.below b1 (Nat.le_refl _))
  have HS := Lib.hid (hs.below b1 (Nat.le_refl _))
  clear b1 ht hs
  go_enter Try.func40, Try.ntmps40
  go_wp2_with fail
  generalize (w.alloc (.cells #[.int .i64 L, .int .i64 P, .slice ta ts.length tc, .slice sa ss.length sc] 53)).alloc (.cells #[.int .i64 0, .int .i64 0, .slice none 0 0, .slice none 0 0] 53) = wb at R HB HT HS ⊢
  refine (kept_no HT.out HS.out h).mono ?_
  rintro e w1 ⟨rfl, hb⟩
  have R2 := (R.out.below hb (Nat.le_refl _)).alloc (.cells #[.int .i64 0, .int .i64 0, .slice none 0 0, .slice none 0 0] 53)
  have B2 := Lib.hid ((HB.out.trans (hb.mono HB.out.size)).alloc (Nat.le_trans HB.out.size hb.size) (.cells #[.int .i64 0, .int .i64 0, .slice none 0 0, .slice none 0 0] 53))
  have r0 := R2.cell (i := 0) (v := .int .i64 0) rfl
  have r1 := R2.cell (i := 1) (v := .int .i64 0) rfl
  have r2 := R2.cell (i := 2) (v := .slice none 0 0) rfl
  have r3 := R2.cell (i := 3) (v := .slice none 0 0) rfl
  have f0 := R2.free 0
  have f1 := R2.free 1
  have f2 := R2.free 2
  have f3 := R2.free 3
  clear R2 hb h
  go_upto_region 3 with (fail)
  generalize w1.alloc (.cells #[.int .i64 0, .int .i64 0, .slice none 0 0, .slice none 0 0] 53) = wx at r0 r1 r2 r3 f0 f1 f2 f3 B2 ⊢
  go_wp2
  refine bodyPost_ret (v := .tuple #[winV 0 0 none 0 0 none 0 0, .bool false]) (by simp [results, Try.results40, go_sem, r0, r1, r2, r3]) rfl (retWinX_no ((((B2.out.setCell (by simp) _).setCell (by simp) _).setCell (by simp) _).setCell (by simp) _))

/-- Inside one size: nothing has been merged yet, or all of it. -/
def InR (P : Int) (j : Nat) (S : Int) (Q : Pr) (fl : Nat) (q : Pr) : Prop :=
  (fl = 2 ∧ PInv P j q ∧ implK P (21 - j) S q = Q) ∨ (fl = 1 ∧ (q.2.count S : Int) ≤ P + 1 ∧ PInv P (j + 1) q ∧ implK P (21 - (j + 1)) (2 * S) q = Q)

set_option maxRecDepth 100000 in
set_option maxHeartbeats 8000000 in
theorem implPut_yes {ta sa : Option Addr} {tc sc : Nat} {ts ss : List Int} {L P t : Int} {bit : Bool} {w : World} (ht : Rd (Value.int .i64) w ta tc ts) (hs : Rd (Value.int .i64) w sa sc ss) (h : lateB L P ts ss t = true) (Q : Pr) (hQ : Hid (putP L P ts ss t bit = Q)) (ok : Bool) (hok : Hid (winB L P Q.1 Q.2 = ok)) :
    Calls Try.prog 40 #[winV L P ta ts.length tc sa ss.length sc, .int .i64 t, .bool bit] w (RetPut w L P Q ok) := by
  obtain ⟨hwin, t0, t1⟩ := late_parts h
  obtain ⟨l0, l1, p0, p1, hl, h4, _, _⟩ := winB_parts hwin
  have hQ2 : implK P 21 1 (put0 (ts.drop (keptI ts (t - L))) (ss.drop (keptI ts (t - L))) t bit) = Q := by rw [← putR_impl hwin]; exact hQ.out
  have hinv := put0_inv hwin (keptI ts (t - L)) t bit
  have hT128 : (ts.drop (keptI ts (t - L))).length ≤ 128 := by simp; omega
  have hS128 : (ss.drop (keptI ts (t - L))).length ≤ 128 := by simp; omega
  have b1 : Below w.heap.size w ((w.alloc (.cells #[.int .i64 L, .int .i64 P, .slice ta ts.length tc, .slice sa ss.length sc] 53)).alloc (.cells #[.int .i64 0, .int .i64 0, .slice none 0 0, .slice none 0 0] 53)) := ((Below.refl _ _).alloc (Nat.le_refl _) _).alloc (by simp) _
  have R : Hid (Blk ((w.alloc (.cells #[.int .i64 L, .int .i64 P, .slice ta ts.length tc, .slice sa ss.length sc] 53)).alloc (.cells #[.int .i64 0, .int .i64 0, .slice none 0 0, .slice none 0 0] 53)) (w.heap.size + 1) #[.int .i64 0, .int .i64 0, .slice none 0 0, .slice none 0 0] 53) := Lib.hid (Blk.new' (by simp))
  have lz : w.heap.size + 1 < ((w.alloc (.cells #[.int .i64 L, .int .i64 P, .slice ta ts.length tc, .slice sa ss.length sc] 53)).alloc (.cells #[.int .i64 0, .int .i64 0, .slice none 0 0, .slice none 0 0] 53)).heap.size := by simp
  have BW := Lib.hid b1
  have HK := Lib.hid (kept_yes2 (ht.below b1 (Nat.le_refl _)) (hs.below b1 (Nat.le_refl _)) h)
  generalize ts.drop (keptI ts (t - L)) = KT at hQ2 hinv hT128 HK
  generalize ss.drop (keptI ts (t - L)) = KS at hQ2 hinv hS128 HK
  have HQ2 := Lib.hid hQ2
  have HINV := Lib.hid hinv
  clear hQ2 hinv b1 ht hs h hwin h4 hQ
  go_enter Try.func40, Try.ntmps40
  go_wp2_with fail
  generalize (w.alloc (.cells #[.int .i64 L, .int .i64 P, .slice ta ts.length tc, .slice sa ss.length sc] 53)).alloc (.cells #[.int .i64 0, .int .i64 0, .slice none 0 0, .slice none 0 0] 53) = wb at R lz BW HK ⊢
  refine HK.out.mono ?_
  rintro e w1 ⟨aT, cT, aS, cS, rfl, oT, oS, hsep, hb1⟩
  have HP0 := Lib.hid (PW.init (L := L) (P := P) oT oS hsep hb1)
  have lg : wb.heap.size ≤ w1.heap.size := hb1.size
  clear oT oS hsep hb1 HK
  go_upto_if 24 with (fail)
  generalize w1.alloc (.cells #[.int .i64 L, .int .i64 P, .slice aT KT.length cT, .slice aS KS.length cS] 53) = wx at HP0 ⊢
  go_cut [] (fun wz => PW1 wb wz w1.heap.size L P (put0 KT KS t bit))
  case first =>
    cases bit with
    | false =>
      have hq0 : PW1 wb wx w1.heap.size L P (put0 KT KS t false) := ⟨aT, cT, aS, cS, HP0.out⟩
      have HQ0 := Lib.hid hq0
      clear hq0
      go_wp2
      go_meet
      exact HQ0.out
    | true =>
      have c2 := HP0.out.blk.cell (i := 2) (v := .slice aT KT.length cT) rfl
      have hzx := HP0.out.B.size
      have E1 : Hid ((KT ++ [t]).length = KT.length + 1) := Lib.hid (by simp)
      have E2 : Hid ((KS ++ [(1 : Int)]).length = KS.length + 1) := Lib.hid (by simp)
      go_upto_region 6 with (at_builtin; refine wpl_append1w (f := Value.int .i64) (d := 0) (base := wb.heap.size) und_ise info_i (fun _ => rfl) t HP0.out.oT rfl _ _ rfl rfl rfl (by omega) (by omega) hzx ?_; intro a3 c3 w3 ho3 hg3 hl3; have tn := HP0.out.turnT hg3 ho3 hl3; rw [E1.out] at tn; have x2 := tn.1.cell (i := 2) (v := .slice aT KT.length cT) rfl; have y2 := tn.1.free 2; have HP1 := Lib.hid tn.2; clear tn ho3 hg3 hl3)
      generalize w3.setCell ⟨w1.heap.size, 2, none⟩ (.slice a3 (KT.length + 1) c3) = wy at HP1 ⊢
      clear x2 y2 HP0 c2 hzx
      have c3' := HP1.out.blk.cell (i := 3) (v := .slice aS KS.length cS) rfl
      have hzy := HP1.out.B.size
      go_wp2_with (at_builtin; refine wpl_append1w (f := Value.int .i64) (d := 0) (base := wb.heap.size) und_ise info_i (fun _ => rfl) (1 : Int) HP1.out.oS rfl _ _ rfl rfl rfl (by omega) (by omega) hzy ?_; intro a4 c4 w4 ho4 hg4 hl4; have tn := HP1.out.turnS hg4 ho4 hl4; rw [E2.out] at tn; have x3 := tn.1.cell (i := 3) (v := .slice aS KS.length cS) rfl; have y3 := tn.1.free 3; have HP2 := Lib.hid tn.2; clear tn ho4 hg4 hl4)
      go_meet
      exact ⟨a3, c3, a4, c4, HP2.out⟩
  case rest =>
    have hq129 : (put0 KT KS t bit).1.length ≤ 129 ∧ (put0 KT KS t bit).2.length ≤ 129 := by
      cases bit <;> simp [put0] <;> omega
    generalize put0 KT KS t bit = q0 at HQ2 HINV hcut hq129
    have HQ0 := Lib.hid (And.intro hcut hq129)
    clear hcut hq129 HP0
    go_wp2_with fail
    go_loopg [10, 11, 12, 14] 22 (fun gk s _ _ _ wr => ∃ (j : Nat) (S : Int) (q : Pr), gk = 22 - j ∧ j ≤ 21 ∧ s = .int .i64 S ∧ 1 ≤ S ∧ S ≤ 2097152 ∧ Hid (S = 2 ^ j ∧ PInv P j q ∧ implK P (21 - j) S q = Q) ∧ q.1.length ≤ 129 ∧ q.2.length ≤ 129 ∧ PW1 wb wr w1.heap.size L P q)
    case atStart => exact ⟨0, 1, q0, rfl, by omega, rfl, by omega, by omega, Lib.hid ⟨rfl, HINV.out, HQ2.out⟩, HQ0.out.2.1, HQ0.out.2.2, HQ0.out.1⟩
    case round =>
      obtain ⟨j, S, q, rfl, hj, rfl, hS1, hS2, HQJ, hq1, hq2, hpw⟩ := hrel
      by_cases hj20 : j ≤ 20
      · have hS20 : S ≤ 1048576 := by
          rw [HQJ.out.1]
          have h1 : (2 : Nat) ^ j ≤ 2 ^ 20 := Nat.pow_le_pow_right (by omega) hj20
          have h3 : ((2 : Int) ^ j) = (((2 : Nat) ^ j : Nat) : Int) := by simp
          rw [h3]; omega
        have HPQ := Lib.hid hpw
        have e2 : 2 * S = 2 ^ (j + 1) := by rw [HQJ.out.1, Int.pow_succ]; omega
        have E2J := Lib.hid e2
        have HEJ := Lib.hid HQJ.out.1
        clear hpw e2
        obtain ⟨wo, rfl⟩ : ∃ wx : World, wx = wr := ⟨_, rfl⟩
        go_wp2_with fail
        go_loopg [11, 12, 14] 2 (fun fl _ _ _ wr => ∃ (q' : Pr), q'.1.length ≤ 129 ∧ q'.2.length ≤ 129 ∧ PW1 wb wr w1.heap.size L P q' ∧ InR P j S Q fl q')
        case atStart => exact ⟨q, hq1, hq2, HPQ.out, .inl ⟨rfl, HQJ.out.2.1, HQJ.out.2.2⟩⟩
        case round =>
          obtain ⟨q', hp1, hp2, hpw, hin⟩ := hrel
          obtain ⟨OT, OS⟩ := q'
          obtain ⟨pT, cT, pS, cS, hpw⟩ := hpw
          simp only at hp1 hp2 hpw
          have HPW := Lib.hid hpw
          have HIN := Lib.hid hin
          have c3 := hpw.blk.cell (i := 3) (v := .slice pS OS.length cS) rfl
          have c1 := hpw.blk.cell (i := 1) (v := .int .i64 P) rfl
          obtain ⟨z, hz⟩ : ∃ z, idxOf (fun x => x == S) OS = z := ⟨_, rfl⟩
          have hcon := index_any (s := S) hpw.oS.rd
          rw [hz] at hcon
          have HCON := Lib.hid hcon
          have HZ := Lib.hid hz
          clear hpw hin hz hcon
          go_wp2_with (go_at_call 98; refine HCON.out.mono ?_; rintro e w' ⟨rfl, rfl⟩)
          clear HCON
          go_loop [12, 14, 47] (fun n _ i => ∃ (k m : Nat), k ≤ OS.length ∧ i = .int .i64 k ∧ n = .int .i64 m ∧ m ≤ k ∧ Hid (m = (OS.take k).count S)) (fun _ _ i => OS.length - (intOf i).toNat)
          case atStart => exact ⟨0, 0, Nat.zero_le _, rfl, rfl, by omega, by show _ = _; rfl⟩
          case round =>
            obtain ⟨k, m, hk, rfl, rfl, hmk, HM⟩ := hrel
            by_cases hlt : k < OS.length
            · have hix := HPW.out.oS.idx und_is siz_is
              have hcx := HPW.out.oS.rd.cell k hlt
              simp only [List.getElem?_eq_getElem hlt, Option.getD_some] at hcx
              have hc1 := count_snoc' (s := S) hlt
              rw [← HM.out] at hc1
              obtain ⟨x, hx⟩ : ∃ x, OS[k] = x := ⟨_, rfl⟩
              rw [hx] at hcx hc1
              by_cases hxs : x = S
              · subst hxs
                have hd : (x == x) = true := by simp
                rw [if_pos rfl] at hc1
                have HC1 := Lib.hid hc1
                clear hc1 hx
                go_wp2
                go_round
                case rel => exact ⟨k + 1, m + 1, by omega, by go_num, by go_num, by omega, by show _ = _; rw [HC1.out]⟩
                case measure => simp [intOf]; omega
              · have hd : (x == S) = false := by simpa using hxs
                rw [if_neg hxs] at hc1
                have HC1 := Lib.hid hc1
                clear hc1 hx hxs
                go_wp2
                go_round
                case rel => exact ⟨k + 1, m, by omega, by go_num, rfl, by omega, by show _ = _; rw [HC1.out]; rfl⟩
                case measure => simp [intOf]; omega
            · obtain rfl : k = OS.length := by omega
              have hm : OS.count S = m := by have := HM.out; rw [List.take_length] at this; exact this.symm
              by_cases hc : (m : Int) ≤ P + 1
              · have hnx : PInv P (j + 1) (OT, OS) ∧ implK P (21 - (j + 1)) (2 * S) (OT, OS) = Q := by
                  rcases HIN.out with ⟨_, h1, h2⟩ | ⟨_, _, h1, h2⟩
                  · have hs := pinv_skip p0 hj20 h1 (by rw [← HEJ.out]; rw [hm]; exact hc)
                    refine ⟨hs.1, ?_⟩
                    have e : 21 - j = (21 - (j + 1)) + 1 := by omega
                    rw [e] at h2
                    unfold implK stepP at h2
                    rw [if_pos (hs.2 S)] at h2
                    exact h2
                  · exact ⟨h1, h2⟩
                have HNX := Lib.hid hnx
                have HPW1 : Hid (PW1 wb wr w1.heap.size L P (OT, OS)) := Lib.hid ⟨pT, cT, pS, cS, HPW.out⟩
                clear hnx hm
                go_wp2
                go_roundg (22 - (j + 1))
                case rel => exact ⟨j + 1, 2 * S, (OT, OS), rfl, by omega, congrArg (Value.int .i64) (by omega), by omega, by omega, Lib.hid ⟨E2J.out, HNX.out.1, HNX.out.2⟩, hp1, hp2, HPW1.out⟩
                case measure => omega
              · have hin2 : PInv P j (OT, OS) ∧ implK P (21 - j) S (OT, OS) = Q ∧ gk = 2 := by
                  rcases HIN.out with ⟨h0, h1, h2⟩ | ⟨_, h1, _, _⟩
                  · exact ⟨h1, h2, h0⟩
                  · simp only at h1; rw [hm] at h1; exact absurd h1 hc
                have h2 : 2 ≤ OS.count S := by rw [hm]; omega
                have hstep := pinv_step p0 hj20 hin2.1 (by rw [← HEJ.out]; simp only; rw [hm]; exact hc)
                rw [← HEJ.out] at hstep
                have hml := mg_len (q := (OT, OS)) hin2.1.len h2
                have hlen : OT.length = OS.length := hin2.1.len
                have hix1 := fstI_two h2
                have hnext : implK P (21 - (j + 1)) (2 * S) (merge S (OT, OS)) = Q := by
                  have h3 := hin2.2.1
                  have e : 21 - j = (21 - (j + 1)) + 1 := by omega
                  rw [e] at h3
                  unfold implK stepP at h3
                  rw [if_neg (by simp only; rw [hm]; exact hc)] at h3
                  exact h3
                have hgk := hin2.2.2
                have hzi : z = (fstI S OS : Int) := by rw [← HZ.out]; exact idx_fst (by omega)
                have hmg : merge S (OT, OS) = (OT.take (fstI S OS) ++ OT.drop (fstI S OS + 1), OS.take (fstI S OS) ++ 2 * S :: OS.drop (fstI S OS + 2)) := rfl
                obtain ⟨i, hi⟩ : ∃ i, fstI S OS = i := ⟨_, rfl⟩
                rw [hi] at hzi hix1 hmg
                have HREL := Lib.hid (And.intro hstep.1 (And.intro hstep.2 (And.intro hnext (And.intro hml.1 (And.intro hml.2.1 hmg)))))
                have HLEN := Lib.hid hlen
                have hi2 : i < OT.length := by omega
                clear hstep hml hnext hm hi h2 hmg hlen hin2 HZ HIN HM
                subst hzi
                subst hgk
                have hxi := rd_idxAt HPW.out.oS.rd und_is siz_is (i + 1) hix1 ((i : Int) + 1) (by omega)
                have hcell := HPW.out.oS.cell (i + 1) hix1
                have hfrz := HPW.out.oS.free (i + 1) hix1
                have HPX := Lib.hid (HPW.out.setS (i + 1) hix1 (2 * S))
                have hmul : S * 2 = 2 * S := by omega
                have HMUL := Lib.hid hmul
                clear hmul
                go_upto_region 20 with (fail)
                generalize wr.setCell (elt pS (i + 1)) (.int .i64 (2 * S)) = wx at HPX ⊢
                clear hxi hcell hfrz c3 c1
                obtain ⟨OX, hOX⟩ : ∃ OX, OS.set (i + 1) (2 * S) = OX := ⟨_, rfl⟩
                have hOXl : OX.length = OS.length := by rw [← hOX]; simp
                have hdl : OX.take i ++ OX.drop (i + 1) = OS.take i ++ 2 * S :: OS.drop (i + 2) := by rw [← hOX]; exact mgS_del hix1
                have HX0 : Hid (PW wb wx w1.heap.size L P pT cT OT pS cS OX) := Lib.hid (by rw [← hOX]; exact HPX.out)
                have HOX := Lib.hid (And.intro hOXl hdl)
                have hx2 : i < OX.length := by omega
                have hx3 : OX.length ≤ 1048576 := by omega
                have E3 : Hid ((OT.take i ++ OT.drop (i + 1)).length = OT.length - 1) := Lib.hid (by simp; omega)
                have E4 : Hid ((OX.take i ++ OX.drop (i + 1)).length = OX.length - 1) := Lib.hid (by simp; omega)
                have hlOX : OX.length = OS.length := hOXl
                clear HPX hOX hOXl hdl HPW
                have HLX := Lib.hid hlOX
                clear hlOX
                have t3 := HX0.out.blk.cell (i := 3) (v := .slice pS OX.length cS) rfl
                have t3' : wx.cell? ⟨w1.heap.size, 3, none⟩ = some (.slice pS OS.length cS) := by rw [← HLX.out]; exact t3
                go_upto_region 21 with (go_at_call 99; rw [← HLX.out]; refine (delete_any HX0.out.oS hx2 hx3).mono ?_; rintro e w5 ⟨rfl, ho5, hg5⟩; have tn := HX0.out.turnS hg5 ho5 (fun p hp => .inl ⟨p, hp, rfl⟩); rw [E4.out] at tn; have x5 := tn.1.cell (i := 3) (v := .slice pS OX.length cS) rfl; have y5 := tn.1.free 3; have HP5 := Lib.hid tn.2; clear tn ho5 hg5)
                generalize w5.setCell ⟨w1.heap.size, 3, none⟩ (.slice pS (OX.length - 1) cS) = wy at HP5 ⊢
                clear x5 y5 t3 t3'
                have t2 := HP5.out.blk.cell (i := 2) (v := .slice pT OT.length cT) rfl
                have hot3 : OT.length ≤ 1048576 := by omega
                go_wp2_with (go_at_call 99; refine (delete_any HP5.out.oT hi2 hot3).mono ?_; rintro e w6 ⟨rfl, ho6, hg6⟩; have tn := HP5.out.turnT hg6 ho6 (fun p hp => .inl ⟨p, hp, rfl⟩); rw [E3.out] at tn; have x6 := tn.1.cell (i := 2) (v := .slice pT OT.length cT) rfl; have y6 := tn.1.free 2; have HP6 := Lib.hid tn.2; clear tn ho6 hg6)
                generalize w6.setCell ⟨w1.heap.size, 2, none⟩ (.slice pT (OT.length - 1) cT) = wu at HP6 ⊢
                clear x6 y6 t2
                have hpw1 : PW1 wb wu w1.heap.size L P (merge S (OT, OS)) := by
                  rw [HREL.out.2.2.2.2.2]
                  have := HP6.out
                  rw [HOX.out.2] at this
                  exact ⟨_, _, _, _, this⟩
                have HPW1 := Lib.hid hpw1
                clear hpw1
                go_roundg 1
                case rel =>
                  have h1 : (merge S (OT, OS)).1.length + 1 = OT.length := HREL.out.2.2.2.1
                  have h2 : (merge S (OT, OS)).2.length + 1 = OS.length := HREL.out.2.2.2.2.1
                  exact ⟨merge S (OT, OS), by omega, by omega, HPW1.out, .inr ⟨rfl, HREL.out.2.1, HREL.out.1, HREL.out.2.2.1⟩⟩
                case measure => omega
      · have hj21 : j = 21 := by omega
        have hSS : S = 2097152 := by rw [HQJ.out.1, hj21]; rfl
        have hQq : q = Q := by have := HQJ.out.2.2; rw [hj21] at this; exact this
        subst hQq
        obtain ⟨OT, OS⟩ := q
        obtain ⟨pT, cT, pS, cS, hpw⟩ := hpw
        simp only at hq1 hq2 hpw hok
        have HPW := Lib.hid hpw
        have c0 := hpw.blk.cell (i := 0) (v := .int .i64 L) rfl
        have c1 := hpw.blk.cell (i := 1) (v := .int .i64 P) rfl
        have c2 := hpw.blk.cell (i := 2) (v := .slice pT OT.length cT) rfl
        have c3 := hpw.blk.cell (i := 3) (v := .slice pS OS.length cS) rfl
        have hcon := validWindow_any (L := L) (P := P) hpw.oT.rd hpw.oS.rd
        rw [hok.out] at hcon
        have HCON := Lib.hid hcon
        have hlt : (1048576 : Int) < S := by omega
        have HSS := Lib.hid hSS
        clear hcon hpw hSS hj21 HQJ
        go_wp2_with (go_at_call 100; refine HCON.out.mono ?_; rintro e w7 ⟨rfl, hb7⟩; have HP7 := HPW.out.below hb7; have RR := R.out.below HP7.B (Nat.le_refl _); have d0 := HP7.blk.cell (i := 0) (v := .int .i64 L) rfl; have d1 := HP7.blk.cell (i := 1) (v := .int .i64 P) rfl; have d2 := HP7.blk.cell (i := 2) (v := .slice pT OT.length cT) rfl; have d3 := HP7.blk.cell (i := 3) (v := .slice pS OS.length cS) rfl; have r0 := RR.cell (i := 0) (v := .int .i64 0) rfl; have r1 := RR.cell (i := 1) (v := .int .i64 0) rfl; have r2 := RR.cell (i := 2) (v := .slice none 0 0) rfl; have r3 := RR.cell (i := 3) (v := .slice none 0 0) rfl; have f0 := RR.free 0; have f1 := RR.free 1; have f2 := RR.free 2; have f3 := RR.free 3; have HP8 := Lib.hid HP7; clear RR HP7 hb7 c0 c1 c2 c3; cases ok)
        · have BB := Lib.hid (BW.out.trans (HP8.out.B.mono BW.out.size))
          refine bodyPost_ret (v := .tuple #[winV 0 0 none 0 0 none 0 0, .bool false]) (by simp [results, Try.results40, go_sem, r0, r1, r2, r3]) rfl (retPut_no (retWinX_no ((((BB.out.setCell (by simp) _).setCell (by simp) _).setCell (by simp) _).setCell (by simp) _)))
        · have BB := Lib.hid (BW.out.trans (HP8.out.B.mono BW.out.size))
          refine bodyPost_ret (v := .tuple #[winV L P pT OT.length cT pS OS.length cS, .bool true]) (by simp [results, Try.results40, go_sem, r0, r1, r2, r3]) rfl (retPut_yes ⟨pT, cT, pS, cS, rfl, ?_, ?_, HP8.out.nTS, (((BB.out.setCell (by simp) _).setCell (by simp) _).setCell (by simp) _).setCell (by simp) _⟩)
          · exact ((((HP8.out.oT.setFar _ _ (by simp; omega)).setFar _ _ (by simp; omega)).setFar _ _ (by simp; omega)).setFar _ _ (by simp; omega)).mono (by omega)
          · exact ((((HP8.out.oS.setFar _ _ (by simp; omega)).setFar _ _ (by simp; omega)).setFar _ _ (by simp; omega)).setFar _ _ (by simp; omega)).mono (by omega)

end Go.Proofs.Ytofbnddmahjanaa
