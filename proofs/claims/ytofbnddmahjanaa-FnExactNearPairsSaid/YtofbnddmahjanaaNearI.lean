/- Near pairs: the program's text. -/
import Derived.Test.YtofbnddmahjanaaNearL
import Derived.Deep.Cut
namespace Go.Proofs.Ytofbnddmahjanaa
open Go.RowKit

theorem near_bad {xss : List (List Nat)} {far i k : Nat} (hik : i < k) (hk : k < xss.length) (h : nearK xss i k = false) : nearOk xss far = false ∧ nearR xss far = [] := by
  have : pairsAll (nearK xss) xss.length = false := by
    by_cases hp : pairsAll (nearK xss) xss.length = true
    · have := pairsAll_iff.1 hp i k hik hk
      rw [h] at this; simp at this
    · simpa using hp
  have h2 : nearOk xss far = false := by unfold nearOk; rw [this]; simp
  exact ⟨h2, by unfold nearR; rw [h2]; simp⟩
theorem near_good {xss : List (List Nat)} {far : Nat} (hr : rowsOk xss far = true) (h : ∀ i, i < xss.length → ∀ k, i < k → k < xss.length → nearK xss i k = true) : nearOk xss far = true ∧ nearR xss far = pairsR (nearT xss far) xss.length := by
  have : pairsAll (nearK xss) xss.length = true := pairsAll_iff.2 fun i k hik hk => h i (by omega) k hik hk
  have h2 : nearOk xss far = true := by unfold nearOk; rw [this, hr]; rfl
  exact ⟨h2, by unfold nearR; rw [h2]; simp⟩

theorem hbq_alloc (w : World) : Below w.heap.size w (w.alloc (.cells #[] 22)) := (Below.refl _ _).alloc (Nat.le_refl _) _

set_option maxRecDepth 8000 in
set_option maxHeartbeats 8000000 in
theorem implNear_rows {a : Option Addr} {c : Nat} {hs : List Hd} {xss : List (List Nat)} {far : Nat} {w : World} (hr : Rd2 (Value.float .f32) w a c hs xss) (hok : rowsOk xss far = true) :
    Calls Try.prog 47 #[.slice a xss.length c, .float .f32 far] w (RetSB (Value.int .i64) 2 w (nearR xss far) (nearOk xss far)) := by
  obtain ⟨n, hN1, hN2, hf1, hf2, hn0, hn, hrow0, hall0⟩ := rows_good hok
  have hall := Lib.hid hall0
  have HOK := Lib.hid hok
  have hbd : (bads xss (n : Int)).any id = false := by
    rw [← hrow0]
    simp only [rowsOk, Bool.and_eq_true, Bool.not_eq_true'] at hok
    exact hok.2
  have hb0 : Below w.heap.size w (w.alloc (.cells #[.slice a xss.length c] 71)) := (Below.refl _ _).alloc (Nat.le_refl _) _
  have X0 : Hid (Blk (w.alloc (.cells #[.slice a xss.length c] 71)) w.heap.size #[.slice a xss.length c] 71) := Lib.hid (Blk.new _ _ _)
  have R0 := Lib.hid (hr.below hb0 (Nat.le_refl _))
  have B0 := Lib.hid hb0
  have hrow := Lib.hid hrow0
  unfold least0 at hf2
  have HF1 := Lib.hid hf1
  clear hb0 hrow0 hall0 hok hr hf1
  go_enter Try.func47, Try.ntmps47
  go_wp2_with fail
  generalize w.alloc (.cells #[.slice a xss.length c] 71) = w0 at X0 R0 B0 ⊢
  refine isFinite_any.mono ?_
  rintro e w1 ⟨rfl, hb1⟩
  rw [HF1.out]
  have X1 := Lib.hid (X0.out.below hb1 (Nat.le_refl _))
  have R1 := Lib.hid (R0.out.below hb1 (Nat.le_refl _))
  have B1 := Lib.hid (B0.out.trans (hb1.mono B0.out.size))
  have x1 := X1.out.cell (i := 0) (v := .slice a xss.length c) rfl
  clear hb1 X0 R0 B0
  go_wp2_with fail
  refine (nearBads_any R1.out (by omega) hrow.out x1).mono ?_
  rintro e w2 ⟨rfl, hb2⟩
  rw [hbd]
  have R2 := Lib.hid (R1.out.below hb2 (Nat.le_refl _))
  have x2 := k_below hb2 (Nat.le_refl _) x1
  have B2 := Lib.hid (B1.out.trans (hb2.mono B1.out.size))
  have x2a := k_alloc (o := .cells #[] 2) x2
  clear hb2 X1 R1 B1 hf2 hbd x1
  go_wp2_with fail
  go_loopw [6, 7, 8, 9, 10, 11, 12, 13, 38] (fun out _ _ _ _ _ _ _ i wr => ∃ (k : Nat) (xs : List Int) (ao : Option Addr) (co : Nat), k ≤ xss.length ∧ i = .int .i64 k ∧ out = .slice ao xs.length co ∧ Own (Value.int .i64) 2 wr w2.heap.size ao co xs ∧ Hid (xs = prows (nearT xss far) xss.length k) ∧ Hid (∀ i, i < k → ∀ j, i < j → j < xss.length → nearK xss i j = true) ∧ Below w2.heap.size w2 wr) (fun _ _ _ _ _ _ _ _ i _ => xss.length - (intOf i).toNat)
  case atStart => exact ⟨0, [], _, 0, Nat.zero_le _, rfl, rfl, own_empty w2 _ (Nat.le_refl _) rfl, by show _ = _; rfl, by show ∀ i, _; intro i hi; omega, (Below.refl _ _).alloc (Nat.le_refl _) _⟩
  case round =>
    obtain ⟨i, xs, ao, co, hi, rfl, rfl, ho, HX, HK, hb⟩ := hrel
    have HO := Lib.hid ho
    have HB := Lib.hid hb
    clear ho hb x2a
    by_cases hlt : i < xss.length
    · have hxl : xs.length ≤ 2048 := by
        rw [HX.out]
        have h1 := prows_len (nearT xss far) xss.length i
        have h2 : 2 * xss.length * i ≤ 2 * 32 * 32 := Nat.mul_le_mul (by omega) (by omega)
        omega
      obtain ⟨wa, rfl⟩ : ∃ wa : World, wa = wr := ⟨_, rfl⟩
      go_wp2_with fail
      go_loopw [6, 8, 9, 10, 11, 12, 13] (fun out k _ _ _ _ _ wq => ∃ (j : Nat) (ys : List Int) (ap : Option Addr) (cp : Nat), i + 1 ≤ j ∧ j ≤ xss.length ∧ k = .int .i64 j ∧ out = .slice ap ys.length cp ∧ Own (Value.int .i64) 2 wq w2.heap.size ap cp ys ∧ Hid (ys = xs ++ prow (nearT xss far) i j) ∧ Hid (∀ l, i < l → l < j → nearK xss i l = true) ∧ Below w2.heap.size w2 wq) (fun _ k _ _ _ _ _ _ => xss.length - (intOf k).toNat)
      case atStart => exact ⟨i + 1, xs, ao, co, Nat.le_refl _, by omega, by go_num, rfl, HO.out, by show _ = _; rw [prow_zero, List.append_nil], by show ∀ l, _; intro l h1 h2; omega, HB.out⟩
      case round =>
        obtain ⟨j, ys, ap, cp, hj1, hj2, rfl, rfl, hp, HY, HKJ, hbq⟩ := hrel
        obtain ⟨wq, rfl⟩ : ∃ wq : World, wq = wr := ⟨_, rfl⟩
        have HP := Lib.hid hp
        have HBQ := Lib.hid hbq
        have xq := k_below hbq (Nat.le_refl _) x2
        have rr := R2.out.below hbq (Nat.le_refl _)
        clear hp hbq HO HB
        by_cases hlj : j < xss.length
        · have hyl : ys.length ≤ 4096 := by
            rw [HY.out, List.length_append]
            have := prow_len (nearT xss far) i j
            omega
          obtain ⟨ai, ci, hci, hri⟩ := rr.at hlt
          obtain ⟨aj, cj, hcj, hrj⟩ := rr.at hlj
          have hXl := (hall.out i hlt).1
          have hYl := (hall.out j hlj).1
          have HTT : Hid (nearT xss far i j = leqC (normT xss[i] xss[j]) (cn .f32 far) ∧ nearK xss i j = normK xss[i] xss[j]) := Lib.hid (by unfold nearT nearK; rw [rowAt_get hlt, rowAt_get hlj]; exact ⟨rfl, rfl⟩)
          generalize xss[i] = X at hci hri hXl HTT
          generalize xss[j] = Y at hcj hrj hYl HTT
          rw [hXl] at hci
          rw [hYl] at hcj
          have HXL := Lib.hid hXl
          have HYL := Lib.hid hYl
          have hix := rr.top.idx und_ffs siz_ffs
          rw [rr.len] at hix
          have HIX := Lib.hid hix
          have HRI := Lib.hid hri
          have HRJ := Lib.hid hrj
          have hixi := hri.idx und_fs siz_fs
          have hixj := hrj.idx und_fs siz_fs
          rw [hXl] at hixi
          rw [hYl] at hixj
          have HIXI := Lib.hid (And.intro hixi hixj)
          have hcia := k_alloc (o := .cells #[] 22) hci
          have xqa := k_alloc (o := .cells #[] 22) xq
          have HC := Lib.hid (And.intro hci (And.intro hcj xq))
          have s0 := HBQ.out.size
          clear hri hrj hXl hYl rr hixi hixj hci hcj
          go_wp2_with fail
          clear hcia xqa hix xq
          go_loopw [9, 10, 11, 55] (fun o _ _ t wp => ∃ (k : Nat) (ds : List Nat) (ad : Option Addr) (cd : Nat), o = .slice ad ds.length cd ∧ t = .int .i64 k ∧ k ≤ n ∧ ds.length = k ∧ Own (Value.float .f32) 22 wp wq.heap.size ad cd ds ∧ Hid (ds.map (cn .f32) = (diffC X Y).take k) ∧ Below wq.heap.size wq wp) (fun _ _ _ t _ => n - (intOf t).toNat)
          case atStart => exact ⟨0, [], _, 0, rfl, rfl, Nat.zero_le _, rfl, own_empty wq _ (Nat.le_refl _) rfl, by show _ = _; rfl, (Below.refl _ _).alloc (Nat.le_refl _) _⟩
          case round =>
            obtain ⟨k, ds, ad, cd, rfl, rfl, hkn, hdl, hod, HM, hbp⟩ := hrel
            obtain ⟨wp, rfl⟩ : ∃ wp : World, wp = wr := ⟨_, rfl⟩
            have HOD := Lib.hid hod
            have HDL := Lib.hid hdl
            have hd32 : ds.length ≤ 32 := by omega
            clear hod hdl
            by_cases hl3 : k < n
            · have hcj := k_at hbp HC.out.2.1
              have xqp := k_at hbp HC.out.2.2
              have hcx := (HRI.out.below hbp (Nat.le_refl _)).cell k (by rw [HXL.out]; exact hl3)
              have hcy := (HRJ.out.below hbp (Nat.le_refl _)).cell k (by rw [HYL.out]; exact hl3)
              have hds := diffC_succ HXL.out HYL.out hl3
              have e0 : (default : Nat) = 0 := rfl
              rw [e0] at hcx hcy
              generalize X[k]?.getD 0 = x at hcx hds
              generalize Y[k]?.getD 0 = y at hcy hds
              have HDS := Lib.hid hds
              have hix := HIX.out
              have hixi := HIXI.out.1
              have hixj := HIXI.out.2
              clear hds e0
              go_wp2_with (first
                | (refine wpl_fbin rfl _ _ _ _ _ rfl rfl .f32 _ _ rfl rfl ?_; rintro q2 w' ⟨n2, rfl⟩ hq2; have HQ2 := Lib.hid hq2; clear hq2; have hb4 := hbp.trans (below_of_drewN wp n2 wq.heap.size); have HO4 := Lib.hid (HOD.out.drewN n2); clear hcx hcy hcj xqp; generalize wp.drewN n2 = w4 at hb4 HO4 ⊢; have hz4 := hb4.size)
                | (at_builtin; refine wpl_append1 (f := Value.float .f32) (d := 0) (base := wq.heap.size) und_fse info_f (fun _ => rfl) _ HO4.out rfl _ _ rfl rfl rfl (by omega) (by omega) hz4 ?_; intro a3 c3 w5 ho3 hg3))
              have hb5 := hb4.trans (grown_belowOwn HO4.out hg3 (Nat.le_refl _) hz4)
              go_roundw
              case rel => exact ⟨k + 1, ds ++ [q2], a3, c3, by rw [List.length_append]; rfl, by go_num, by omega, by simp [HDL.out], ho3, by show _ = _; rw [List.map_append, HM.out, HDS.out]; simp only [List.map_cons, List.map_nil, HQ2.out]; rfl, hb5⟩
              case measure => simp [intOf]; omega
            · obtain rfl : k = n := by omega
              have hM := HM.out
              rw [List.take_of_length_le (by rw [diffC_len HXL.out HYL.out]; exact Nat.le_refl _)] at hM
              have hnm := norm_of hM
              obtain ⟨bb, hbb⟩ : ∃ b, normK X Y = b := ⟨_, rfl⟩
              have hcon := implNormOf_any HOD.out.rd
              rw [hnm.1, hnm.2, hbb] at hcon
              have HCON := Lib.hid hcon
              have HBB := Lib.hid hbb
              have HBP := Lib.hid hbp
              clear hM hnm hcon hbb hbp
              go_wp2_with fail
              refine HCON.out.mono ?_
              rintro e w5 ⟨r, rfl, hrn, hb5⟩
              have hle := leq_cn r far
              rw [hrn, ← HTT.out.1] at hle
              obtain ⟨tt, htt⟩ : ∃ t, nearT xss far i j = t := ⟨_, rfl⟩
              rw [htt] at hle
              have HTTT := Lib.hid htt
              have HBZ := Lib.hid (HBP.out.trans (hb5.mono HBP.out.size))
              have HBW := Lib.hid (HBQ.out.trans (HBZ.out.mono HBQ.out.size))
              have HPZ := Lib.hid (HP.out.below HBZ.out (Nat.le_refl _))
              have hz1 := HBW.out.size
              clear hrn hb5 htt HCON
              cases bb with
              | false =>
                have hbad := near_bad (far := far) (i := i) (k := j) (xss := xss) (by omega) hlj (by rw [HTT.out.2]; exact HBB.out)
                have HBAD := Lib.hid hbad
                have HBE := Lib.hid (B2.out.trans (HBW.out.mono B2.out.size))
                clear hbad hle
                go_wp2
                go_ret2
                rw [HBAD.out.1, HBAD.out.2]
                exact retSB_no HBE.out
              | true =>
                cases tt with
                | true =>
                  have HO4 := Lib.hid (HPZ.out.alloc (.cells #[.int .i64 (i : Int), .int .i64 (j : Int)] 2))
                  have HL4 : Hid (Rd (Value.int .i64) (w5.alloc (.cells #[.int .i64 (i : Int), .int .i64 (j : Int)] 2)) (some ⟨w5.heap.size, 0, none⟩) 2 [(i : Int), (j : Int)]) := Lib.hid (own_lit (f := Value.int .i64) (e := 2) w5 w5.heap.size [(i : Int), (j : Int)] (Nat.le_refl _) (by unfold maxLen; simp)).rd
                  go_wp2_with (at_builtin; refine wpl_appendN (f := Value.int .i64) (d := 0) (base := w2.heap.size) und_ise info_i (fun _ => rfl) HO4.out HL4.out rfl _ _ rfl rfl rfl (by omega) (by simp) (by omega) (by simp; omega) ?_; intro a7 c7 w7 ho7 hg7)
                  have HO7 := Lib.hid ho7
                  have HB7 := Lib.hid ((HBW.out.alloc hz1 (.cells #[.int .i64 (i : Int), .int .i64 (j : Int)] 2)).trans ((grown_belowOwn HO4.out hg7 (Nat.le_refl _) (by simp; omega))))
                  clear ho7 hg7
                  go_roundw
                  case rel =>
                    refine ⟨j + 1, ys ++ [(i : Int), (j : Int)], a7, c7, by omega, by omega, by go_num, by rw [List.length_append]; rfl, HO7.out, by show _ = _; rw [prow_succ _ (by omega), HTTT.out, HY.out]; simp, ?_, HB7.out⟩
                    show ∀ l, _
                    intro l h1 h2
                    by_cases hlj' : l = j
                    · subst hlj'; rw [HTT.out.2]; exact HBB.out
                    · exact HKJ.out l h1 (by omega)
                  case measure => simp [intOf]; omega
                | false =>
                  go_wp2
                  go_roundw
                  case rel =>
                    refine ⟨j + 1, ys, ap, cp, by omega, by omega, by go_num, rfl, HPZ.out, by show _ = _; rw [prow_succ _ (by omega), HTTT.out, HY.out]; simp, ?_, HBW.out⟩
                    show ∀ l, _
                    intro l h1 h2
                    by_cases hlj' : l = j
                    · subst hlj'; rw [HTT.out.2]; exact HBB.out
                    · exact HKJ.out l h1 (by omega)
                  case measure => simp [intOf]; omega
        · obtain rfl : j = xss.length := by omega
          go_wp2
          go_roundw
          case rel =>
            refine ⟨i + 1, ys, ap, cp, by omega, by go_num, rfl, HP.out, by show _ = _; rw [prows_succ, HY.out, HX.out], ?_, HBQ.out⟩
            show ∀ l, _
            intro l hl k hk1 hk2
            by_cases hli : l = i
            · subst hli; exact HKJ.out k hk1 hk2
            · exact HK.out l (by omega) k hk1 hk2
          case measure => simp [intOf]; omega
    · obtain rfl : i = xss.length := by omega
      have HBB := Lib.hid (B2.out.trans (HB.out.mono B2.out.size))
      have hgood := near_good HOK.out HK.out
      have HGOOD := Lib.hid hgood
      clear hgood
      go_wp2
      go_ret2
      rw [HGOOD.out.1, HGOOD.out.2]
      exact ⟨ao, co, by rw [HX.out]; rfl, (HO.out.cast HX.out).mono B2.out.size, HBB.out⟩

theorem near_no {xss : List (List Nat)} {far : Nat} (h : rowsOk xss far = false) : nearOk xss far = false ∧ nearR xss far = [] := by
  have h2 : nearOk xss far = false := by unfold nearOk; rw [h]; rfl
  exact ⟨h2, by unfold nearR; rw [h2]; simp⟩

set_option maxRecDepth 8000 in
set_option maxHeartbeats 2000000 in
theorem implNear_no {a : Option Addr} {c : Nat} {hs : List Hd} {xss : List (List Nat)} {far : Nat} {w : World} (hr : Rd2 (Value.float .f32) w a c hs xss) (hno : rowsOk xss far = false) :
    Calls Try.prog 47 #[.slice a xss.length c, .float .f32 far] w (RetSB (Value.int .i64) 2 w [] false) := by
  have hln := hr.lens
  have hb0 : Below w.heap.size w (w.alloc (.cells #[.slice a xss.length c] 71)) := (Below.refl _ _).alloc (Nat.le_refl _) _
  have X0 : Hid (Blk (w.alloc (.cells #[.slice a xss.length c] 71)) w.heap.size #[.slice a xss.length c] 71) := Lib.hid (Blk.new _ _ _)
  have R0 := Lib.hid (hr.below hb0 (Nat.le_refl _))
  have B0 := Lib.hid hb0
  have HNO := Lib.hid hno
  clear hb0 hno hr
  by_cases h1 : xss.length < 1
  · go_enter Try.func47, Try.ntmps47
    go_wp2
    go_ret2
    exact retSB_no B0.out
  by_cases h2 : 32 < xss.length
  · go_enter Try.func47, Try.ntmps47
    go_wp2
    go_ret2
    exact retSB_no B0.out
  obtain ⟨f1, hf1⟩ : ∃ q, fin .f32 (cn .f32 far) = q := ⟨_, rfl⟩
  obtain ⟨f2, hf2⟩ : ∃ q, least0 far = q := ⟨_, rfl⟩
  obtain ⟨f3, hf3⟩ : ∃ q, (bads xss ((rowAt xss 0).length : Int)).any id = q := ⟨_, rfl⟩
  have hcase : (f1 && f2 && !f3) = false := by
    have := HNO.out
    simp only [rowsOk, farOk, hf1, hf2, hf3] at this
    rw [decide_eq_true (show 1 ≤ xss.length by omega), decide_eq_true (show xss.length ≤ 32 by omega)] at this
    simpa using this
  unfold least0 at hf2
  have HF1 := Lib.hid hf1
  have HF3 := Lib.hid hf3
  clear hf1 hf3
  go_enter Try.func47, Try.ntmps47
  go_wp2_with fail
  generalize w.alloc (.cells #[.slice a xss.length c] 71) = w0 at X0 R0 B0 ⊢
  refine isFinite_any.mono ?_
  rintro e w1 ⟨rfl, hb1⟩
  rw [HF1.out]
  have X1 := Lib.hid (X0.out.below hb1 (Nat.le_refl _))
  have R1 := Lib.hid (R0.out.below hb1 (Nat.le_refl _))
  have B1 := Lib.hid (B0.out.trans (hb1.mono B0.out.size))
  have x1 := X1.out.cell (i := 0) (v := .slice a xss.length c) rfl
  clear hb1 X0 R0 B0
  cases f1 with
  | false =>
    clear hcase hf2
    go_wp2
    go_ret2
    exact retSB_no B1.out
  | true =>
    cases f2 with
    | false =>
      clear hcase
      go_wp2
      go_ret2
      exact retSB_no B1.out
    | true =>
      have h3 : f3 = true := by simpa using hcase
      clear hcase
      subst h3
      go_wp2_with fail
      refine (nearBads_any R1.out (by omega) rfl x1).mono ?_
      rintro e w2 ⟨rfl, hb2⟩
      rw [HF3.out]
      have B2 := Lib.hid (B1.out.trans (hb2.mono B1.out.size))
      clear hb2 x1 X1 R1 B1
      go_wp2
      go_ret2
      exact retSB_no B2.out

theorem implNear_any {a : Option Addr} {c : Nat} {hs : List Hd} {xss : List (List Nat)} {far : Nat} {w : World} (hr : Rd2 (Value.float .f32) w a c hs xss) :
    Calls Try.prog 47 #[.slice a xss.length c, .float .f32 far] w (RetSB (Value.int .i64) 2 w (nearR xss far) (nearOk xss far)) := by
  by_cases hok : rowsOk xss far = true
  · exact implNear_rows hr hok
  · have hno : rowsOk xss far = false := by simpa using hok
    rw [(near_no hno).1, (near_no hno).2]
    exact implNear_no hr hno

end Go.Proofs.Ytofbnddmahjanaa
