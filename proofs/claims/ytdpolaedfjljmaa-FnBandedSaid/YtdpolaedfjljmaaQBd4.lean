/- Near pairs: the program's text. Near pairs: the reference's text. -/
import Derived.Test.YtdpolaedfjljmaaQBd3
import Derived.Deep.Cut
import Derived.Test.YtdpolaedfjljmaaQBd1
namespace Go.Proofs.Ytdpolaedfjljmaa
open Go.RowKit

theorem near_bad {xss : List (List Nat)} {far i k : Nat} (hik : i < k) (hk : k < xss.length) (h : nearK xss i k = false) : nearOk xss far = false ∧ nearR xss far = [] := by
  have : pairsAll (nearK xss) xss.length = false := by
    by_cases hp : pairsAll (nearK xss) xss.length = true
    · have := pairsAll_iff.1 hp i k hik hk
      rw [h] at this; simp at this
    · simpa using hp
  have h2 : nearOk xss far = false := by unfold nearOk; rw [this]; simp
  exact ⟨h2, by unfold nearR; rw [h2]; simp⟩
theorem near_good {xss : List (List Nat)} {far : Nat} (hr : rowsOk xss far = true) (h : ∀ i, i < xss.length → ∀ k, i < k → k < xss.length → nearK xss i k = true) : nearOk xss far = true ∧ nearR xss far = pairsR (nearT xss far) xss.length := by
  have : pairsAll (nearK xss) xss.length = true := pairsAll_iff.2 fun i k hik hk => h i (by omega) k hik hk
  have h2 : nearOk xss far = true := by unfold nearOk; rw [this, hr]; rfl
  exact ⟨h2, by unfold nearR; rw [h2]; simp⟩

theorem hbq_alloc (w : World) : Below w.heap.size w (w.alloc (.cells #[] 49)) := (Below.refl _ _).alloc (Nat.le_refl _) _

set_option maxRecDepth 8000 in
set_option maxHeartbeats 8000000 in
theorem implNear_rows {a : Option Addr} {c : Nat} {hs : List Hd} {xss : List (List Nat)} {far : Nat} {w : World} (hr : Rd2 (Value.float .f32) w a c hs xss) (hok : rowsOk xss far = true) :
    Calls Try.prog 36 #[.slice a xss.length c, .float .f32 far] w (RetSB (Value.int .i64) 2 w (nearR xss far) (nearOk xss far)) := by
  obtain ⟨n, hN1, hN2, hf1, hf2, hn0, hn, hrow0, hall0⟩ := rows_good hok
  have hall := Lib.hid hall0
  have HOK := Lib.hid hok
  have hbd : (bads xss (n : Int)).any id = false := by
    rw [← hrow0]
    simp only [rowsOk, Bool.and_eq_true, Bool.not_eq_true'] at hok
    exact hok.2
  have hb0 : Below w.heap.size w (w.alloc (.cells #[.slice a xss.length c] 59)) := (Below.refl _ _).alloc (Nat.le_refl _) _
  have X0 : Hid (Blk (w.alloc (.cells #[.slice a xss.length c] 59)) w.heap.size #[.slice a xss.length c] 59) := Lib.hid (Blk.new _ _ _)
  have R0 := Lib.hid (hr.below hb0 (Nat.le_refl _))
  have B0 := Lib.hid hb0
  have hrow := Lib.hid hrow0
  unfold least0 at hf2
  have HF1 := Lib.hid hf1
  clear hb0 hrow0 hall0 hok hr hf1
  go_enter Try.func36, Try.ntmps36
  go_wp2_with fail
  generalize w.alloc (.cells #[.slice a xss.length c] 59) = w0 at X0 R0 B0 ⊢
  refine isFinite_any.mono ?_
  rintro e w1 ⟨rfl, hb1⟩
  rw [HF1.out]
  have X1 := Lib.hid (X0.out.below hb1 (Nat.le_refl _))
  have R1 := Lib.hid (R0.out.below hb1 (Nat.le_refl _))
  have B1 := Lib.hid (B0.out.trans (hb1.mono B0.out.size))
  have x1 := X1.out.cell (i := 0) (v := .slice a xss.length c) rfl
  clear hb1 X0 R0 B0
  go_wp2_with fail
  refine (nearBads_any R1.out (by omega) hrow.out x1).mono ?_
  rintro e w2 ⟨rfl, hb2⟩
  rw [hbd]
  have R2 := Lib.hid (R1.out.below hb2 (Nat.le_refl _))
  have x2 := k_below hb2 (Nat.le_refl _) x1
  have B2 := Lib.hid (B1.out.trans (hb2.mono B1.out.size))
  have x2a := k_alloc (o := .cells #[] 2) x2
  clear hb2 X1 R1 B1 hf2 hbd x1
  go_wp2_with fail
  go_loopw [6, 7, 8, 9, 10, 11, 12, 13, 38] (fun out _ _ _ _ _ _ _ i wr => ∃ (k : Nat) (xs : List Int) (ao : Option Addr) (co : Nat), k ≤ xss.length ∧ i = .int .i64 k ∧ out = .slice ao xs.length co ∧ Own (Value.int .i64) 2 wr w2.heap.size ao co xs ∧ Hid (xs = prows (nearT xss far) xss.length k) ∧ Hid (∀ i, i < k → ∀ j, i < j → j < xss.length → nearK xss i j = true) ∧ Below w2.heap.size w2 wr) (fun _ _ _ _ _ _ _ _ i _ => xss.length - (intOf i).toNat)
  case atStart => exact ⟨0, [], _, 0, Nat.zero_le _, rfl, rfl, own_empty w2 _ (Nat.le_refl _) rfl, by show _ = _; rfl, by show ∀ i, _; intro i hi; omega, (Below.refl _ _).alloc (Nat.le_refl _) _⟩
  case round =>
    obtain ⟨i, xs, ao, co, hi, rfl, rfl, ho, HX, HK, hb⟩ := hrel
    have HO := Lib.hid ho
    have HB := Lib.hid hb
    clear ho hb x2a
    by_cases hlt : i < xss.length
    · have hxl : xs.length ≤ 2048 := by
        rw [HX.out]
        have h1 := prows_len (nearT xss far) xss.length i
        have h2 : 2 * xss.length * i ≤ 2 * 32 * 32 := Nat.mul_le_mul (by omega) (by omega)
        omega
      obtain ⟨wa, rfl⟩ : ∃ wa : World, wa = wr := ⟨_, rfl⟩
      go_wp2_with fail
      go_loopw [6, 8, 9, 10, 11, 12, 13] (fun out k _ _ _ _ _ wq => ∃ (j : Nat) (ys : List Int) (ap : Option Addr) (cp : Nat), i + 1 ≤ j ∧ j ≤ xss.length ∧ k = .int .i64 j ∧ out = .slice ap ys.length cp ∧ Own (Value.int .i64) 2 wq w2.heap.size ap cp ys ∧ Hid (ys = xs ++ prow (nearT xss far) i j) ∧ Hid (∀ l, i < l → l < j → nearK xss i l = true) ∧ Below w2.heap.size w2 wq) (fun _ k _ _ _ _ _ _ => xss.length - (intOf k).toNat)
      case atStart => exact ⟨i + 1, xs, ao, co, Nat.le_refl _, by omega, by go_num, rfl, HO.out, by show _ = _; rw [prow_zero, List.append_nil], by show ∀ l, _; intro l h1 h2; omega, HB.out⟩
      case round =>
        obtain ⟨j, ys, ap, cp, hj1, hj2, rfl, rfl, hp, HY, HKJ, hbq⟩ := hrel
        obtain ⟨wq, rfl⟩ : ∃ wq : World, wq = wr := ⟨_, rfl⟩
        have HP := Lib.hid hp
        have HBQ := Lib.hid hbq
        have xq := k_below hbq (Nat.le_refl _) x2
        have rr := R2.out.below hbq (Nat.le_refl _)
        clear hp hbq HO HB
        by_cases hlj : j < xss.length
        · have hyl : ys.length ≤ 4096 := by
            rw [HY.out, List.length_append]
            have := prow_len (nearT xss far) i j
            omega
          obtain ⟨ai, ci, hci, hri⟩ := rr.at hlt
          obtain ⟨aj, cj, hcj, hrj⟩ := rr.at hlj
          have hXl := (hall.out i hlt).1
          have hYl := (hall.out j hlj).1
          have HTT : Hid (nearT xss far i j = leqC (normT xss[i] xss[j]) (cn .f32 far) ∧ nearK xss i j = normK xss[i] xss[j]) := Lib.hid (by unfold nearT nearK; rw [rowAt_get hlt, rowAt_get hlj]; exact ⟨rfl, rfl⟩)
          generalize xss[i] = X at hci hri hXl HTT
          generalize xss[j] = Y at hcj hrj hYl HTT
          rw [hXl] at hci
          rw [hYl] at hcj
          have HXL := Lib.hid hXl
          have HYL := Lib.hid hYl
          have hix := rr.top.idx und_ffs siz_ffs
          rw [rr.len] at hix
          have HIX := Lib.hid hix
          have HRI := Lib.hid hri
          have HRJ := Lib.hid hrj
          have hixi := hri.idx und_fs siz_fs
          have hixj := hrj.idx und_fs siz_fs
          rw [hXl] at hixi
          rw [hYl] at hixj
          have HIXI := Lib.hid (And.intro hixi hixj)
          have hcia := k_alloc (o := .cells #[] 49) hci
          have xqa := k_alloc (o := .cells #[] 49) xq
          have HC := Lib.hid (And.intro hci (And.intro hcj xq))
          have s0 := HBQ.out.size
          clear hri hrj hXl hYl rr hixi hixj hci hcj
          go_wp2_with fail
          clear hcia xqa hix xq
          go_loopw [9, 10, 11, 55] (fun o _ _ t wp => ∃ (k : Nat) (ds : List Nat) (ad : Option Addr) (cd : Nat), o = .slice ad ds.length cd ∧ t = .int .i64 k ∧ k ≤ n ∧ ds.length = k ∧ Own (Value.float .f32) 49 wp wq.heap.size ad cd ds ∧ Hid (ds.map (cn .f32) = (diffC X Y).take k) ∧ Below wq.heap.size wq wp) (fun _ _ _ t _ => n - (intOf t).toNat)
          case atStart => exact ⟨0, [], _, 0, rfl, rfl, Nat.zero_le _, rfl, own_empty wq _ (Nat.le_refl _) rfl, by show _ = _; rfl, (Below.refl _ _).alloc (Nat.le_refl _) _⟩
          case round =>
            obtain ⟨k, ds, ad, cd, rfl, rfl, hkn, hdl, hod, HM, hbp⟩ := hrel
            obtain ⟨wp, rfl⟩ : ∃ wp : World, wp = wr := ⟨_, rfl⟩
            have HOD := Lib.hid hod
            have HDL := Lib.hid hdl
            have hd32 : ds.length ≤ 32 := by omega
            clear hod hdl
            by_cases hl3 : k < n
            · have hcj := k_at hbp HC.out.2.1
              have xqp := k_at hbp HC.out.2.2
              have hcx := (HRI.out.below hbp (Nat.le_refl _)).cell k (by rw [HXL.out]; exact hl3)
              have hcy := (HRJ.out.below hbp (Nat.le_refl _)).cell k (by rw [HYL.out]; exact hl3)
              have hds := diffC_succ HXL.out HYL.out hl3
              have e0 : (default : Nat) = 0 := rfl
              rw [e0] at hcx hcy
              generalize X[k]?.getD 0 = x at hcx hds
              generalize Y[k]?.getD 0 = y at hcy hds
              have HDS := Lib.hid hds
              have hix := HIX.out
              have hixi := HIXI.out.1
              have hixj := HIXI.out.2
              clear hds e0
              go_wp2_with (first
                | (refine wpl_fbin rfl _ _ _ _ _ rfl rfl .f32 _ _ rfl rfl ?_; rintro q2 w' ⟨n2, rfl⟩ hq2; have HQ2 := Lib.hid hq2; clear hq2; have hb4 := hbp.trans (below_of_drewN wp n2 wq.heap.size); have HO4 := Lib.hid (HOD.out.drewN n2); clear hcx hcy hcj xqp; generalize wp.drewN n2 = w4 at hb4 HO4 ⊢; have hz4 := hb4.size)
                | (at_builtin; refine wpl_append1 (f := Value.float .f32) (d := 0) (base := wq.heap.size) und_fse info_f (fun _ => rfl) _ HO4.out rfl _ _ rfl rfl rfl (by omega) (by omega) hz4 ?_; intro a3 c3 w5 ho3 hg3))
              have hb5 := hb4.trans (grown_belowOwn HO4.out hg3 (Nat.le_refl _) hz4)
              go_roundw
              case rel => exact ⟨k + 1, ds ++ [q2], a3, c3, by rw [List.length_append]; rfl, by go_num, by omega, by simp [HDL.out], ho3, by show _ = _; rw [List.map_append, HM.out, HDS.out]; simp only [List.map_cons, List.map_nil, HQ2.out]; rfl, hb5⟩
              case measure => simp [intOf]; omega
            · obtain rfl : k = n := by omega
              have hM := HM.out
              rw [List.take_of_length_le (by rw [diffC_len HXL.out HYL.out]; exact Nat.le_refl _)] at hM
              have hnm := norm_of hM
              obtain ⟨bb, hbb⟩ : ∃ b, normK X Y = b := ⟨_, rfl⟩
              have hcon := implNormOf_any HOD.out.rd
              rw [hnm.1, hnm.2, hbb] at hcon
              have HCON := Lib.hid hcon
              have HBB := Lib.hid hbb
              have HBP := Lib.hid hbp
              clear hM hnm hcon hbb hbp
              go_wp2_with fail
              refine HCON.out.mono ?_
              rintro e w5 ⟨r, rfl, hrn, hb5⟩
              have hle := leq_cn r far
              rw [hrn, ← HTT.out.1] at hle
              obtain ⟨tt, htt⟩ : ∃ t, nearT xss far i j = t := ⟨_, rfl⟩
              rw [htt] at hle
              have HTTT := Lib.hid htt
              have HBZ := Lib.hid (HBP.out.trans (hb5.mono HBP.out.size))
              have HBW := Lib.hid (HBQ.out.trans (HBZ.out.mono HBQ.out.size))
              have HPZ := Lib.hid (HP.out.below HBZ.out (Nat.le_refl _))
              have hz1 := HBW.out.size
              clear hrn hb5 htt HCON
              cases bb with
              | false =>
                have hbad := near_bad (far := far) (i := i) (k := j) (xss := xss) (by omega) hlj (by rw [HTT.out.2]; exact HBB.out)
                have HBAD := Lib.hid hbad
                have HBE := Lib.hid (B2.out.trans (HBW.out.mono B2.out.size))
                clear hbad hle
                go_wp2
                go_ret2
                rw [HBAD.out.1, HBAD.out.2]
                exact retSB_no HBE.out
              | true =>
                cases tt with
                | true =>
                  have HO4 := Lib.hid (HPZ.out.alloc (.cells #[.int .i64 (i : Int), .int .i64 (j : Int)] 2))
                  have HL4 : Hid (Rd (Value.int .i64) (w5.alloc (.cells #[.int .i64 (i : Int), .int .i64 (j : Int)] 2)) (some ⟨w5.heap.size, 0, none⟩) 2 [(i : Int), (j : Int)]) := Lib.hid (own_lit (f := Value.int .i64) (e := 2) w5 w5.heap.size [(i : Int), (j : Int)] (Nat.le_refl _) (by unfold maxLen; simp)).rd
                  go_wp2_with (at_builtin; refine wpl_appendN (f := Value.int .i64) (d := 0) (base := w2.heap.size) und_ise info_i (fun _ => rfl) HO4.out HL4.out rfl _ _ rfl rfl rfl (by omega) (by simp) (by omega) (by simp; omega) ?_; intro a7 c7 w7 ho7 hg7)
                  have HO7 := Lib.hid ho7
                  have HB7 := Lib.hid ((HBW.out.alloc hz1 (.cells #[.int .i64 (i : Int), .int .i64 (j : Int)] 2)).trans ((grown_belowOwn HO4.out hg7 (Nat.le_refl _) (by simp; omega))))
                  clear ho7 hg7
                  go_roundw
                  case rel =>
                    refine ⟨j + 1, ys ++ [(i : Int), (j : Int)], a7, c7, by omega, by omega, by go_num, by rw [List.length_append]; rfl, HO7.out, by show _ = _; rw [prow_succ _ (by omega), HTTT.out, HY.out]; simp, ?_, HB7.out⟩
                    show ∀ l, _
                    intro l h1 h2
                    by_cases hlj' : l = j
                    · subst hlj'; rw [HTT.out.2]; exact HBB.out
                    · exact HKJ.out l h1 (by omega)
                  case measure => simp [intOf]; omega
                | false =>
                  go_wp2
                  go_roundw
                  case rel =>
                    refine ⟨j + 1, ys, ap, cp, by omega, by omega, by go_num, rfl, HPZ.out, by show _ = _; rw [prow_succ _ (by omega), HTTT.out, HY.out]; simp, ?_, HBW.out⟩
                    show ∀ l, _
                    intro l h1 h2
                    by_cases hlj' : l = j
                    · subst hlj'; rw [HTT.out.2]; exact HBB.out
                    · exact HKJ.out l h1 (by omega)
                  case measure => simp [intOf]; omega
        · obtain rfl : j = xss.length := by omega
          go_wp2
          go_roundw
          case rel =>
            refine ⟨i + 1, ys, ap, cp, by omega, by go_num, rfl, HP.out, by show _ = _; rw [prows_succ, HY.out, HX.out], ?_, HBQ.out⟩
            show ∀ l, _
            intro l hl k hk1 hk2
            by_cases hli : l = i
            · subst hli; exact HKJ.out k hk1 hk2
            · exact HK.out l (by omega) k hk1 hk2
          case measure => simp [intOf]; omega
    · obtain rfl : i = xss.length := by omega
      have HBB := Lib.hid (B2.out.trans (HB.out.mono B2.out.size))
      have hgood := near_good HOK.out HK.out
      have HGOOD := Lib.hid hgood
      clear hgood
      go_wp2
      go_ret2
      rw [HGOOD.out.1, HGOOD.out.2]
      exact ⟨ao, co, by rw [HX.out]; rfl, (HO.out.cast HX.out).mono B2.out.size, HBB.out⟩

theorem near_no {xss : List (List Nat)} {far : Nat} (h : rowsOk xss far = false) : nearOk xss far = false ∧ nearR xss far = [] := by
  have h2 : nearOk xss far = false := by unfold nearOk; rw [h]; rfl
  exact ⟨h2, by unfold nearR; rw [h2]; simp⟩

set_option maxRecDepth 8000 in
set_option maxHeartbeats 2000000 in
theorem implNear_no {a : Option Addr} {c : Nat} {hs : List Hd} {xss : List (List Nat)} {far : Nat} {w : World} (hr : Rd2 (Value.float .f32) w a c hs xss) (hno : rowsOk xss far = false) :
    Calls Try.prog 36 #[.slice a xss.length c, .float .f32 far] w (RetSB (Value.int .i64) 2 w [] false) := by
  have hln := hr.lens
  have hb0 : Below w.heap.size w (w.alloc (.cells #[.slice a xss.length c] 59)) := (Below.refl _ _).alloc (Nat.le_refl _) _
  have X0 : Hid (Blk (w.alloc (.cells #[.slice a xss.length c] 59)) w.heap.size #[.slice a xss.length c] 59) := Lib.hid (Blk.new _ _ _)
  have R0 := Lib.hid (hr.below hb0 (Nat.le_refl _))
  have B0 := Lib.hid hb0
  have HNO := Lib.hid hno
  clear hb0 hno hr
  by_cases h1 : xss.length < 1
  · go_enter Try.func36, Try.ntmps36
    go_wp2
    go_ret2
    exact retSB_no B0.out
  by_cases h2 : 32 < xss.length
  · go_enter Try.func36, Try.ntmps36
    go_wp2
    go_ret2
    exact retSB_no B0.out
  obtain ⟨f1, hf1⟩ : ∃ q, fin .f32 (cn .f32 far) = q := ⟨_, rfl⟩
  obtain ⟨f2, hf2⟩ : ∃ q, least0 far = q := ⟨_, rfl⟩
  obtain ⟨f3, hf3⟩ : ∃ q, (bads xss ((rowAt xss 0).length : Int)).any id = q := ⟨_, rfl⟩
  have hcase : (f1 && f2 && !f3) = false := by
    have := HNO.out
    simp only [rowsOk, farOk, hf1, hf2, hf3] at this
    rw [decide_eq_true (show 1 ≤ xss.length by omega), decide_eq_true (show xss.length ≤ 32 by omega)] at this
    simpa using this
  unfold least0 at hf2
  have HF1 := Lib.hid hf1
  have HF3 := Lib.hid hf3
  clear hf1 hf3
  go_enter Try.func36, Try.ntmps36
  go_wp2_with fail
  generalize w.alloc (.cells #[.slice a xss.length c] 59) = w0 at X0 R0 B0 ⊢
  refine isFinite_any.mono ?_
  rintro e w1 ⟨rfl, hb1⟩
  rw [HF1.out]
  have X1 := Lib.hid (X0.out.below hb1 (Nat.le_refl _))
  have R1 := Lib.hid (R0.out.below hb1 (Nat.le_refl _))
  have B1 := Lib.hid (B0.out.trans (hb1.mono B0.out.size))
  have x1 := X1.out.cell (i := 0) (v := .slice a xss.length c) rfl
  clear hb1 X0 R0 B0
  cases f1 with
  | false =>
    clear hcase hf2
    go_wp2
    go_ret2
    exact retSB_no B1.out
  | true =>
    cases f2 with
    | false =>
      clear hcase
      go_wp2
      go_ret2
      exact retSB_no B1.out
    | true =>
      have h3 : f3 = true := by simpa using hcase
      clear hcase
      subst h3
      go_wp2_with fail
      refine (nearBads_any R1.out (by omega) rfl x1).mono ?_
      rintro e w2 ⟨rfl, hb2⟩
      rw [HF3.out]
      have B2 := Lib.hid (B1.out.trans (hb2.mono B1.out.size))
      clear hb2 x1 X1 R1 B1
      go_wp2
      go_ret2
      exact retSB_no B2.out

theorem implNear_any {a : Option Addr} {c : Nat} {hs : List Hd} {xss : List (List Nat)} {far : Nat} {w : World} (hr : Rd2 (Value.float .f32) w a c hs xss) :
    Calls Try.prog 36 #[.slice a xss.length c, .float .f32 far] w (RetSB (Value.int .i64) 2 w (nearR xss far) (nearOk xss far)) := by
  by_cases hok : rowsOk xss far = true
  · exact implNear_rows hr hok
  · have hno : rowsOk xss far = false := by simpa using hok
    rw [(near_no hno).1, (near_no hno).2]
    exact implNear_no hr hno

end Go.Proofs.Ytdpolaedfjljmaa

namespace Go.Proofs.Ytdpolaedfjljmaa
open Go.RowKit

theorem l02Least_any {far : Nat} {w : World} : Calls Try.prog 97 #[.float .f32 far] w fun e w' => e = .returned (.bool (farOk far)) ∧ Below w.heap.size w w' := by
  obtain ⟨f1, hf1⟩ : ∃ q, fin .f32 (cn .f32 far) = q := ⟨_, rfl⟩
  obtain ⟨f2, hf2⟩ : ∃ q, least0 far = q := ⟨_, rfl⟩
  have hv : farOk far = (f1 && f2) := by unfold farOk; rw [hf1, hf2]
  rw [hv]
  unfold least0 at hf2
  have HF1 := Lib.hid hf1
  clear hv hf1
  go_enter Try.func97, Try.ntmps97
  go_wp2_with fail
  refine l01Finite_any.mono ?_
  rintro e w1 ⟨rfl, hb1⟩
  rw [HF1.out]
  cases f1 with
  | false =>
    clear hf2
    go_wp2
    go_ret
    exact ⟨rfl, hb1⟩
  | true =>
    go_wp2
    go_ret
    exact ⟨ret_bool (by simp), hb1⟩

/-- One round of the reference's look at the rows: a row that is well. -/
theorem row_calm {a : Option Addr} {c : Nat} {hs : List Hd} {xss : List (List Nat)} {w : World} (hr : Rd2 (Value.float .f32) w a c hs xss) {k n : Nat} (hk : k < xss.length) (hn : (rowAt xss 0).length = n) {ι : Type} {G : ι → World} (hG : ∀ i, Below w.heap.size w (G i)) :
    ∃ ak ck a0 c0, (∀ i, (G i).cell? (elt a k) = some (.slice ak xss[k].length ck)) ∧ (∀ i, (G i).cell? (elt a 0) = some (.slice a0 n c0)) ∧ ∀ i, Calls Try.prog 98 #[.slice ak xss[k].length ck] (G i) fun e w' => e = .returned (.bool (isVec xss[k])) ∧ Below (G i).heap.size (G i) w' := by
  obtain ⟨ak, ck, hck, hrk⟩ := hr.at hk
  obtain ⟨a0, c0, hc0, -⟩ := hr.at (show 0 < xss.length by omega)
  rw [← rowAt_get (by omega), hn] at hc0
  exact ⟨ak, ck, a0, c0, fun i => k_at (hG i) hck, fun i => k_at (hG i) hc0, fun i => l07Vector_any (hrk.below (hG i) (Nat.le_refl _))⟩

set_option maxRecDepth 8000 in
set_option maxHeartbeats 8000000 in
theorem specNear_rows {a : Option Addr} {c : Nat} {hs : List Hd} {xss : List (List Nat)} {far : Nat} {w : World} (hr : Rd2 (Value.float .f32) w a c hs xss) (hok : rowsOk xss far = true) :
    Calls Try.prog 37 #[.slice a xss.length c, .float .f32 far] w (RetSB (Value.int .i64) 2 w (nearR xss far) (nearOk xss far)) := by
  obtain ⟨n, hN1, hN2, hf1, hf2, hn0, hn, hrow0, hall0⟩ := rows_good hok
  have hall := Lib.hid hall0
  have HOK := Lib.hid hok
  have HR := Lib.hid hr
  have hrow := Lib.hid hrow0
  have HF : Hid (farOk far = true) := Lib.hid (by unfold farOk; rw [hf1, hf2]; rfl)
  clear hrow0 hall0 hok hr hf1 hf2
  go_enter Try.func37, Try.ntmps37
  go_wp2_with fail
  refine l02Least_any.mono ?_
  rintro e w1 ⟨rfl, hb1⟩
  rw [HF.out]
  have B1 := Lib.hid hb1
  clear hb1
  go_wp2_with fail
  go_loopw [6, 29] (fun _ i wr => ∃ k : Nat, k ≤ xss.length ∧ i = .int .i64 k ∧ Below w.heap.size w wr) (fun _ i _ => xss.length - (intOf i).toNat)
  case atStart => exact ⟨0, Nat.zero_le _, rfl, B1.out⟩
  case round =>
    obtain ⟨k, hk, rfl, hb⟩ := hrel
    by_cases hlt : k < xss.length
    · have rr := HR.out.below hb (Nat.le_refl _)
      obtain ⟨ι, hne, G, hG, hS⟩ := calm_family wr
      obtain ⟨ak, ck, a0, c0, hck, hc0, hcon⟩ := row_calm rr hlt hrow.out hG
      rw [(hall.out k hlt).1, (hall.out k hlt).2] at hcon
      rw [(hall.out k hlt).1] at hck
      have hix := rr.top.idx und_ffs siz_ffs
      rw [rr.len] at hix
      have hi0 := rd_idxAt rr.top und_ffs siz_ffs 0 (by rw [rr.len]; omega) 0 rfl
      rw [rr.len] at hi0
      have HC := Lib.hid hcon
      have HG := Lib.hid hG
      have HSU := Lib.hid hS
      have hne2 : ((n : Int) != (n : Int)) = false := by simp
      clear hG hS hcon rr
      go_wp2_with fail
      refine wp_region_calm (G := G) (by kernel_rfl) (by kernel_rfl) HSU.out ?_
      repeat (go_big_quiet_step ((go_at_call 98; exact calm_call HG.out HSU.out (HC.out _))))
      refine wpQuiet_nil ?_
      intro _ hw'
      obtain ⟨i, hw''⟩ := hw'
      subst hw''
      have hb2 := hb.trans ((HG.out i).mono hb.size)
      clear hck hc0 HC hi0 hix
      generalize G i = wg at hb2 ⊢
      go_wp2
      go_roundw
      case rel => exact ⟨k + 1, by omega, by go_num, hb2⟩
      case measure => simp [intOf]; omega
    · obtain rfl : k = xss.length := by omega
      obtain ⟨w2, rfl⟩ : ∃ w2 : World, w2 = wr := ⟨_, rfl⟩
      have R2 := Lib.hid (HR.out.below hb (Nat.le_refl _))
      have B2 := Lib.hid hb
      clear hb
      go_wp2_with fail
      go_loopw [7, 8, 9, 10, 11, 12, 13, 54] (fun out _ _ _ _ _ _ i wr => ∃ (k : Nat) (xs : List Int) (ao : Option Addr) (co : Nat), k ≤ xss.length ∧ i = .int .i64 k ∧ out = .slice ao xs.length co ∧ Own (Value.int .i64) 2 wr w2.heap.size ao co xs ∧ Hid (xs = prows (nearT xss far) xss.length k) ∧ Hid (∀ i, i < k → ∀ j, i < j → j < xss.length → nearK xss i j = true) ∧ Below w2.heap.size w2 wr) (fun _ _ _ _ _ _ _ i _ => xss.length - (intOf i).toNat)
      case atStart => exact ⟨0, [], _, 0, Nat.zero_le _, rfl, rfl, own_empty w2 _ (Nat.le_refl _) rfl, by show _ = _; rfl, by show ∀ i, _; intro i hi; omega, (Below.refl _ _).alloc (Nat.le_refl _) _⟩
      case round =>
        obtain ⟨i, xs, ao, co, hi, rfl, rfl, ho, HX, HK, hb⟩ := hrel
        have HO := Lib.hid ho
        have HB := Lib.hid hb
        clear ho hb
        by_cases hlt : i < xss.length
        · have hxl : xs.length ≤ 2048 := by
            rw [HX.out]
            have h1 := prows_len (nearT xss far) xss.length i
            have h2 : 2 * xss.length * i ≤ 2 * 32 * 32 := Nat.mul_le_mul (by omega) (by omega)
            omega
          obtain ⟨wa, rfl⟩ : ∃ wa : World, wa = wr := ⟨_, rfl⟩
          go_wp2_with fail
          go_loopw [7, 9, 10, 11, 12, 13] (fun out k _ _ _ _ wq => ∃ (j : Nat) (ys : List Int) (ap : Option Addr) (cp : Nat), i + 1 ≤ j ∧ j ≤ xss.length ∧ k = .int .i64 j ∧ out = .slice ap ys.length cp ∧ Own (Value.int .i64) 2 wq w2.heap.size ap cp ys ∧ Hid (ys = xs ++ prow (nearT xss far) i j) ∧ Hid (∀ l, i < l → l < j → nearK xss i l = true) ∧ Below w2.heap.size w2 wq) (fun _ k _ _ _ _ _ => xss.length - (intOf k).toNat)
          case atStart => exact ⟨i + 1, xs, ao, co, Nat.le_refl _, by omega, by go_num, rfl, HO.out, by show _ = _; rw [prow_zero, List.append_nil], by show ∀ l, _; intro l h1 h2; omega, HB.out⟩
          case round =>
            obtain ⟨j, ys, ap, cp, hj1, hj2, rfl, rfl, hp, HY, HKJ, hbq⟩ := hrel
            obtain ⟨wq, rfl⟩ : ∃ wq : World, wq = wr := ⟨_, rfl⟩
            have HP := Lib.hid hp
            have HBQ := Lib.hid hbq
            have rr := R2.out.below hbq (Nat.le_refl _)
            clear hp hbq HO HB
            by_cases hlj : j < xss.length
            · have hyl : ys.length ≤ 4096 := by
                rw [HY.out, List.length_append]
                have := prow_len (nearT xss far) i j
                omega
              obtain ⟨ai, ci, hci, hri⟩ := rr.at hlt
              obtain ⟨aj, cj, hcj, hrj⟩ := rr.at hlj
              have hXl := (hall.out i hlt).1
              have hvx : isVec xss[i] = true ∧ isVec xss[j] = true := ⟨(hall.out i hlt).2, (hall.out j hlj).2⟩
              have hYl := (hall.out j hlj).1
              have HTT : Hid (nearT xss far i j = leqC (normT xss[i] xss[j]) (cn .f32 far) ∧ nearK xss i j = normK xss[i] xss[j]) := Lib.hid (by unfold nearT nearK; rw [rowAt_get hlt, rowAt_get hlj]; exact ⟨rfl, rfl⟩)
              generalize xss[i] = X at hci hri hXl HTT hvx
              generalize xss[j] = Y at hcj hrj hYl HTT hvx
              rw [hXl] at hci
              rw [hYl] at hcj
              have HXL := Lib.hid hXl
              have HVX := Lib.hid hvx
              clear hvx
              have HYL := Lib.hid hYl
              have hix := rr.top.idx und_ffs siz_ffs
              rw [rr.len] at hix
              have HIX := Lib.hid hix
              have HRI := Lib.hid hri
              have HRJ := Lib.hid hrj
              have hixi := hri.idx und_fs siz_fs
              have hixj := hrj.idx und_fs siz_fs
              rw [hXl] at hixi
              rw [hYl] at hixj
              have HIXI := Lib.hid (And.intro hixi hixj)
              have hcia := k_alloc (o := .cells #[] 49) hci
              have HC := Lib.hid (And.intro hci hcj)
              have s0 := HBQ.out.size
              clear hri hrj hXl hYl rr hixi hixj hci hcj
              go_wp2_with fail
              clear hcia hix
              go_loopw [10, 11, 71] (fun o _ t wp => ∃ (k : Nat) (ds : List Nat) (ad : Option Addr) (cd : Nat), o = .slice ad ds.length cd ∧ t = .int .i64 k ∧ k ≤ n ∧ ds.length = k ∧ Own (Value.float .f32) 49 wp wq.heap.size ad cd ds ∧ Hid (ds.map (cn .f32) = (diffC X Y).take k) ∧ Below wq.heap.size wq wp) (fun _ _ t _ => n - (intOf t).toNat)
              case atStart => exact ⟨0, [], _, 0, rfl, rfl, Nat.zero_le _, rfl, own_empty wq _ (Nat.le_refl _) rfl, by show _ = _; rfl, (Below.refl _ _).alloc (Nat.le_refl _) _⟩
              case round =>
                obtain ⟨k, ds, ad, cd, rfl, rfl, hkn, hdl, hod, HM, hbp⟩ := hrel
                obtain ⟨wp, rfl⟩ : ∃ wp : World, wp = wr := ⟨_, rfl⟩
                have HOD := Lib.hid hod
                have HDL := Lib.hid hdl
                have hd32 : ds.length ≤ 32 := by omega
                clear hod hdl
                by_cases hl3 : k < n
                · have hcj := k_at hbp HC.out.2
                  have hci := k_at hbp HC.out.1
                  have hcx := (HRI.out.below hbp (Nat.le_refl _)).cell k (by rw [HXL.out]; exact hl3)
                  have hcy := (HRJ.out.below hbp (Nat.le_refl _)).cell k (by rw [HYL.out]; exact hl3)
                  have hds := diffC_succ HXL.out HYL.out hl3
                  have e0 : (default : Nat) = 0 := rfl
                  have fx := vec_fin HVX.out.1 (k := k) (by rw [HXL.out]; exact hl3)
                  have fy := vec_fin HVX.out.2 (k := k) (by rw [HYL.out]; exact hl3)
                  rw [e0] at hcx hcy
                  obtain ⟨x, hx⟩ : ∃ x, X[k]?.getD 0 = x := ⟨_, rfl⟩
                  obtain ⟨y, hy⟩ : ∃ y, Y[k]?.getD 0 = y := ⟨_, rfl⟩
                  rw [hx] at hcx hds fx
                  rw [hy] at hcy hds fy
                  have HEX : Hid (X[k]?.getD default = x) := Lib.hid hx
                  have HEY : Hid (Y[k]?.getD default = y) := Lib.hid hy
                  obtain ⟨q2, hq2, hq3⟩ := sub_fin fx fy
                  have hsub := fun w' => run_float_arith (P := Try.prog) w' .sub 49 .f32 x y q2 hq2
                  have HQ2 := Lib.hid hq3
                  clear fx fy hx hy hq2 hq3
                  have HDS := Lib.hid hds
                  have hix := HIX.out
                  have hixi := HIXI.out.1
                  have hixj := HIXI.out.2
                  clear hds e0
                  go_wp2_with fail
                  have hzp := hbp.size
                  go_region_held3 (fun w' => w'.cell? (elt a i) = some (.slice ai n ci) ∧ w'.cell? (elt a j) = some (.slice aj n cj) ∧ w'.cell? (elt ai k) = some (.float .f32 x) ∧ w'.cell? (elt aj k) = some (.float .f32 y))
                    (first | go_keep)
                    ((refine step_append1 (f := Value.float .f32) (d := 0) (base := wq.heap.size) und_fse info_f (fun _ => rfl) _ ((HOD.out.alloc _).drew) rfl _ _ rfl wp.heap.size rfl rfl (heap_alloc_new wp _) (by omega) (by omega) (by simp; omega) ?_; intro a3 c3 w5 ho3 hg3; have hb5 : Below wq.heap.size wq w5 := ((hbp.alloc hzp _).drew).trans (grown_belowOwn ((HOD.out.alloc _).drew) hg3 (Nat.le_refl _) (by simp; omega)); have e1 := k_at hb5 HC.out.1; have e2 := k_at hb5 HC.out.2; have e3 := (HRI.out.below hb5 (Nat.le_refl _)).cell k (by rw [HXL.out]; exact hl3); have e4 := (HRJ.out.below hb5 (Nat.le_refl _)).cell k (by rw [HYL.out]; exact hl3); rw [HEX.out] at e3; rw [HEY.out] at e4))
                  clear e1 e2 e3 e4 hci hcj hcx hcy
                  go_wp2
                  go_roundw
                  case rel => exact ⟨k + 1, ds ++ [q2], a3, c3, by rw [List.length_append]; rfl, by go_num, by omega, by simp [HDL.out], ho3, by show _ = _; rw [List.map_append, HM.out, HDS.out]; simp only [List.map_cons, List.map_nil, HQ2.out], hb5⟩
                  case measure => simp [intOf]; omega
                · obtain rfl : k = n := by omega
                  have hM := HM.out
                  rw [List.take_of_length_le (by rw [diffC_len HXL.out HYL.out]; exact Nat.le_refl _)] at hM
                  have hnm := norm_of hM
                  obtain ⟨bb, hbb⟩ : ∃ b, normK X Y = b := ⟨_, rfl⟩
                  have hcon := specNormOf_any HOD.out.rd
                  rw [hnm.1, hnm.2, hbb] at hcon
                  have HCON := Lib.hid hcon
                  have HBB := Lib.hid hbb
                  have HBP := Lib.hid hbp
                  clear hM hnm hcon hbb hbp
                  go_wp2_with fail
                  refine HCON.out.mono ?_
                  rintro e w5 ⟨r, rfl, hrn, hb5⟩
                  have hle := leq_cn r far
                  rw [hrn, ← HTT.out.1] at hle
                  obtain ⟨tt, htt⟩ : ∃ t, nearT xss far i j = t := ⟨_, rfl⟩
                  rw [htt] at hle
                  have HTTT := Lib.hid htt
                  have HBZ := Lib.hid (HBP.out.trans (hb5.mono HBP.out.size))
                  have HBW := Lib.hid (HBQ.out.trans (HBZ.out.mono HBQ.out.size))
                  have HPZ := Lib.hid (HP.out.below HBZ.out (Nat.le_refl _))
                  have hz1 := HBW.out.size
                  clear hrn hb5 htt HCON
                  cases bb with
                  | false =>
                    have hbad := near_bad (far := far) (i := i) (k := j) (xss := xss) (by omega) hlj (by rw [HTT.out.2]; exact HBB.out)
                    have HBAD := Lib.hid hbad
                    have HBE := Lib.hid (B2.out.trans (HBW.out.mono B2.out.size))
                    clear hbad hle
                    go_wp2
                    go_ret2
                    rw [HBAD.out.1, HBAD.out.2]
                    exact retSB_no HBE.out
                  | true =>
                    cases tt with
                    | true =>
                      have HO4 := Lib.hid (HPZ.out.alloc (.cells #[.int .i64 (i : Int), .int .i64 (j : Int)] 2))
                      have HL4 : Hid (Rd (Value.int .i64) (w5.alloc (.cells #[.int .i64 (i : Int), .int .i64 (j : Int)] 2)) (some ⟨w5.heap.size, 0, none⟩) 2 [(i : Int), (j : Int)]) := Lib.hid (own_lit (f := Value.int .i64) (e := 2) w5 w5.heap.size [(i : Int), (j : Int)] (Nat.le_refl _) (by unfold maxLen; simp)).rd
                      go_wp2_with (at_builtin; refine wpl_appendN (f := Value.int .i64) (d := 0) (base := w2.heap.size) und_ise info_i (fun _ => rfl) HO4.out HL4.out rfl _ _ rfl rfl rfl (by omega) (by simp) (by omega) (by simp; omega) ?_; intro a7 c7 w7 ho7 hg7)
                      have HO7 := Lib.hid ho7
                      have HB7 := Lib.hid ((HBW.out.alloc hz1 (.cells #[.int .i64 (i : Int), .int .i64 (j : Int)] 2)).trans ((grown_belowOwn HO4.out hg7 (Nat.le_refl _) (by simp; omega))))
                      clear ho7 hg7
                      go_roundw
                      case rel =>
                        refine ⟨j + 1, ys ++ [(i : Int), (j : Int)], a7, c7, by omega, by omega, by go_num, by rw [List.length_append]; rfl, HO7.out, by show _ = _; rw [prow_succ _ (by omega), HTTT.out, HY.out]; simp, ?_, HB7.out⟩
                        show ∀ l, _
                        intro l h1 h2
                        by_cases hlj' : l = j
                        · subst hlj'; rw [HTT.out.2]; exact HBB.out
                        · exact HKJ.out l h1 (by omega)
                      case measure => simp [intOf]; omega
                    | false =>
                      go_wp2
                      go_roundw
                      case rel =>
                        refine ⟨j + 1, ys, ap, cp, by omega, by omega, by go_num, rfl, HPZ.out, by show _ = _; rw [prow_succ _ (by omega), HTTT.out, HY.out]; simp, ?_, HBW.out⟩
                        show ∀ l, _
                        intro l h1 h2
                        by_cases hlj' : l = j
                        · subst hlj'; rw [HTT.out.2]; exact HBB.out
                        · exact HKJ.out l h1 (by omega)
                      case measure => simp [intOf]; omega
            · obtain rfl : j = xss.length := by omega
              go_wp2
              go_roundw
              case rel =>
                refine ⟨i + 1, ys, ap, cp, by omega, by go_num, rfl, HP.out, by show _ = _; rw [prows_succ, HY.out, HX.out], ?_, HBQ.out⟩
                show ∀ l, _
                intro l hl k hk1 hk2
                by_cases hli : l = i
                · subst hli; exact HKJ.out k hk1 hk2
                · exact HK.out l (by omega) k hk1 hk2
              case measure => simp [intOf]; omega
        · obtain rfl : i = xss.length := by omega
          have HBB := Lib.hid (B2.out.trans (HB.out.mono B2.out.size))
          have hgood := near_good HOK.out HK.out
          have HGOOD := Lib.hid hgood
          clear hgood
          go_wp2
          go_ret2
          rw [HGOOD.out.1, HGOOD.out.2]
          exact ⟨ao, co, by rw [HX.out]; rfl, (HO.out.cast HX.out).mono B2.out.size, HBB.out⟩

theorem bads_at {xss : List (List Nat)} {N : Int} (h : (bads xss N).any id = true) : ¬ ∀ i (h : i < xss.length), isVec xss[i] = true ∧ (xss[i].length : Int) = N := by
  intro hall
  rw [List.any_eq_true] at h
  obtain ⟨x, hx, hx2⟩ := h
  simp only [bads, List.mem_map] at hx
  obtain ⟨r, hr1, rfl⟩ := hx
  obtain ⟨i, hi, rfl⟩ := List.getElem_of_mem hr1
  rw [(hall i hi).1, (hall i hi).2] at hx2; simp at hx2

set_option maxRecDepth 8000 in
set_option maxHeartbeats 4000000 in
theorem specNear_no {a : Option Addr} {c : Nat} {hs : List Hd} {xss : List (List Nat)} {far : Nat} {w : World} (hr : Rd2 (Value.float .f32) w a c hs xss) (hno : rowsOk xss far = false) :
    Calls Try.prog 37 #[.slice a xss.length c, .float .f32 far] w (RetSB (Value.int .i64) 2 w [] false) := by
  have hln := hr.lens
  have HR := Lib.hid hr
  clear hr
  by_cases h1 : xss.length < 1
  · clear hno
    go_enter Try.func37, Try.ntmps37
    go_wp2
    go_ret2
    exact retSB_no (Below.refl _ _)
  by_cases h2 : 32 < xss.length
  · clear hno
    go_enter Try.func37, Try.ntmps37
    go_wp2
    go_ret2
    exact retSB_no (Below.refl _ _)
  obtain ⟨f1, hf1⟩ : ∃ q, farOk far = q := ⟨_, rfl⟩
  obtain ⟨f3, hf3⟩ : ∃ q, (bads xss ((rowAt xss 0).length : Int)).any id = q := ⟨_, rfl⟩
  have hcase : (f1 && !f3) = false := by
    have := hno
    simp only [rowsOk, hf1, hf3] at this
    rw [decide_eq_true (show 1 ≤ xss.length by omega), decide_eq_true (show xss.length ≤ 32 by omega)] at this
    simpa using this
  have HF1 := Lib.hid hf1
  have HF3 := Lib.hid hf3
  clear hf1 hf3 hno
  obtain ⟨n, hn⟩ : ∃ n, (rowAt xss 0).length = n := ⟨_, rfl⟩
  have HN := Lib.hid hn
  clear hn
  go_enter Try.func37, Try.ntmps37
  go_wp2_with fail
  refine l02Least_any.mono ?_
  rintro e w1 ⟨rfl, hb1⟩
  rw [HF1.out]
  have B1 := Lib.hid hb1
  clear hb1
  cases f1 with
  | false =>
    clear hcase
    go_wp2
    go_ret2
    exact retSB_no B1.out
  | true =>
    have h3 : f3 = true := by simpa using hcase
    subst h3
    clear hcase
    have HBAD := Lib.hid (bads_at HF3.out)
    rw [HN.out] at HBAD
    go_wp2_with fail
    go_loopw [6, 29] (fun _ i wr => ∃ k : Nat, k ≤ xss.length ∧ i = .int .i64 k ∧ Hid (∀ i, i < k → ∀ (h : i < xss.length), isVec xss[i] = true ∧ (xss[i].length : Int) = (n : Int)) ∧ Below w.heap.size w wr) (fun _ i _ => xss.length - (intOf i).toNat)
    case atStart => exact ⟨0, Nat.zero_le _, rfl, by show ∀ i, _; intro i hi; omega, B1.out⟩
    case round =>
      obtain ⟨k, hk, rfl, HK, hb⟩ := hrel
      by_cases hlt : k < xss.length
      · have rr := HR.out.below hb (Nat.le_refl _)
        obtain ⟨ι, hne, G, hG, hS⟩ := calm_family wr
        obtain ⟨ak, ck, a0, c0, hck, hc0, hcon⟩ := row_calm rr hlt HN.out hG
        have hln2 := (rr.at hlt)
        have hlr : xss[k].length ≤ 9223372036854775807 := by obtain ⟨_, _, _, h4⟩ := hln2; exact h4.len
        have hln3 := (rr.at (show 0 < xss.length by omega))
        have hlz : n ≤ 9223372036854775807 := by rw [← HN.out, rowAt_get (by omega)]; obtain ⟨_, _, _, h4⟩ := hln3; exact h4.len
        have hix := rr.top.idx und_ffs siz_ffs
        rw [rr.len] at hix
        have hi0 := rd_idxAt rr.top und_ffs siz_ffs 0 (by rw [rr.len]; omega) 0 rfl
        rw [rr.len] at hi0
        obtain ⟨v, hv⟩ : ∃ v, isVec xss[k] = v := ⟨_, rfl⟩
        obtain ⟨z, hz⟩ : ∃ z, xss[k].length = z := ⟨_, rfl⟩
        rw [hv, hz] at hcon
        rw [hz] at hck hlr
        have HV := Lib.hid hv
        have HZ := Lib.hid hz
        have HC := Lib.hid hcon
        have HG := Lib.hid hG
        have HSU := Lib.hid hS
        clear hG hS hcon rr hln2 hln3 hv hz
        have step : ∀ (b : Bool), ((z : Int) != (n : Int)) = b → True := fun _ _ => trivial
        cases v with
        | false =>
          go_wp2_with fail
          refine wp_region_calm (G := G) (by kernel_rfl) (by kernel_rfl) HSU.out ?_
          repeat (go_big_quiet_step ((go_at_call 98; exact calm_call HG.out HSU.out (HC.out _))))
          refine wpQuiet_nil ?_
          intro _ hw'
          obtain ⟨i, hw''⟩ := hw'
          subst hw''
          have hb2 := hb.trans ((HG.out i).mono hb.size)
          clear hck hc0 HC hi0 hix step
          generalize G i = wg at hb2 ⊢
          go_wp2
          go_ret2
          exact retSB_no hb2
        | true =>
          by_cases hzn : z = n
          · subst hzn
            have hne2 : ((z : Int) != (z : Int)) = false := by simp
            clear step
            go_wp2_with fail
            refine wp_region_calm (G := G) (by kernel_rfl) (by kernel_rfl) HSU.out ?_
            repeat (go_big_quiet_step ((go_at_call 98; exact calm_call HG.out HSU.out (HC.out _))))
            refine wpQuiet_nil ?_
            intro _ hw'
            obtain ⟨i, hw''⟩ := hw'
            subst hw''
            have hb2 := hb.trans ((HG.out i).mono hb.size)
            clear hck hc0 HC hi0 hix
            generalize G i = wg at hb2 ⊢
            go_wp2
            go_roundw
            case rel =>
              refine ⟨k + 1, by omega, by go_num, ?_, hb2⟩
              show ∀ i, _
              intro i hi hi2
              by_cases hik : i = k
              · subst hik; rw [HZ.out, HV.out]; exact ⟨rfl, rfl⟩
              · exact HK.out i (by omega) hi2
            case measure => simp [intOf]; omega
          · have hne2 : ((z : Int) != (n : Int)) = true := by simp; omega
            clear step hzn
            go_wp2_with fail
            refine wp_region_calm (G := G) (by kernel_rfl) (by kernel_rfl) HSU.out ?_
            repeat (go_big_quiet_step ((go_at_call 98; exact calm_call HG.out HSU.out (HC.out _))))
            refine wpQuiet_nil ?_
            intro _ hw'
            obtain ⟨i, hw''⟩ := hw'
            subst hw''
            have hb2 := hb.trans ((HG.out i).mono hb.size)
            clear hck hc0 HC hi0 hix
            generalize G i = wg at hb2 ⊢
            go_wp2
            go_ret2
            exact retSB_no hb2
      · obtain rfl : k = xss.length := by omega
        exact absurd (fun i hi => HK.out i hi hi) HBAD.out

theorem specNear_any {a : Option Addr} {c : Nat} {hs : List Hd} {xss : List (List Nat)} {far : Nat} {w : World} (hr : Rd2 (Value.float .f32) w a c hs xss) :
    Calls Try.prog 37 #[.slice a xss.length c, .float .f32 far] w (RetSB (Value.int .i64) 2 w (nearR xss far) (nearOk xss far)) := by
  by_cases hok : rowsOk xss far = true
  · exact specNear_rows hr hok
  · have hno : rowsOk xss far = false := by simpa using hok
    rw [(near_no hno).1, (near_no hno).2]
    exact specNear_no hr hno

end Go.Proofs.Ytdpolaedfjljmaa
