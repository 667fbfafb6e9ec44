/- OftenInWindow in the reference's text. -/
import Derived.Test.YtihbckoldblpcaaLastS
namespace Go.Proofs.Ytihbckoldblpcaa
open Go.RowKit

set_option maxRecDepth 8000 in
set_option maxHeartbeats 4000000 in
theorem specOften_any {a : Option Addr} {c : Nat} {xs : List Int} {L : Int} {w : World} (hr : Rd (Value.int .i64) w a c xs) :
    Calls Try.prog 32 #[.slice a xs.length c, .int .i64 L] w (RetSB (Value.int .i64) 2 w (eachL oftG L xs) (lstB L xs)) := by
  cases hb : lstB L xs with
  | false =>
    unfold eachL
    rw [hb]
    go_enter Try.func32, Try.ntmps32
    go_wp2_with fail
    refine (l06List_any hr).mono ?_
    rintro e w1 ⟨rfl, rfl⟩
    rw [hb]
    go_wp2
    go_ret2
    exact retSB_no (Below.refl _ _)
  | true =>
  obtain ⟨zs, hzs⟩ : ∃ zs, eachL oftG L xs = zs := ⟨_, rfl⟩
  have HZ : Hid (eachR oftG L xs xs.length = zs) := Lib.hid (by rw [← hzs]; unfold eachL; rw [hb]; rfl)
  rw [hzs]
  have hb2 := hb
  simp only [lstB, Bool.and_eq_true, inR, decide_eq_true_eq] at hb2
  obtain ⟨⟨hn, _⟩, hL⟩ := hb2
  have hn2 : xs.length ≤ 128 := by omega
  have HR := Lib.hid hr
  have HE := Lib.hid (own_empty (f := Value.int .i64) (e := 2) (α := Int) w (by_ := 0) w.heap.size (Nat.le_refl _) rfl)
  have HB1 := Lib.hid ((Below.refl w.heap.size w).alloc (Nat.le_refl _) (.cells #[] 2))
  go_enter Try.func32, Try.ntmps32
  go_wp2_with fail
  refine (l06List_any hr).mono ?_
  rintro e w1 ⟨rfl, rfl⟩
  rw [hb]
  clear hb hzs hr
  go_wp2_with fail
  go_loopw [6, 7] (fun o i wr => ∃ (k : Nat) (b : Option Addr) (cc : Nat), k ≤ xs.length ∧ i = .int .i64 k ∧ o = .slice b k cc ∧ Hid (Own (Value.int .i64) 2 wr w.heap.size b cc (eachR oftG L xs k)) ∧ Hid (Below w.heap.size w wr)) (fun _ i _ => xs.length - (intOf i).toNat)
  case atStart => exact ⟨0, _, _, Nat.zero_le _, rfl, rfl, HE, HB1⟩
  case round =>
    obtain ⟨k, b, cc, hk, rfl, rfl, HO, HB⟩ := hrel
    by_cases hlt : k < xs.length
    · obtain ⟨wi, rfl⟩ : ∃ wi : World, wi = wr := ⟨_, rfl⟩
      have HRW := Lib.hid (HR.out.below HB.out (Nat.le_refl _))
      have ewk : IntKind.i64.wrap ((k : Int) + 1) = (k : Int) + 1 := IntWalk.i64_in _ (by omega)
      go_wp2_with fail
      refine (l06Last_any HRW.out hlt (by omega) hL).mono ?_
      rintro e w3 ⟨a2, c2, rfl, hr2, rfl⟩
      obtain ⟨hne, hle⟩ := lastL_len (xs := xs) (i := k) hlt hL.1
      have HS := Lib.hid (eachR_succ oftG L xs k)
      have HNE := Lib.hid (And.intro hne hle)
      have HR2 := Lib.hid hr2
      clear hr2 hne hle
      generalize lastL xs L k = ls at HNE HR2 HS ⊢
      go_wp2_with fail
      refine (l06Sorted_any HR2.out (by have := HNE.out.2; omega)).mono ?_
      rintro e w3 ⟨a3, c3, rfl, ho3, hb3⟩
      have hg : oftG ls = oftR (srt ls) := rfl
      rw [hg] at HS
      have hsl : (srt ls).length = ls.length := srt_len ls
      have hpos : 0 < (srt ls).length := by rw [hsl]; exact List.length_pos_iff.2 HNE.out.1
      have hyl : (srt ls).length ≤ 128 := by rw [hsl]; have := HNE.out.2; omega
      clear hg hsl HNE HR2 HRW
      generalize srt ls = ys at HS ho3 hpos hyl ⊢
      have HY := Lib.hid ho3.rd
      have HO3 := Lib.hid (HO.out.below hb3 (Nat.le_refl _))
      have HB3 := Lib.hid (HB.out.trans (hb3.mono HB.out.size))
      have hi0 := rd_idxAt ho3.rd und_is siz_is 0 hpos 0 rfl
      obtain ⟨z, hz⟩ : ∃ z, at0 ys 0 = z := ⟨_, rfl⟩
      have hc0 := at0_cell ho3.rd hpos hz
      have HZZ := Lib.hid hz
      clear ho3 hb3 HO HB hz
      obtain ⟨wj, rfl⟩ : ∃ wj : World, wj = w3 := ⟨_, rfl⟩
      go_wp2_with fail
      clear hc0
      go_loopw [9, 10, 11, 12] (fun bb m r i wr => ∃ (j : Nat) (B M R : Int), j ≤ ys.length ∧ i = .int .i64 j ∧ bb = .int .i64 B ∧ m = .int .i64 M ∧ r = .int .i64 R ∧ 0 ≤ R ∧ R ≤ j ∧ Hid (oft ys j = (B, M)) ∧ Hid (runK ys j = R) ∧ Hid (∃ n, wr = wj.drewN n)) (fun _ _ _ i _ => ys.length - (intOf i).toNat)
      case atStart => exact ⟨0, z, 0, 0, Nat.zero_le _, rfl, rfl, rfl, rfl, by omega, by omega, Lib.hid (by rw [← HZZ.out]; rfl), Lib.hid rfl, Lib.hid ⟨0, rfl⟩⟩
      case round =>
        obtain ⟨j, B, M, R, hj, rfl, rfl, rfl, rfl, hR0, hR1, HO, HK, HN⟩ := hrel
        obtain ⟨wk, rfl⟩ : ∃ wj : World, wj = wr := ⟨_, rfl⟩
        have HYK : Hid (Rd (Value.int .i64) wk a3 c3 ys) := Lib.hid (by obtain ⟨n, rfl⟩ := HN.out; exact HY.out.drewN n)
        by_cases hltj : j < ys.length
        · have hixj := rd_idxAt HYK.out und_is siz_is j hltj (j : Int) rfl
          obtain ⟨x, hx⟩ : ∃ x, at0 ys j = x := ⟨_, rfl⟩
          have hcx := at0_cell HYK.out hltj hx
          have HX := Lib.hid hx
          clear hx
          have hrun : ∃ R2 : Int, 1 ≤ R2 ∧ R2 ≤ j + 1 ∧ runK ys (j + 1) = R2 ∧ ((j = 0 ∧ R2 = R + 1) ∨ (0 < j ∧ (if at0 ys j = at0 ys (j - 1) then R2 = R + 1 else R2 = 1))) := by
            by_cases h0 : j = 0
            · subst h0
              refine ⟨1, by omega, by omega, by rw [runK_zero], .inl ⟨rfl, ?_⟩⟩
              have := HK.out
              simp [runK] at this
              omega
            · by_cases he : at0 ys j = at0 ys (j - 1)
              · exact ⟨R + 1, by omega, by omega, by rw [runK_same (by omega) he, HK.out], .inr ⟨by omega, by rw [if_pos he]⟩⟩
              · exact ⟨1, by omega, by omega, by rw [runK_new he], .inr ⟨by omega, by rw [if_neg he]⟩⟩
          obtain ⟨R2, h20, h21, hru, hway⟩ := hrun
          have HRU := Lib.hid hru
          have hMO : ∀ B' M', (if M < R2 then (B' = x ∧ M' = R2) else (B' = B ∧ M' = M)) → oft ys (j + 1) = (B', M') := by
            intro B' M' h
            have hM : (oft ys j).2 = M := by rw [HO.out]
            split at h
            · rename_i hlt2
              rw [oft_go (by rw [hM, hru]; exact hlt2), hru, HX.out, h.1, h.2]
            · rename_i hlt2
              rw [oft_stay (by rw [hM, hru]; exact hlt2), HO.out, h.1, h.2]
          have HMO := Lib.hid hMO
          clear hru hMO
          have ew : IntKind.i64.wrap (R + 1) = R + 1 := IntWalk.i64_in _ (by omega)
          have ewj : IntKind.i64.wrap ((j : Int) + 1) = (j : Int) + 1 := IntWalk.i64_in _ (by omega)
          by_cases hM : M < R2
          · have HR3 := Lib.hid (HMO.out x R2 (by rw [if_pos hM]; exact ⟨rfl, rfl⟩))
            have hdm : decide (M < R2) = true := by simpa using hM
            clear HMO
            rcases hway with ⟨h0, he⟩ | ⟨h0, he⟩
            · subst h0 he
              go_wp2_with fail
              go_quiet (fail)
              have HNW : Hid (∃ n, wk.drewN nq = wj.drewN n) := Lib.hid (drewN_more' HN.out nq)
              have HYW := HYK.out.drewN nq
              have hcw := at0_cell HYW hltj HX.out
              clear HYK hcx
              generalize wk.drewN nq = wz at HNW HYW hcw ⊢
              go_wp2
              go_roundw
              case rel => exact ⟨1, x, _, _, by omega, by go_num, rfl, rfl, rfl, by omega, by omega, HR3, HRU, HNW⟩
              case measure => simp [intOf]; omega
            · have hd0 : decide ((0 : Int) < (j : Int)) = true := by simp; omega
              have hdn : decide (0 < j) = true := by simp; omega
              have hixp := rd_idxAt HYK.out und_is siz_is (j - 1) (by omega) ((j : Int) - 1) (by omega)
              obtain ⟨y, hy⟩ : ∃ x, at0 ys (j - 1) = x := ⟨_, rfl⟩
              have hcy := at0_cell HYK.out (by omega) hy
              rw [HX.out, hy] at he
              have ewm : IntKind.i64.wrap ((j : Int) - 1) = (j : Int) - 1 := IntWalk.i64_in _ (by omega)
              by_cases hxy : x = y
              · rw [if_pos hxy] at he
                subst he
                have hbn : (x != y) = false := by simp [hxy]
                have HXY := Lib.hid hxy
                clear hxy hy
                go_wp2_with fail
                go_quiet (fail)
                have HNW : Hid (∃ n, wk.drewN nq = wj.drewN n) := Lib.hid (drewN_more' HN.out nq)
                have HYW := HYK.out.drewN nq
                have hcw := at0_cell HYW hltj HX.out
                clear HYK hcx hcy
                generalize wk.drewN nq = wz at HNW HYW hcw ⊢
                go_wp2
                go_roundw
                case rel => exact ⟨j + 1, x, _, _, by omega, by go_num, rfl, rfl, rfl, by omega, by omega, HR3, HRU, HNW⟩
                case measure => simp [intOf]; omega
              · rw [if_neg hxy] at he
                subst he
                have hbn : (x != y) = true := by simpa using hxy
                have HXY := Lib.hid hxy
                clear hxy hy
                go_wp2_with fail
                go_quiet (fail)
                have HNW : Hid (∃ n, wk.drewN nq = wj.drewN n) := Lib.hid (drewN_more' HN.out nq)
                have HYW := HYK.out.drewN nq
                have hcw := at0_cell HYW hltj HX.out
                clear HYK hcx hcy
                generalize wk.drewN nq = wz at HNW HYW hcw ⊢
                go_wp2
                go_roundw
                case rel => exact ⟨j + 1, x, _, _, by omega, by go_num, rfl, rfl, rfl, by omega, by omega, HR3, HRU, HNW⟩
                case measure => simp [intOf]; omega
          · have HR3 := Lib.hid (HMO.out B M (by rw [if_neg hM]; exact ⟨rfl, rfl⟩))
            have hdm : decide (M < R2) = false := by simpa using hM
            clear HMO
            rcases hway with ⟨h0, he⟩ | ⟨h0, he⟩
            · subst h0 he
              go_wp2_with fail
              go_quiet (fail)
              have HNW : Hid (∃ n, wk.drewN nq = wj.drewN n) := Lib.hid (drewN_more' HN.out nq)
              have HYW := HYK.out.drewN nq
              have hcw := at0_cell HYW hltj HX.out
              clear HYK hcx
              generalize wk.drewN nq = wz at HNW HYW hcw ⊢
              go_wp2
              go_roundw
              case rel => exact ⟨1, B, _, _, by omega, by go_num, rfl, rfl, rfl, by omega, by omega, HR3, HRU, HNW⟩
              case measure => simp [intOf]; omega
            · have hd0 : decide ((0 : Int) < (j : Int)) = true := by simp; omega
              have hdn : decide (0 < j) = true := by simp; omega
              have hixp := rd_idxAt HYK.out und_is siz_is (j - 1) (by omega) ((j : Int) - 1) (by omega)
              obtain ⟨y, hy⟩ : ∃ x, at0 ys (j - 1) = x := ⟨_, rfl⟩
              have hcy := at0_cell HYK.out (by omega) hy
              rw [HX.out, hy] at he
              have ewm : IntKind.i64.wrap ((j : Int) - 1) = (j : Int) - 1 := IntWalk.i64_in _ (by omega)
              by_cases hxy : x = y
              · rw [if_pos hxy] at he
                subst he
                have hbn : (x != y) = false := by simp [hxy]
                have HXY := Lib.hid hxy
                clear hxy hy
                go_wp2_with fail
                go_quiet (fail)
                have HNW : Hid (∃ n, wk.drewN nq = wj.drewN n) := Lib.hid (drewN_more' HN.out nq)
                have HYW := HYK.out.drewN nq
                have hcw := at0_cell HYW hltj HX.out
                clear HYK hcx hcy
                generalize wk.drewN nq = wz at HNW HYW hcw ⊢
                go_wp2
                go_roundw
                case rel => exact ⟨j + 1, B, _, _, by omega, by go_num, rfl, rfl, rfl, by omega, by omega, HR3, HRU, HNW⟩
                case measure => simp [intOf]; omega
              · rw [if_neg hxy] at he
                subst he
                have hbn : (x != y) = true := by simpa using hxy
                have HXY := Lib.hid hxy
                clear hxy hy
                go_wp2_with fail
                go_quiet (fail)
                have HNW : Hid (∃ n, wk.drewN nq = wj.drewN n) := Lib.hid (drewN_more' HN.out nq)
                have HYW := HYK.out.drewN nq
                have hcw := at0_cell HYW hltj HX.out
                clear HYK hcx hcy
                generalize wk.drewN nq = wz at HNW HYW hcw ⊢
                go_wp2
                go_roundw
                case rel => exact ⟨j + 1, B, _, _, by omega, by go_num, rfl, rfl, rfl, by omega, by omega, HR3, HRU, HNW⟩
                case measure => simp [intOf]; omega
        · have hj' : j = ys.length := by omega
          subst hj'
          have hg : B = oftR ys := by show B = (oft ys ys.length).1; rw [HO.out]
          rw [← hg] at HS
          have HOW : Hid (Own (Value.int .i64) 2 wk w.heap.size b cc (eachR oftG L xs k)) := Lib.hid (by obtain ⟨n, rfl⟩ := HN.out; exact HO3.out.drewN n)
          have HBW : Hid (Below w.heap.size w wk) := Lib.hid (by obtain ⟨n, rfl⟩ := HN.out; exact HB3.out.trans (below_of_drewN _ _ _))
          have hzw := HBW.out.size
          have hlk : (eachR oftG L xs k).length = k := eachR_len oftG L xs k
          obtain ⟨vs, hvs⟩ : ∃ vs, eachR oftG L xs k = vs := ⟨_, rfl⟩
          rw [hvs] at hlk HS HOW
          clear HO3 HB3 hvs hg HYK HN HY
          subst hlk
          go_wp2_with (at_builtin; refine wpl_append1 (f := Value.int .i64) (d := 0) (base := w.heap.size) und_ise info_i (fun _ => rfl) B HOW.out rfl _ _ rfl rfl rfl (by omega) (by omega) hzw ?_; intro a4 c4 w4 ho4 hg4)
          go_roundw
          case rel => exact ⟨vs.length + 1, a4, c4, by omega, by go_num, by simp, Lib.hid (ho4.cast HS.out.symm), Lib.hid (HBW.out.trans (grown_belowOwn HOW.out hg4 (Nat.le_refl _) hzw))⟩
          case measure => simp [intOf]; omega
    · have hk' : k = xs.length := by omega
      subst hk'
      have hzl : xs.length = zs.length := by rw [← HZ.out, eachR_len]
      have HZL := Lib.hid hzl
      clear hzl
      go_wp2
      go_ret2
      exact ⟨b, cc, by rw [← HZL.out]; rfl, HO.out.cast HZ.out, HB.out⟩

end Go.Proofs.Ytihbckoldblpcaa
