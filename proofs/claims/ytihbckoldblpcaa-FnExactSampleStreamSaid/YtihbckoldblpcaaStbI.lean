/- slices.SortStableFunc at []int64: the insertion of a block, two ranges exchanged. -/
import Derived.Test.YtihbckoldblpcaaStbW
namespace Go.Proofs.Ytihbckoldblpcaa
open Go.RowKit

set_option maxRecDepth 8000 in
set_option maxHeartbeats 2000000 in
theorem insort_own {F : Nat} {caps : Array Value} {val K : Int → Int} {cf : Int → Int → Int} {T : Int → Prop} {w : World} {base : Nat} {a : Option Addr} {c : Nat} {ts : List Int} {lo hi : Nat}
    (ho : Own (vI val) 2 w base a c ts) (hn : ts.length ≤ 1048576) (hlh : lo ≤ hi) (hh : hi ≤ ts.length) (hc : CmpOk Try.prog F caps w (a.map (·.block)) val K cf T) (hT : All T ts) (hK : Mono K) (hS : Stab K ts) :
    Calls Try.prog 162 #[.slice a ts.length c, .int .i64 lo, .int .i64 hi, .func (.func F) #[] caps] w fun e w' =>
      e = .returned (.tuple #[]) ∧ ∃ zs, Own (vI val) 2 w' base a c zs ∧ w.grownBy w' (a.map (·.block)) ∧ RP lo hi ts zs ∧ ascR zs lo hi := by
  have HS := Lib.hid hS
  have HO := Lib.hid ho
  have HC : Aside _ := hc
  have HT := Lib.hid hT
  have HK := Lib.hid hK
  obtain ⟨n, hnn⟩ : ∃ n, ts.length = n := ⟨_, rfl⟩
  have HN := Lib.hid hnn
  rw [hnn] at hh hn ⊢
  clear hS ho hc hT hK hnn
  go_enter Try.func162, Try.ntmps162
  go_wp2
  go_loopg [8] (hi - lo) (fun g1 vi wr => ∃ (i : Nat) (ys : List Int), vi = .int .i64 i ∧ lo < i ∧ (i ≤ hi ∨ i = lo + 1) ∧ hi - i ≤ g1 ∧ Hid (ys.length = n) ∧ Hid (RP lo hi ts ys) ∧ Hid (Stab K ys) ∧ Hid (ascR ys lo i) ∧ Own (vI val) 2 wr base a c ys ∧ w.grownBy wr (a.map (·.block)))
  case atStart => exact ⟨lo + 1, ts, by go_num, by omega, .inr rfl, by omega, HN, Lib.hid (RP.refl _ _ _), HS, Lib.hid (ascR_one _ _), HO.out, grown_refl _ _⟩
  case round =>
    obtain ⟨i, ys, rfl, hi0, hi1, hg1, HL, HR, HSY, HA, ho, hg⟩ := hrel
    by_cases hlt : i < hi
    · have hltz : (i : Int) < (hi : Int) := by omega
      have HOY := Lib.hid ho
      have HG := Lib.hid hg
      obtain ⟨wi, hwi⟩ : ∃ wi : World, wi = wr := ⟨_, rfl⟩
      rw [← hwi]
      rw [← hwi] at HOY HG
      clear ho hg hwi
      go_wp2
      go_loopg [9] (i - lo) (fun g2 vj wr2 => ∃ (k : Nat) (zs : List Int), vj = .int .i64 k ∧ lo ≤ k ∧ k ≤ i ∧ k - lo ≤ g2 ∧ Hid (zs.length = n) ∧ Hid (RP lo hi ts zs) ∧ Hid (Stab K zs) ∧ Hid (InsR zs lo k i) ∧ Own (vI val) 2 wr2 base a c zs ∧ w.grownBy wr2 (a.map (·.block)))
      case atStart => exact ⟨i, ys, rfl, by omega, Nat.le_refl _, Nat.le_refl _, HL, HR, HSY, Lib.hid (insR_start HA.out), HOY.out, HG.out⟩
      case round =>
        obtain ⟨k, zs, rfl, hk0, hk1, hg2, HLZ, HRZ, HSZ, HI, ho, hg⟩ := hrel
        have HOZ := Lib.hid ho
        have HGZ := Lib.hid hg
        obtain ⟨wk, hwk⟩ : ∃ wi : World, wi = wr := ⟨_, rfl⟩
        rw [← hwk]
        rw [← hwk] at HOZ HGZ
        clear ho hg hwk
        by_cases hkl : k = lo
        · have hd : decide ((k : Int) > (lo : Int)) = false := decide_eq_false (by omega)
          have hdi : decide ((lo : Int) < (k : Int)) = false := decide_eq_false (by omega)
          have hdn : decide (lo < k) = false := decide_eq_false (by omega)
          have hend := Lib.hid (insR_end hk1 HI.out (.inl hkl))
          clear hkl
          go_wp2_with fail
          go_quiet (fail)
          have HOW := Lib.hid (HOZ.out.drewN nq)
          have HGW := Lib.hid (grown_trans HGZ.out (grown_drewN wk nq _))
          clear HOZ HGZ
          generalize wk.drewN nq = wz at HOW HGW ⊢
          go_wp2
          go_roundg (hi - (i + 1))
          case measure => omega
          case rel => exact ⟨i + 1, zs, by go_num, by omega, .inl (by omega), by omega, HLZ, HRZ, HSZ, hend, HOW.out, HGW.out⟩
        · have hkp : lo < k := by omega
          obtain ⟨kp, rfl⟩ : ∃ kp, k = kp + 1 := ⟨k - 1, by omega⟩
          have hd : decide ((lo : Int) < (kp : Int) + 1) = true := decide_eq_true (by omega)
          have hz1 : kp + 1 < zs.length := by rw [HLZ.out]; omega
          have hixk := ownI_idx HOZ.out und_is siz_is (kp + 1) hz1 ((kp : Int) + 1) (by omega)
          have hixp := ownI_idx HOZ.out und_is siz_is kp (by omega) (kp : Int) rfl
          rw [HLZ.out] at hixk hixp
          obtain ⟨x, hx⟩ : ∃ x, at0 zs (kp + 1) = x := ⟨_, rfl⟩
          obtain ⟨y, hy⟩ : ∃ x, at0 zs kp = x := ⟨_, rfl⟩
          have hck := ownI_cell HOZ.out hz1 hx
          have hcp := ownI_cell HOZ.out (by omega) hy
          have hcmp := HC.out.neg x y (by rw [← hx]; exact (HT.out.perm HRZ.out.perm).at hz1) (by rw [← hy]; exact (HT.out.perm HRZ.out.perm).at (by omega))
          have hcall : ∀ n', Calls Try.prog F (#[.int .i64 (val x), .int .i64 (val y)] ++ caps) (wk.drewN n') fun e w'' => e = .returned (.int .i64 (cf x y)) ∧ ∃ q, w'' = (wk.drewN n').drewN q := fun n' =>
            HC.out.call _ (grown_trans HGZ.out (grown_drewN _ _ _)) x y (by rw [← hx]; exact (HT.out.perm HRZ.out.perm).at hz1) (by rw [← hy]; exact (HT.out.perm HRZ.out.perm).at (by omega))
          have hst := Stab.cmp HK.out HSZ.out (p := kp) (q := kp + 1) (by omega) hz1
          rw [hx, hy] at hst
          rw [hst] at hcmp
          have ew : IntKind.i64.wrap (kp : Int) = (kp : Int) := IntWalk.i64_in _ (by omega)
          have HXY0 := Lib.hid (And.intro hx hy)
          have eg := HC.out.enters
          have HCM := Lib.hid hcall
          clear hst hcall
          by_cases hxy : x < y
          · have hneg : decide (cf x y < 0) = true := by rw [hcmp]; exact decide_eq_true hxy
            have hI2 := Lib.hid (insR_step hkp hk1 (by rw [HLZ.out]; omega) HI.out (by rw [Nat.add_sub_cancel, hx, hy]; exact hxy))
            have hS2 := Lib.hid (HSZ.out.swp (k := kp + 1) (by omega) hz1 (by rw [Nat.add_sub_cancel, hx, hy]; exact hxy))
            have hR2 := Lib.hid (HRZ.out.trans (RP.swp zs (a := lo) (b := hi) (k := kp + 1) hkp (by omega) (by rw [HLZ.out]; omega)))
            have hL2 : Hid ((swp zs (kp + 1)).length = n) := Lib.hid (by rw [swp_len]; exact HLZ.out)
            have HXY := Lib.hid hxy
            clear hxy hcmp hx hy
            go_wp2_with fail
            go_quiet (first | (go_at_fn F; refine Calls.quiet_of (HCM.out _)))
            go_wp2_with fail
            have HOW := HOZ.out.drewN nq
            have HGW := grown_trans HGZ.out (grown_drewN wk nq _)
            clear HOZ HGZ hck hcp HCM
            generalize wk.drewN nq = wz at HOW HGW ⊢
            have hck := ownI_cell HOW hz1 HXY0.out.1
            have hcp := ownI_cell HOW (by omega) HXY0.out.2
            have hsw := swp2_of HOW hz1 (q := kp) (by omega) (x := x) (y := y) (swp_def HXY0.out.1 HXY0.out.2)
            have hfk := hsw.fp
            obtain ⟨v2, hcp2⟩ := hsw.c2
            have hfp2 := hsw.fq
            have HSW := Lib.hid hsw.own
            have HGW2 := Lib.hid (grown_trans HGW hsw.grown)
            clear hsw HOW HGW
            go_region
            all_goals go_wp2
            go_roundg (kp - lo)
            case measure => omega
            case rel => exact ⟨kp, swp zs (kp + 1), by first | rfl | go_num | (congr 1; omega), by omega, by omega, Nat.le_refl _, hL2, hR2, hS2, hI2, HSW.out, HGW2.out⟩
          · have hneg : decide (cf x y < 0) = false := by rw [hcmp]; exact decide_eq_false hxy
            have hend := Lib.hid (insR_end hk1 HI.out (.inr (by rw [Nat.add_sub_cancel, hx, hy]; omega)))
            have HXY := Lib.hid hxy
            clear hxy hcmp hx hy
            go_wp2_with fail
            go_quiet (first | (go_at_fn F; refine Calls.quiet_of (HCM.out _)))
            have HOW := Lib.hid (HOZ.out.drewN nq)
            have HGW := Lib.hid (grown_trans HGZ.out (grown_drewN wk nq _))
            clear HOZ HGZ hck hcp
            generalize wk.drewN nq = wz at HOW HGW ⊢
            go_wp2
            go_roundg (hi - (i + 1))
            case measure => omega
            case rel => exact ⟨i + 1, zs, by go_num, by omega, .inl (by omega), by omega, HLZ, HRZ, HSZ, hend, HOW.out, HGW.out⟩
    · have hltz : ¬ (i : Int) < (hi : Int) := by omega
      have HOY := Lib.hid ho
      have HG := Lib.hid hg
      have hA2 : ascR ys lo hi := HA.out.sub (Nat.le_refl _) (by omega)
      have HA2 := Lib.hid hA2
      clear ho hg hA2
      go_wp2
      go_end0
      exact ⟨rfl, ys, HOY.out, HG.out, HR.out, HA2.out⟩

end Go.Proofs.Ytihbckoldblpcaa
