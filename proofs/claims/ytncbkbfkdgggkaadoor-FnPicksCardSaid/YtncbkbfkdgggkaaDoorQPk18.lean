/- slices.SortStableFunc at []int64: the insertion of a block, two ranges exchanged. slices.SortStableFunc at []int64, on a list of the call's own. -/
import Derived.Test.YtncbkbfkdgggkaaDoorQPk16
import Derived.Test.YtncbkbfkdgggkaaDoorQPk17
import Derived.Test.YtncbkbfkdgggkaaDoorQPk6
set_option linter.unusedVariables false
set_option linter.unusedSimpArgs false
namespace Go.Proofs.YtncbkbfkdgggkaaDoor
open Go.RowKit

set_option maxRecDepth 8000 in
set_option maxHeartbeats 2000000 in
theorem insort_own {F : Nat} {caps : Array Value} {val K : Int → Int} {cf : Int → Int → Int} {T : Int → Prop} {w : World} {base : Nat} {a : Option Addr} {c : Nat} {ts : List Int} {lo hi : Nat}
    (ho : Own (vI val) 2 w base a c ts) (hn : ts.length ≤ 1048576) (hlh : lo ≤ hi) (hh : hi ≤ ts.length) (hc : CmpOk Tryd.prog F caps w (a.map (·.block)) val K cf T) (hT : All T ts) (hK : Mono K) (hS : Stab K ts) :
    Calls Tryd.prog 78 #[.slice a ts.length c, .int .i64 lo, .int .i64 hi, .func (.func F) #[] caps] w fun e w' =>
      e = .returned (.tuple #[]) ∧ ∃ zs, Own (vI val) 2 w' base a c zs ∧ w.grownBy w' (a.map (·.block)) ∧ RP lo hi ts zs ∧ ascR zs lo hi := by
  have HS := Lib.hid hS
  have HO := Lib.hid ho
  have HC : Aside _ := hc
  have HT := Lib.hid hT
  have HK := Lib.hid hK
  obtain ⟨n, hnn⟩ : ∃ n, ts.length = n := ⟨_, rfl⟩
  have HN := Lib.hid hnn
  rw [hnn] at hh hn ⊢
  clear hS ho hc hT hK hnn
  go_enter Tryd.func78, Tryd.ntmps78
  go_wp2
  go_loopg [8] (hi - lo) (fun g1 vi wr => ∃ (i : Nat) (ys : List Int), vi = .int .i64 i ∧ lo < i ∧ (i ≤ hi ∨ i = lo + 1) ∧ hi - i ≤ g1 ∧ Hid (ys.length = n) ∧ Hid (RP lo hi ts ys) ∧ Hid (Stab K ys) ∧ Hid (ascR ys lo i) ∧ Own (vI val) 2 wr base a c ys ∧ w.grownBy wr (a.map (·.block)))
  case atStart => exact ⟨lo + 1, ts, by go_num, by omega, .inr rfl, by omega, HN, Lib.hid (RP.refl _ _ _), HS, Lib.hid (ascR_one _ _), HO.out, grown_refl _ _⟩
  case round =>
    obtain ⟨i, ys, rfl, hi0, hi1, hg1, HL, HR, HSY, HA, ho, hg⟩ := hrel
    by_cases hlt : i < hi
    · have hltz : (i : Int) < (hi : Int) := by omega
      have HOY := Lib.hid ho
      have HG := Lib.hid hg
      obtain ⟨wi, hwi⟩ : ∃ wi : World, wi = wr := ⟨_, rfl⟩
      rw [← hwi]
      rw [← hwi] at HOY HG
      clear ho hg hwi
      go_wp2
      go_loopg [9] (i - lo) (fun g2 vj wr2 => ∃ (k : Nat) (zs : List Int), vj = .int .i64 k ∧ lo ≤ k ∧ k ≤ i ∧ k - lo ≤ g2 ∧ Hid (zs.length = n) ∧ Hid (RP lo hi ts zs) ∧ Hid (Stab K zs) ∧ Hid (InsR zs lo k i) ∧ Own (vI val) 2 wr2 base a c zs ∧ w.grownBy wr2 (a.map (·.block)))
      case atStart => exact ⟨i, ys, rfl, by omega, Nat.le_refl _, Nat.le_refl _, HL, HR, HSY, Lib.hid (insR_start HA.out), HOY.out, HG.out⟩
      case round =>
        obtain ⟨k, zs, rfl, hk0, hk1, hg2, HLZ, HRZ, HSZ, HI, ho, hg⟩ := hrel
        have HOZ := Lib.hid ho
        have HGZ := Lib.hid hg
        obtain ⟨wk, hwk⟩ : ∃ wi : World, wi = wr := ⟨_, rfl⟩
        rw [← hwk]
        rw [← hwk] at HOZ HGZ
        clear ho hg hwk
        by_cases hkl : k = lo
        · have hd : decide ((k : Int) > (lo : Int)) = false := decide_eq_false (by omega)
          have hdi : decide ((lo : Int) < (k : Int)) = false := decide_eq_false (by omega)
          have hdn : decide (lo < k) = false := decide_eq_false (by omega)
          have hend := Lib.hid (insR_end hk1 HI.out (.inl hkl))
          clear hkl
          go_wp2_with fail
          go_quiet (fail)
          have HOW := Lib.hid (HOZ.out.drewN nq)
          have HGW := Lib.hid (grown_trans HGZ.out (grown_drewN wk nq _))
          clear HOZ HGZ
          generalize wk.drewN nq = wz at HOW HGW ⊢
          go_wp2
          go_roundg (hi - (i + 1))
          case measure => omega
          case rel => exact ⟨i + 1, zs, by go_num, by omega, .inl (by omega), by omega, HLZ, HRZ, HSZ, hend, HOW.out, HGW.out⟩
        · have hkp : lo < k := by omega
          obtain ⟨kp, rfl⟩ : ∃ kp, k = kp + 1 := ⟨k - 1, by omega⟩
          have hd : decide ((lo : Int) < (kp : Int) + 1) = true := decide_eq_true (by omega)
          have hz1 : kp + 1 < zs.length := by rw [HLZ.out]; omega
          have hixk := ownI_idx HOZ.out und_is siz_is (kp + 1) hz1 ((kp : Int) + 1) (by omega)
          have hixp := ownI_idx HOZ.out und_is siz_is kp (by omega) (kp : Int) rfl
          rw [HLZ.out] at hixk hixp
          obtain ⟨x, hx⟩ : ∃ x, at0 zs (kp + 1) = x := ⟨_, rfl⟩
          obtain ⟨y, hy⟩ : ∃ x, at0 zs kp = x := ⟨_, rfl⟩
          have hck := ownI_cell HOZ.out hz1 hx
          have hcp := ownI_cell HOZ.out (by omega) hy
          have hcmp := HC.out.neg x y (by rw [← hx]; exact (HT.out.perm HRZ.out.perm).at hz1) (by rw [← hy]; exact (HT.out.perm HRZ.out.perm).at (by omega))
          have hcall : ∀ n', Calls Tryd.prog F (#[.int .i64 (val x), .int .i64 (val y)] ++ caps) (wk.drewN n') fun e w'' => e = .returned (.int .i64 (cf x y)) ∧ ∃ q, w'' = (wk.drewN n').drewN q := fun n' =>
            HC.out.call _ (grown_trans HGZ.out (grown_drewN _ _ _)) x y (by rw [← hx]; exact (HT.out.perm HRZ.out.perm).at hz1) (by rw [← hy]; exact (HT.out.perm HRZ.out.perm).at (by omega))
          have hst := Stab.cmp HK.out HSZ.out (p := kp) (q := kp + 1) (by omega) hz1
          rw [hx, hy] at hst
          rw [hst] at hcmp
          have ew : IntKind.i64.wrap (kp : Int) = (kp : Int) := IntWalk.i64_in _ (by omega)
          have HXY0 := Lib.hid (And.intro hx hy)
          have eg := HC.out.enters
          have HCM := Lib.hid hcall
          clear hst hcall
          by_cases hxy : x < y
          · have hneg : decide (cf x y < 0) = true := by rw [hcmp]; exact decide_eq_true hxy
            have hI2 := Lib.hid (insR_step hkp hk1 (by rw [HLZ.out]; omega) HI.out (by rw [Nat.add_sub_cancel, hx, hy]; exact hxy))
            have hS2 := Lib.hid (HSZ.out.swp (k := kp + 1) (by omega) hz1 (by rw [Nat.add_sub_cancel, hx, hy]; exact hxy))
            have hR2 := Lib.hid (HRZ.out.trans (RP.swp zs (a := lo) (b := hi) (k := kp + 1) hkp (by omega) (by rw [HLZ.out]; omega)))
            have hL2 : Hid ((swp zs (kp + 1)).length = n) := Lib.hid (by rw [swp_len]; exact HLZ.out)
            have HXY := Lib.hid hxy
            clear hxy hcmp hx hy
            go_wp2_with fail
            go_quiet (first | (go_at_fn F; refine Calls.quiet_of (HCM.out _)))
            go_wp2_with fail
            have HOW := HOZ.out.drewN nq
            have HGW := grown_trans HGZ.out (grown_drewN wk nq _)
            clear HOZ HGZ hck hcp HCM
            generalize wk.drewN nq = wz at HOW HGW ⊢
            have hck := ownI_cell HOW hz1 HXY0.out.1
            have hcp := ownI_cell HOW (by omega) HXY0.out.2
            have hsw := swp2_of HOW hz1 (q := kp) (by omega) (x := x) (y := y) (swp_def HXY0.out.1 HXY0.out.2)
            have hfk := hsw.fp
            obtain ⟨v2, hcp2⟩ := hsw.c2
            have hfp2 := hsw.fq
            have HSW := Lib.hid hsw.own
            have HGW2 := Lib.hid (grown_trans HGW hsw.grown)
            clear hsw HOW HGW
            go_region
            all_goals go_wp2
            go_roundg (kp - lo)
            case measure => omega
            case rel => exact ⟨kp, swp zs (kp + 1), by first | rfl | go_num | (congr 1; omega), by omega, by omega, Nat.le_refl _, hL2, hR2, hS2, hI2, HSW.out, HGW2.out⟩
          · have hneg : decide (cf x y < 0) = false := by rw [hcmp]; exact decide_eq_false hxy
            have hend := Lib.hid (insR_end hk1 HI.out (.inr (by rw [Nat.add_sub_cancel, hx, hy]; omega)))
            have HXY := Lib.hid hxy
            clear hxy hcmp hx hy
            go_wp2_with fail
            go_quiet (first | (go_at_fn F; refine Calls.quiet_of (HCM.out _)))
            have HOW := Lib.hid (HOZ.out.drewN nq)
            have HGW := Lib.hid (grown_trans HGZ.out (grown_drewN wk nq _))
            clear HOZ HGZ hck hcp
            generalize wk.drewN nq = wz at HOW HGW ⊢
            go_wp2
            go_roundg (hi - (i + 1))
            case measure => omega
            case rel => exact ⟨i + 1, zs, by go_num, by omega, .inl (by omega), by omega, HLZ, HRZ, HSZ, hend, HOW.out, HGW.out⟩
    · have hltz : ¬ (i : Int) < (hi : Int) := by omega
      have HOY := Lib.hid ho
      have HG := Lib.hid hg
      have hA2 : ascR ys lo hi := HA.out.sub (Nat.le_refl _) (by omega)
      have HA2 := Lib.hid hA2
      clear ho hg hA2
      go_wp2
      go_end0
      exact ⟨rfl, ys, HOY.out, HG.out, HR.out, HA2.out⟩

end Go.Proofs.YtncbkbfkdgggkaaDoor

namespace Go.Proofs.YtncbkbfkdgggkaaDoor
open Go.RowKit

/-- What the merge promises, for all parts of at most n elements. -/
def MergeAll (val K : Int → Int) (cf : Int → Int → Int) (T : Int → Prop) (F : Nat) (caps : Array Value) (n : Nat) : Prop :=
  ∀ {w : World} {base : Nat} {a : Option Addr} {c : Nat} {ts : List Int} {lo m hi : Nat}, hi - lo ≤ n → Own (vI val) 2 w base a c ts → ts.length ≤ 1048576 → lo < m → m < hi → hi ≤ ts.length →
    CmpOk Tryd.prog F caps w (a.map (·.block)) val K cf T → All T ts → Stab K ts → ascR ts lo m → ascR ts m hi →
    Calls Tryd.prog 79 #[.slice a ts.length c, .int .i64 lo, .int .i64 m, .int .i64 hi, .func (.func F) #[] caps] w fun e w' => e = .returned (.tuple #[]) ∧ MergedW val w base a c ts lo hi w'

/-- What stands behind a sort. -/
def SortedW (val : Int → Int) (w : World) (base : Nat) (a : Option Addr) (c : Nat) (ts : List Int) (e : Ending) (w' : World) : Prop :=
  e = .returned (.tuple #[]) ∧ Own (vI val) 2 w' base a c (srt ts) ∧ w.grownBy w' (a.map (·.block))

set_option maxRecDepth 8000 in
set_option maxHeartbeats 4000000 in
theorem stable_own {F : Nat} {caps : Array Value} {val K : Int → Int} {cf : Int → Int → Int} {T : Int → Prop} {w : World} {base : Nat} {a : Option Addr} {c : Nat} {ts : List Int}
    (ho : Own (vI val) 2 w base a c ts) (hn : ts.length ≤ 1048576) (hc : CmpOk Tryd.prog F caps w (a.map (·.block)) val K cf T) (hT : All T ts) (hK : Mono K) (hS : Stab K ts) (hMD : ∀ n, MergeAll val K cf T F caps n) :
    Calls Tryd.prog 72 #[.slice a ts.length c, .int .i64 ts.length, .func (.func F) #[] caps] w (SortedW val w base a c ts) := by
  have HMD : Hid (∀ n, MergeAll val K cf T F caps n) := hMD
  have HS := Lib.hid hS
  have HO := Lib.hid ho
  have HC : Aside _ := hc
  have HT := Lib.hid hT
  have HK := Lib.hid hK
  obtain ⟨n, hnn⟩ : ∃ n, ts.length = n := ⟨_, rfl⟩
  have HN := Lib.hid hnn
  rw [hnn] at hn ⊢
  clear hS ho hc hT hK hnn hMD
  go_enter Tryd.func72, Tryd.ntmps72
  go_wp2
  go_loopg [7, 8] n (fun g1 va vb wr => ∃ (q : Nat) (ys : List Int), va = .int .i64 q ∧ vb = .int .i64 ((q + 20 : Nat) : Int) ∧ q ≤ n ∧ n - q ≤ g1 ∧ Hid (∃ k, q = k * 20) ∧ Hid (ys.length = n) ∧ Hid (RP 0 n ts ys) ∧ Hid (Stab K ys) ∧ Hid (blkAsc ys 20 0 q) ∧ Own (vI val) 2 wr base a c ys ∧ w.grownBy wr (a.map (·.block)))
  case atStart => exact ⟨0, ts, rfl, rfl, by omega, by omega, Lib.hid ⟨0, rfl⟩, HN, Lib.hid (RP.refl _ _ _), HS, Lib.hid (blkAsc_nil _ (Nat.le_refl _)), HO.out, grown_refl _ _⟩
  case round =>
    obtain ⟨q, ys, rfl, rfl, hqn, hg1, HQ, HL, HR, HSY, HB, ho, hg⟩ := hrel
    have HOY := Lib.hid ho
    have HG := Lib.hid hg
    clear ho hg
    by_cases hlt : q + 20 ≤ n
    · have hltz : ((q + 20 : Nat) : Int) ≤ (n : Int) := by omega
      have hI := insort_own HOY.out (by rw [HL.out]; exact hn) (lo := q) (hi := q + 20) (by omega) (by rw [HL.out]; exact hlt) (HC.out.grown HG.out) (HT.out.perm HR.out.perm) HK.out HSY.out
      rw [HL.out] at hI
      have HI := Lib.hid hI
      have ew1 : IntKind.i64.wrap ((q : Int) + 20 + 20) = ((q + 20 + 20 : Nat) : Int) := by rw [IntWalk.i64_in _ (by omega)]; omega
      have ew2 : IntKind.i64.wrap (((q + 20 : Nat) : Int) + 20) = ((q + 20 + 20 : Nat) : Int) := by rw [IntWalk.i64_in _ (by omega)]; omega
      clear hI
      go_wp2_with fail
      refine HI.out.mono ?_
      rintro e w1 ⟨rfl, zs, ho1, hg1', hr1, ha1⟩
      have HO1 := Lib.hid ho1
      have HG1 := Lib.hid (grown_trans HG.out hg1')
      have hL1 : zs.length = n := by rw [hr1.len]; exact HL.out
      have HL1 := Lib.hid hL1
      have HR1 := Lib.hid (HR.out.trans (hr1.wide (Nat.zero_le _) hlt))
      have HS1 := Lib.hid (HSY.out.asc hr1 ha1 (by rw [HL.out]; exact hlt))
      have HB1 : Hid (blkAsc zs 20 0 (q + 20)) := by obtain ⟨k, hk⟩ := HQ.out; exact Lib.hid (blk_snoc hk (by omega) (Nat.le_refl _) HB.out hr1 ha1)
      have HQ1 : Hid (∃ k, q + 20 = k * 20) := by obtain ⟨k, hk⟩ := HQ.out; exact Lib.hid ⟨k + 1, by omega⟩
      clear ho1 hg1' hr1 ha1 hL1 HI
      go_wp2
      go_roundg (n - (q + 20))
      case measure => omega
      case rel => exact ⟨q + 20, zs, rfl, rfl, by omega, by omega, HQ1, HL1, HR1, HS1, HB1, HO1.out, HG1.out⟩
    · have hltz : ¬ ((q + 20 : Nat) : Int) ≤ (n : Int) := by omega
      have hI := insort_own HOY.out (by rw [HL.out]; exact hn) (lo := q) (hi := n) (by omega) (by rw [HL.out]; omega) (HC.out.grown HG.out) (HT.out.perm HR.out.perm) HK.out HSY.out
      rw [HL.out] at hI
      have HI := Lib.hid hI
      clear hI
      go_wp2_with fail
      refine HI.out.mono ?_
      rintro e w1 ⟨rfl, zs, ho1, hg1', hr1, ha1⟩
      have HO1 := Lib.hid ho1
      have HG1 := Lib.hid (grown_trans HG.out hg1')
      have hL1 : zs.length = n := by rw [hr1.len]; exact HL.out
      have HL1 := Lib.hid hL1
      have HR1 := Lib.hid (HR.out.trans (hr1.wide (Nat.zero_le _) (Nat.le_refl _)))
      have HS1 := Lib.hid (HSY.out.asc hr1 ha1 (by rw [HL.out]; omega))
      have HB1 : Hid (blkAsc zs 20 0 n) := by obtain ⟨k, hk⟩ := HQ.out; exact Lib.hid (blk_snoc hk (by omega) (by omega) HB.out hr1 ha1)
      clear ho1 hg1' hr1 ha1 hL1 HI HL HR HSY HB HOY HG HQ hlt hltz hqn hg1
      go_wp2
      go_loopg [6, 7, 8, 9] n (fun g1 vs _ _ _ wr => ∃ (s : Nat) (ys : List Int), vs = .int .i64 s ∧ 20 ≤ s ∧ s ≤ 2 * n + 20 ∧ n - s ≤ g1 ∧ Hid (ys.length = n) ∧ Hid (RP 0 n ts ys) ∧ Hid (Stab K ys) ∧ Hid (blkAsc ys s 0 n) ∧ Own (vI val) 2 wr base a c ys ∧ w.grownBy wr (a.map (·.block)))
      case atStart => exact ⟨20, zs, rfl, by omega, by omega, by omega, HL1, HR1, HS1, HB1, HO1.out, HG1.out⟩
      case round =>
        clear HL1 HR1 HS1 HB1 HO1 HG1
        obtain ⟨s, ys, rfl, hs0, hs1, hg1, HL, HR, HSY, HB, ho, hg⟩ := hrel
        have HOY := Lib.hid ho
        have HG := Lib.hid hg
        obtain ⟨wi, hwi⟩ : ∃ wi : World, wi = wr := ⟨_, rfl⟩
        rw [← hwi]
        rw [← hwi] at HOY HG
        clear ho hg hwi
        by_cases hlt : s < n
        · have hltz : (s : Int) < (n : Int) := by omega
          have ew1 : IntKind.i64.wrap (2 * (s : Int)) = ((2 * s : Nat) : Int) := by rw [IntWalk.i64_in _ (by omega)]; omega
          go_wp2
          go_loopg [7, 8] n (fun g2 va vb wr => ∃ (q : Nat) (zs : List Int), va = .int .i64 q ∧ vb = .int .i64 ((q + 2 * s : Nat) : Int) ∧ q ≤ n ∧ n - q ≤ g2 ∧ Hid (∃ k, q = k * (2 * s)) ∧ Hid (zs.length = n) ∧ Hid (RP 0 n ts zs) ∧ Hid (Stab K zs) ∧ Hid (blkAsc zs (2 * s) 0 q) ∧ Hid (blkAsc zs s q n) ∧ Own (vI val) 2 wr base a c zs ∧ w.grownBy wr (a.map (·.block)))
          case atStart => exact ⟨0, ys, rfl, by first | rfl | (congr 1; omega), by omega, by omega, Lib.hid ⟨0, by simp⟩, HL, HR, HSY, Lib.hid (blkAsc_nil _ (Nat.le_refl _)), HB, HOY.out, HG.out⟩
          case round =>
            obtain ⟨q, zs, rfl, rfl, hqn, hg2, HQ, HLZ, HRZ, HSZ, HB2, HBS, ho, hg⟩ := hrel
            have HOZ := Lib.hid ho
            have HGZ := Lib.hid hg
            clear ho hg
            have ew2 : IntKind.i64.wrap ((q : Int) + s) = ((q + s : Nat) : Int) := by rw [IntWalk.i64_in _ (by omega)]; omega
            by_cases hq2 : q + 2 * s ≤ n
            · have hqz : ((q + 2 * s : Nat) : Int) ≤ (n : Int) := by omega
              have ew3 : IntKind.i64.wrap (((q + 2 * s : Nat) : Int) + ((2 * s : Nat) : Int)) = ((q + 2 * s + 2 * s : Nat) : Int) := by rw [IntWalk.i64_in _ (by omega)]; omega
              have hM := (show ∀ n, MergeAll val K cf T F caps n from HMD) (2 * s) (lo := q) (m := q + s) (hi := q + 2 * s) (by omega) HOZ.out (by rw [HLZ.out]; exact hn) (by omega) (by omega) (by rw [HLZ.out]; exact hq2)
                (HC.out.grown HGZ.out) (HT.out.perm HRZ.out.perm) HSZ.out (by obtain ⟨k, hk⟩ := HQ.out; exact blk_l hk (by omega) HBS.out (by omega)) (by obtain ⟨k, hk⟩ := HQ.out; exact blk_r hk (by omega) HBS.out hq2)
              rw [HLZ.out] at hM
              have HM := Lib.hid hM
              clear hM
              go_wp2_with fail
              refine HM.out.mono ?_
              rintro e w1 ⟨rfl, us, ho1, hg1', hr1, ha1⟩
              have HO1 := Lib.hid ho1
              have HG1 := Lib.hid (grown_trans HGZ.out hg1')
              have hL1 : us.length = n := by rw [hr1.len]; exact HLZ.out
              have HL1 := Lib.hid hL1
              have HR1 := Lib.hid (HRZ.out.trans (hr1.wide (Nat.zero_le _) hq2))
              have HS1 := Lib.hid (HSZ.out.asc hr1 ha1 (by rw [HLZ.out]; exact hq2))
              have HB1 : Hid (blkAsc us (2 * s) 0 (q + 2 * s)) := by obtain ⟨k, hk⟩ := HQ.out; exact Lib.hid (blk_snoc hk (by omega) (Nat.le_refl _) HB2.out hr1 ha1)
              have HBS1 : Hid (blkAsc us s (q + 2 * s) n) := Lib.hid (blk_tail HBS.out (by omega) hr1)
              have HQ1 : Hid (∃ k, q + 2 * s = k * (2 * s)) := by obtain ⟨k, hk⟩ := HQ.out; exact Lib.hid ⟨k + 1, by rw [Nat.add_mul, Nat.one_mul, ← hk]⟩
              clear ho1 hg1' hr1 ha1 hL1 HM
              go_wp2
              go_roundg (n - (q + 2 * s))
              case measure => omega
              case rel => exact ⟨q + 2 * s, us, rfl, rfl, by omega, by omega, HQ1, HL1, HR1, HS1, HB1, HBS1, HO1.out, HG1.out⟩
            · have hqz : ¬ ((q + 2 * s : Nat) : Int) ≤ (n : Int) := by omega
              have ew4 : IntKind.i64.wrap ((s : Int) * 2) = ((2 * s : Nat) : Int) := by rw [IntWalk.i64_in _ (by omega)]; omega
              by_cases hm : q + s < n
              · have hmz : ((q + s : Nat) : Int) < (n : Int) := by omega
                have hM := (show ∀ n, MergeAll val K cf T F caps n from HMD) (2 * s) (lo := q) (m := q + s) (hi := n) (by omega) HOZ.out (by rw [HLZ.out]; exact hn) (by omega) (by omega) (by rw [HLZ.out]; omega)
                  (HC.out.grown HGZ.out) (HT.out.perm HRZ.out.perm) HSZ.out (by obtain ⟨k, hk⟩ := HQ.out; exact blk_l hk (by omega) HBS.out (by omega)) (by obtain ⟨k, hk⟩ := HQ.out; exact blk_rn hk HBS.out hm (by omega))
                rw [HLZ.out] at hM
                have HM := Lib.hid hM
                clear hM
                go_wp2_with fail
                refine HM.out.mono ?_
                rintro e w1 ⟨rfl, us, ho1, hg1', hr1, ha1⟩
                have HO1 := Lib.hid ho1
                have HG1 := Lib.hid (grown_trans HGZ.out hg1')
                have hL1 : us.length = n := by rw [hr1.len]; exact HLZ.out
                have HL1 := Lib.hid hL1
                have HR1 := Lib.hid (HRZ.out.trans (hr1.wide (Nat.zero_le _) (Nat.le_refl _)))
                have HS1 := Lib.hid (HSZ.out.asc hr1 ha1 (by rw [HLZ.out]; omega))
                have HB1 : Hid (blkAsc us (2 * s) 0 n) := by obtain ⟨k, hk⟩ := HQ.out; exact Lib.hid (blk_snoc hk (by omega) (by omega) HB2.out hr1 ha1)
                clear ho1 hg1' hr1 ha1 hL1 HM
                go_wp2
                go_roundg (n - 2 * s)
                case measure => omega
                case rel => exact ⟨2 * s, us, rfl, by omega, by omega, by omega, HL1, HR1, HS1, HB1, HO1.out, HG1.out⟩
              · have hmz : ¬ ((q + s : Nat) : Int) < (n : Int) := by omega
                have HB1 : Hid (blkAsc zs (2 * s) 0 n) := by obtain ⟨k, hk⟩ := HQ.out; exact Lib.hid (blk_snoc hk hqn (by omega) HB2.out (RP.refl _ _ _) (blk_ln hk HBS.out (by omega)))
                go_wp2
                go_roundg (n - 2 * s)
                case measure => omega
                case rel => exact ⟨2 * s, zs, rfl, by omega, by omega, by omega, HLZ, HRZ, HSZ, HB1, HOZ.out, HGZ.out⟩
        · have hltz : ¬ (s : Int) < (n : Int) := by omega
          have HE := Lib.hid (srt_asc HN.out HR.out (HB.out.all (by omega)))
          go_wp2
          go_end0
          exact ⟨rfl, HOY.out.cast HE.out, HG.out⟩

theorem sortStableM_own {F : Nat} {caps : Array Value} {val K : Int → Int} {cf : Int → Int → Int} {T : Int → Prop} {w : World} {base : Nat} {a : Option Addr} {c : Nat} {ts : List Int}
    (ho : Own (vI val) 2 w base a c ts) (hn : ts.length ≤ 1048576) (hc : CmpOk Tryd.prog F caps w (a.map (·.block)) val K cf T) (hT : All T ts) (hK : Mono K) (hS : Stab K ts) (hMD : ∀ n, MergeAll val K cf T F caps n) :
    Calls Tryd.prog 53 #[.slice a ts.length c, .func (.func F) #[] caps] w (SortedW val w base a c ts) := by
  have HST := Lib.hid (stable_own ho hn hc hT hK hS hMD)
  clear hc hS ho hMD
  go_enter Tryd.func53, Tryd.ntmps53
  go_wp2_with fail
  refine HST.out.mono ?_
  rintro e w1 ⟨rfl, ho1, hg1⟩
  have HO1 := Lib.hid ho1
  have HG1 := Lib.hid hg1
  clear ho1 hg1
  go_wp2
  go_end0
  exact ⟨rfl, HO1.out, HG1.out⟩

end Go.Proofs.YtncbkbfkdgggkaaDoor
