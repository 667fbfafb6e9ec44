/- slices.SortStableFunc at []int64: two parts in order are merged by turning. -/
import Derived.Test.YtncbkbfkdgggkaaDoorQPk16
set_option linter.unusedVariables false
set_option linter.unusedSimpArgs false
namespace Go.Proofs.YtncbkbfkdgggkaaDoor
open Go.RowKit

/-- What stands behind a merge. -/
def MergedW (val : Int → Int) (w : World) (base : Nat) (a : Option Addr) (c : Nat) (ts : List Int) (lo hi : Nat) (w' : World) : Prop :=
  ∃ zs, Own (vI val) 2 w' base a c zs ∧ w.grownBy w' (a.map (·.block)) ∧ RP lo hi ts zs ∧ ascR zs lo hi

/-- What a call of the closure is worth in a search. -/
theorem cmp_at {P : Program} {F : Nat} {caps : Array Value} {val K : Int → Int} {cf : Int → Int → Int} {T : Int → Prop} {w wk : World} {row : Option Nat} {ts : List Int}
    (hc : CmpOk P F caps w row val K cf T) (hT : All T ts) (hK : Mono K) (hS : Stab K ts) (hg : w.grownBy wk row) {p q : Nat} (hpq : p < q) (hq : q < ts.length) {x y : Int} (hx : at0 ts q = x) (hy : at0 ts p = y) :
    (∀ n', Calls P F (#[.int .i64 (val x), .int .i64 (val y)] ++ caps) (wk.drewN n') fun e w'' => e = .returned (.int .i64 (cf x y)) ∧ ∃ q, w'' = (wk.drewN n').drewN q) ∧ decide (cf x y < 0) = decide (x < y) := by
  have t1 : T x := by rw [← hx]; exact hT.at hq
  have t2 : T y := by rw [← hy]; exact hT.at (by omega)
  refine ⟨fun n' => hc.call _ (grown_trans hg (grown_drewN _ _ _)) x y t1 t2, ?_⟩
  rw [hc.neg x y t1 t2, ← hx, ← hy]
  exact Stab.cmp hK hS hpq hq

set_option maxRecDepth 8000 in
set_option maxHeartbeats 4000000 in
theorem symm1_own {F : Nat} {caps : Array Value} {val K : Int → Int} {cf : Int → Int → Int} {T : Int → Prop} {w : World} {base : Nat} {a : Option Addr} {c : Nat} {ts : List Int} {lo hi : Nat}
    (ho : Own (vI val) 2 w base a c ts) (hn : ts.length ≤ 1048576) (h2 : lo + 1 < hi) (hh : hi ≤ ts.length) (hc : CmpOk Tryd.prog F caps w (a.map (·.block)) val K cf T) (hT : All T ts) (hK : Mono K) (hS : Stab K ts) (hB : ascR ts (lo + 1) hi) :
    Calls Tryd.prog 79 #[.slice a ts.length c, .int .i64 lo, .int .i64 ((lo + 1 : Nat) : Int), .int .i64 hi, .func (.func F) #[] caps] w fun e w' =>
      e = .returned (.tuple #[]) ∧ MergedW val w base a c ts lo hi w' := by
  have HS := Lib.hid hS
  have HO := Lib.hid ho
  have HC : Aside _ := hc
  have HT := Lib.hid hT
  have HK := Lib.hid hK
  have HB := Lib.hid hB
  obtain ⟨n, hnn⟩ : ∃ n, ts.length = n := ⟨_, rfl⟩
  have HN := Lib.hid hnn
  rw [hnn] at hh hn ⊢
  have ew0 : IntKind.i64.wrap (((lo + 1 : Nat) : Int) - lo) = 1 := by rw [IntWalk.i64_in _ (by omega)]; omega
  obtain ⟨m, hm⟩ : ∃ m, m = lo + 1 := ⟨_, rfl⟩
  rw [← hm] at ew0 ⊢
  have HM := Lib.hid hm
  clear hS ho hc hT hK hnn hB hm
  go_enter Tryd.func79, Tryd.ntmps79
  go_wp2
  go_loopg [10, 11, 12] (hi - lo) (fun g1 vi vj _ wr => ∃ (i j : Nat), vi = .int .i64 i ∧ vj = .int .i64 j ∧ lo + 1 ≤ i ∧ i ≤ j ∧ j ≤ hi ∧ j - i ≤ g1 ∧ Hid (∀ k, lo + 1 ≤ k → k < i → at0 ts k < at0 ts lo) ∧ Hid (∀ k, j ≤ k → k < hi → at0 ts lo ≤ at0 ts k) ∧ Own (vI val) 2 wr base a c ts ∧ w.grownBy wr (a.map (·.block)))
  case atStart => exact ⟨m, hi, rfl, rfl, by have := HM.out; omega, by have := HM.out; omega, by omega, by have := HM.out; omega, Lib.hid (fun k h1 h2 => by have := HM.out; omega), Lib.hid (fun k h1 h2 => by omega), HO.out, grown_refl _ _⟩
  case round =>
    obtain ⟨i, j, rfl, rfl, hi0, hij, hj0, hg1, HL, HR, ho, hg⟩ := hrel
    have HOI := Lib.hid ho
    have HG := Lib.hid hg
    obtain ⟨wi, hwi⟩ : ∃ wi : World, wi = wr := ⟨_, rfl⟩
    rw [← hwi]
    rw [← hwi] at HOI HG
    clear ho hg hwi
    by_cases hlt : i < j
    · have hltz : (i : Int) < (j : Int) := by omega
      obtain ⟨h, hh0⟩ : ∃ h, h = (i + j) / 2 := ⟨_, rfl⟩
      have hhi : i ≤ h ∧ h < j := by omega
      obtain ⟨x, hx⟩ : ∃ x, at0 ts h = x := ⟨_, rfl⟩
      obtain ⟨y, hy⟩ : ∃ x, at0 ts lo = x := ⟨_, rfl⟩
      have hcm := cmp_at HC.out HT.out HK.out HS.out HG.out (p := lo) (q := h) (by omega) (by rw [HN.out]; omega) hx hy
      have HCM := Lib.hid hcm.1
      have hcmp := hcm.2
      have eg := HC.out.enters
      have hixh := ownI_idx HOI.out und_is siz_is h (by rw [HN.out]; omega) (h : Int) rfl
      have hixl := ownI_idx HOI.out und_is siz_is lo (by rw [HN.out]; omega) (lo : Int) rfl
      rw [HN.out] at hixh hixl
      have hch := ownI_cell HOI.out (by rw [HN.out]; omega) hx
      have hcl := ownI_cell HOI.out (by rw [HN.out]; omega) hy
      have ew1 : IntKind.i64.wrap ((i : Int) + j) = (i : Int) + j := IntWalk.i64_in _ (by omega)
      have ew2 : IntKind.u64.wrap ((i : Int) + j) = (i : Int) + j := by rw [IntKind.wrap_u64]; omega
      have ew3 : ((i : Int) + j) / 2 = (h : Int) := by omega
      have ew4 : IntKind.i64.wrap (h : Int) = (h : Int) := IntWalk.i64_in _ (by omega)
      have ew5 : IntKind.i64.wrap ((h : Int) + 1) = (h : Int) + 1 := IntWalk.i64_in _ (by omega)
      clear hcm
      by_cases hxy : x < y
      · have hneg : decide (cf x y < 0) = true := by rw [hcmp]; exact decide_eq_true hxy
        have HL2 := Lib.hid (show ∀ k, lo + 1 ≤ k → k < h + 1 → at0 ts k < at0 ts lo from fun k h1 h2 => by
          have := HB.out.le (p := k) (q := h) h1 (by omega) (by omega)
          omega)
        clear hcmp hx hy hxy hh0
        go_wp2_with fail
        go_quiet (first | (go_at_fn F; refine Calls.quiet_of (HCM.out _)))
        have HOW := Lib.hid (HOI.out.drewN nq)
        have HGW := Lib.hid (grown_trans HG.out (grown_drewN wi nq _))
        clear HOI HG hch hcl HCM
        generalize wi.drewN nq = wz at HOW HGW ⊢
        go_wp2
        go_roundg (j - (h + 1))
        case measure => omega
        case rel => exact ⟨h + 1, j, by go_num, rfl, by omega, by omega, by omega, by omega, HL2, HR, HOW.out, HGW.out⟩
      · have hneg : decide (cf x y < 0) = false := by rw [hcmp]; exact decide_eq_false hxy
        have HR2 := Lib.hid (show ∀ k, h ≤ k → k < hi → at0 ts lo ≤ at0 ts k from fun k h1 h2 => by
          have := HB.out.le (p := h) (q := k) (by omega) h1 h2
          omega)
        clear hcmp hx hy hxy hh0
        go_wp2_with fail
        go_quiet (first | (go_at_fn F; refine Calls.quiet_of (HCM.out _)))
        have HOW := Lib.hid (HOI.out.drewN nq)
        have HGW := Lib.hid (grown_trans HG.out (grown_drewN wi nq _))
        clear HOI HG hch hcl HCM
        generalize wi.drewN nq = wz at HOW HGW ⊢
        go_wp2
        go_roundg (h - i)
        case measure => omega
        case rel => exact ⟨i, h, rfl, by go_num, by omega, by omega, by omega, by omega, HL, HR2, HOW.out, HGW.out⟩
    · have hltz : ¬ (i : Int) < (j : Int) := by omega
      obtain rfl : i = j := by omega
      have ew6 : IntKind.i64.wrap ((i : Int) - 1) = ((i - 1 : Nat) : Int) := by rw [IntWalk.i64_in _ (by omega)]; omega
      go_wp2
      go_loopg [13] hi (fun g2 vk wr2 => ∃ (k : Nat) (zs : List Int), vk = .int .i64 k ∧ lo ≤ k ∧ k ≤ i - 1 ∧ i - k ≤ g2 ∧ Hid (zs.length = n) ∧ Hid (RP lo hi ts zs) ∧ Hid (Fwd ts zs lo k) ∧ Own (vI val) 2 wr2 base a c zs ∧ w.grownBy wr2 (a.map (·.block)))
      case atStart => exact ⟨lo, ts, rfl, Nat.le_refl _, by omega, by omega, HN, Lib.hid (RP.refl _ _ _), Lib.hid (fwd_start _ _), HOI.out, HG.out⟩
      case round =>
        obtain ⟨k, zs, rfl, hk0, hk1, hg2, HLZ, HRZ, HF, ho, hg⟩ := hrel
        have HOZ := Lib.hid ho
        have HGZ := Lib.hid hg
        obtain ⟨wk, hwk⟩ : ∃ wi : World, wi = wr := ⟨_, rfl⟩
        rw [← hwk]
        rw [← hwk] at HOZ HGZ
        clear ho hg hwk
        by_cases hk : k < i - 1
        · have hkz : (k : Int) < ((i - 1 : Nat) : Int) := by omega
          have hz1 : k + 1 < zs.length := by rw [HLZ.out]; omega
          have hixk := ownI_idx HOZ.out und_is siz_is k (by omega) (k : Int) rfl
          have hixp := ownI_idx HOZ.out und_is siz_is (k + 1) hz1 ((k : Int) + 1) (by omega)
          rw [HLZ.out] at hixk hixp
          obtain ⟨x, hx⟩ : ∃ x, at0 zs k = x := ⟨_, rfl⟩
          obtain ⟨y, hy⟩ : ∃ x, at0 zs (k + 1) = x := ⟨_, rfl⟩
          have hck := ownI_cell HOZ.out (p := k) (by omega) hx
          have hcp := ownI_cell HOZ.out (p := k + 1) hz1 hy
          have hsw := swp2_of HOZ.out (p := k) (q := k + 1) (by omega) hz1 (swp_def' hx hy)
          have ew7 : IntKind.i64.wrap ((k : Int) + 1) = (k : Int) + 1 := IntWalk.i64_in _ (by omega)
          have hfk := hsw.fp
          obtain ⟨v2, hcp2⟩ := hsw.c2
          have hfp2 := hsw.fq
          have HSW := Lib.hid hsw.own
          have HGW2 := Lib.hid (grown_trans HGZ.out hsw.grown)
          have HR2 := Lib.hid (HRZ.out.trans (RP.swp zs (a := lo) (b := hi) (k := k + 1) (by omega) (by omega) (by rw [HLZ.out]; omega)))
          have HL2 : Hid ((swp zs (k + 1)).length = n) := Lib.hid (by rw [swp_len]; exact HLZ.out)
          have HF2 := Lib.hid (fwd_step HF.out hk0 hz1)
          clear hsw hx hy
          go_wp2_with fail
          go_region
          all_goals go_wp2
          go_roundg (i - (k + 1))
          case measure => omega
          case rel => exact ⟨k + 1, swp zs (k + 1), by go_num, by omega, by omega, Nat.le_refl _, HL2, HR2, HF2, HSW.out, HGW2.out⟩
        · have hkz : ¬ (k : Int) < ((i - 1 : Nat) : Int) := by omega
          obtain rfl : k = i - 1 := by omega
          go_wp2
          (try simp only [Exit.inBlock, Exit.then])
          refine bodyPost_ret (results_none rfl _ _ _) rfl ?_
          exact ⟨rfl, zs, HOZ.out, HGZ.out, HRZ.out, fwd_asc HF.out (by omega) (by omega) HB.out HL.out HR.out⟩

set_option maxRecDepth 8000 in
set_option maxHeartbeats 4000000 in
theorem symm2_own {F : Nat} {caps : Array Value} {val K : Int → Int} {cf : Int → Int → Int} {T : Int → Prop} {w : World} {base : Nat} {a : Option Addr} {c : Nat} {ts : List Int} {lo m : Nat}
    (ho : Own (vI val) 2 w base a c ts) (hn : ts.length ≤ 1048576) (h2 : lo + 1 < m) (hh : m + 1 ≤ ts.length) (hc : CmpOk Tryd.prog F caps w (a.map (·.block)) val K cf T) (hT : All T ts) (hK : Mono K) (hS : Stab K ts) (hA : ascR ts lo m) :
    Calls Tryd.prog 79 #[.slice a ts.length c, .int .i64 lo, .int .i64 m, .int .i64 ((m + 1 : Nat) : Int), .func (.func F) #[] caps] w fun e w' =>
      e = .returned (.tuple #[]) ∧ MergedW val w base a c ts lo (m + 1) w' := by
  have HS := Lib.hid hS
  have HO := Lib.hid ho
  have HC : Aside _ := hc
  have HT := Lib.hid hT
  have HK := Lib.hid hK
  have HA := Lib.hid hA
  obtain ⟨n, hnn⟩ : ∃ n, ts.length = n := ⟨_, rfl⟩
  have HN := Lib.hid hnn
  rw [hnn] at hh hn ⊢
  have ew0 : IntKind.i64.wrap (((m + 1 : Nat) : Int) - m) = 1 := by rw [IntWalk.i64_in _ (by omega)]; omega
  have ew01 : IntKind.i64.wrap ((m : Int) - lo) = ((m - lo : Nat) : Int) := by rw [IntWalk.i64_in _ (by omega)]; omega
  have hb01 : (((m - lo : Nat) : Int) == 1) = false := by simp; omega
  obtain ⟨hi, hm⟩ : ∃ hi, hi = m + 1 := ⟨_, rfl⟩
  rw [← hm] at ew0 ⊢
  have HM := Lib.hid hm
  clear hS ho hc hT hK hnn hA hm
  go_enter Tryd.func79, Tryd.ntmps79
  go_wp2
  go_loopg [14, 15, 16] (m - lo) (fun g1 vi vj _ wr => ∃ (i j : Nat), vi = .int .i64 i ∧ vj = .int .i64 j ∧ lo ≤ i ∧ i ≤ j ∧ j ≤ m ∧ j - i ≤ g1 ∧ Hid (∀ k, lo ≤ k → k < i → at0 ts k ≤ at0 ts m) ∧ Hid (∀ k, j ≤ k → k < m → at0 ts m < at0 ts k) ∧ Own (vI val) 2 wr base a c ts ∧ w.grownBy wr (a.map (·.block)))
  case atStart => exact ⟨lo, m, rfl, rfl, by omega, by omega, by omega, by omega, Lib.hid (fun k h1 h2 => by omega), Lib.hid (fun k h1 h2 => by omega), HO.out, grown_refl _ _⟩
  case round =>
    obtain ⟨i, j, rfl, rfl, hi0, hij, hj0, hg1, HL, HR, ho, hg⟩ := hrel
    have HOI := Lib.hid ho
    have HG := Lib.hid hg
    obtain ⟨wi, hwi⟩ : ∃ wi : World, wi = wr := ⟨_, rfl⟩
    rw [← hwi]
    rw [← hwi] at HOI HG
    clear ho hg hwi
    by_cases hlt : i < j
    · have hltz : (i : Int) < (j : Int) := by omega
      obtain ⟨h, hh0⟩ : ∃ h, h = (i + j) / 2 := ⟨_, rfl⟩
      have hhi : i ≤ h ∧ h < j := by omega
      obtain ⟨x, hx⟩ : ∃ x, at0 ts m = x := ⟨_, rfl⟩
      obtain ⟨y, hy⟩ : ∃ x, at0 ts h = x := ⟨_, rfl⟩
      have hcm := cmp_at HC.out HT.out HK.out HS.out HG.out (p := h) (q := m) (by omega) (by rw [HN.out]; omega) hx hy
      have HCM := Lib.hid hcm.1
      have hcmp := hcm.2
      have eg := HC.out.enters
      have hixh := ownI_idx HOI.out und_is siz_is h (by rw [HN.out]; omega) (h : Int) rfl
      have hixl := ownI_idx HOI.out und_is siz_is m (by rw [HN.out]; omega) (m : Int) rfl
      rw [HN.out] at hixh hixl
      have hch := ownI_cell HOI.out (by rw [HN.out]; omega) hx
      have hcl := ownI_cell HOI.out (by rw [HN.out]; omega) hy
      have ew1 : IntKind.i64.wrap ((i : Int) + j) = (i : Int) + j := IntWalk.i64_in _ (by omega)
      have ew2 : IntKind.u64.wrap ((i : Int) + j) = (i : Int) + j := by rw [IntKind.wrap_u64]; omega
      have ew3 : ((i : Int) + j) / 2 = (h : Int) := by omega
      have ew4 : IntKind.i64.wrap (h : Int) = (h : Int) := IntWalk.i64_in _ (by omega)
      have ew5 : IntKind.i64.wrap ((h : Int) + 1) = (h : Int) + 1 := IntWalk.i64_in _ (by omega)
      clear hcm
      by_cases hxy : x < y
      · have hneg : decide (cf x y < 0) = true := by rw [hcmp]; exact decide_eq_true hxy
        have HR2 := Lib.hid (show ∀ k, h ≤ k → k < m → at0 ts m < at0 ts k from fun k h1 h2 => by
          have := HA.out.le (p := h) (q := k) (by omega) h1 h2
          omega)
        clear hcmp hx hy hxy hh0
        go_wp2_with fail
        go_quiet (first | (go_at_fn F; refine Calls.quiet_of (HCM.out _)))
        have HOW := Lib.hid (HOI.out.drewN nq)
        have HGW := Lib.hid (grown_trans HG.out (grown_drewN wi nq _))
        clear HOI HG hch hcl HCM
        generalize wi.drewN nq = wz at HOW HGW ⊢
        go_wp2
        go_roundg (h - i)
        case measure => omega
        case rel => exact ⟨i, h, rfl, by go_num, by omega, by omega, by omega, by omega, HL, HR2, HOW.out, HGW.out⟩
      · have hneg : decide (cf x y < 0) = false := by rw [hcmp]; exact decide_eq_false hxy
        have HL2 := Lib.hid (show ∀ k, lo ≤ k → k < h + 1 → at0 ts k ≤ at0 ts m from fun k h1 h2 => by
          have := HA.out.le (p := k) (q := h) h1 (by omega) (by omega)
          omega)
        clear hcmp hx hy hxy hh0
        go_wp2_with fail
        go_quiet (first | (go_at_fn F; refine Calls.quiet_of (HCM.out _)))
        have HOW := Lib.hid (HOI.out.drewN nq)
        have HGW := Lib.hid (grown_trans HG.out (grown_drewN wi nq _))
        clear HOI HG hch hcl HCM
        generalize wi.drewN nq = wz at HOW HGW ⊢
        go_wp2
        go_roundg (j - (h + 1))
        case measure => omega
        case rel => exact ⟨h + 1, j, by go_num, rfl, by omega, by omega, by omega, by omega, HL2, HR, HOW.out, HGW.out⟩
    · have hltz : ¬ (i : Int) < (j : Int) := by omega
      obtain rfl : i = j := by omega
      go_wp2
      go_loopg [17] (m - i) (fun g2 vk wr2 => ∃ (k : Nat) (zs : List Int), vk = .int .i64 k ∧ i ≤ k ∧ k ≤ m ∧ k - i ≤ g2 ∧ Hid (zs.length = n) ∧ Hid (RP lo hi ts zs) ∧ Hid (Bwd ts zs k m) ∧ Own (vI val) 2 wr2 base a c zs ∧ w.grownBy wr2 (a.map (·.block)))
      case atStart => exact ⟨m, ts, rfl, by omega, by omega, by omega, HN, Lib.hid (RP.refl _ _ _), Lib.hid (bwd_start _ _), HOI.out, HG.out⟩
      case round =>
        obtain ⟨k, zs, rfl, hk0, hk1, hg2, HLZ, HRZ, HF, ho, hg⟩ := hrel
        have HOZ := Lib.hid ho
        have HGZ := Lib.hid hg
        obtain ⟨wk, hwk⟩ : ∃ wi : World, wi = wr := ⟨_, rfl⟩
        rw [← hwk]
        rw [← hwk] at HOZ HGZ
        clear ho hg hwk
        by_cases hk : i < k
        · obtain ⟨kp, rfl⟩ : ∃ kp, k = kp + 1 := ⟨k - 1, by omega⟩
          have hkz : (i : Int) < ((kp + 1 : Nat) : Int) := by omega
          have hz1 : kp + 1 < zs.length := by rw [HLZ.out]; omega
          have hixk := ownI_idx HOZ.out und_is siz_is (kp + 1) hz1 ((kp : Int) + 1) (by omega)
          have hixp := ownI_idx HOZ.out und_is siz_is kp (by omega) (kp : Int) rfl
          rw [HLZ.out] at hixk hixp
          obtain ⟨x, hx⟩ : ∃ x, at0 zs (kp + 1) = x := ⟨_, rfl⟩
          obtain ⟨y, hy⟩ : ∃ x, at0 zs kp = x := ⟨_, rfl⟩
          have hck := ownI_cell HOZ.out (p := kp + 1) hz1 hx
          have hcp := ownI_cell HOZ.out (p := kp) (by omega) hy
          have hsw := swp2_of HOZ.out (p := kp + 1) (q := kp) hz1 (by omega) (swp_def hx hy)
          have ew7 : IntKind.i64.wrap (kp : Int) = (kp : Int) := IntWalk.i64_in _ (by omega)
          have hfk := hsw.fp
          obtain ⟨v2, hcp2⟩ := hsw.c2
          have hfp2 := hsw.fq
          have HSW := Lib.hid hsw.own
          have HGW2 := Lib.hid (grown_trans HGZ.out hsw.grown)
          have HR2 := Lib.hid (HRZ.out.trans (RP.swp zs (a := lo) (b := hi) (k := kp + 1) (by omega) (by have := HM.out; omega) (by have := HM.out; rw [HLZ.out]; omega)))
          have HL2 : Hid ((swp zs (kp + 1)).length = n) := Lib.hid (by rw [swp_len]; exact HLZ.out)
          have HF2 := Lib.hid (bwd_step HF.out (by omega) hk1 (by rw [HLZ.out]; omega))
          clear hsw hx hy
          go_wp2_with fail
          go_region
          all_goals go_wp2
          go_roundg (kp - i)
          case measure => omega
          case rel => exact ⟨kp, swp zs (kp + 1), by first | rfl | go_num | (congr 1; omega), by omega, by omega, Nat.le_refl _, HL2, HR2, HF2, HSW.out, HGW2.out⟩
        · have hkz : ¬ (i : Int) < (k : Int) := by omega
          obtain rfl : k = i := by omega
          go_wp2
          (try simp only [Exit.inBlock, Exit.then])
          refine bodyPost_ret (results_none rfl _ _ _) rfl ?_
          exact ⟨rfl, zs, HOZ.out, HGZ.out, HRZ.out, by rw [HM.out]; exact bwd_asc HF.out (by omega) (by omega) HA.out HL.out HR.out⟩

end Go.Proofs.YtncbkbfkdgggkaaDoor
