/- The walk of the law FnSketched. -/
import Derived.Test.YtfclkbppmkjkeaaQSk38
import Derived.Test.YtfclkbppmkjkeaaQSk31
import Derived.Test.YtfclkbppmkjkeaaQSk10
import Derived.Test.YtfclkbppmkjkeaaQSk2
import Derived.Deep.Cut
import Derived.Deep.DeepCutAuto
import Derived.Deep.CutBlock
import Derived.Deep.RegionLaw
namespace Go.Proofs.Ytfclkbppmkjkeaa
open Go.RowKit
attribute [local go_sem ↓] Go.wp_at_zero Go.wp_at_succ

/-- The same number at each call. -/
theorem b10At_fix {a : Option Addr} {c : Nat} {xs : List Int} (i n : Nat) (hb : ∀ x ∈ xs, 0 ≤ x ∧ x < 256) (hi : i ≤ 1099511627776) (hn : 1 ≤ n) (hn2 : n ≤ 1099511627776) :
    ∃ v : Nat, v < n ∧ ∀ w : World, Rd (Value.int .u8) w a c xs → Calls Try.prog 32 #[.slice a xs.length c, .int .i64 (i : Int), .int .i64 (n : Int)] w fun e w' => e = .returned (.int .i64 (v : Int)) ∧ w = w' := by
  by_cases h1 : n ≤ 1
  · have z1 : (n : Int) ≤ 1 := by omega
    refine ⟨0, by omega, fun w hr => ?_⟩
    have hln := hr.len
    go_enter Try.func32, Try.ntmps32
    go_wp2
    go_ret
    exact ⟨rfl, rfl⟩
  · have z1 : ¬ (n : Int) ≤ 1 := by omega
    have hn0 : ¬ (n : Int) = 0 := by omega
    have hn00 : ((n : Int) == 0) = false := by simp; omega
    by_cases h2 : i < xs.length
    · have z2 : (i : Int) < (xs.length : Int) := by omega
      have hx := hb xs[i] (List.getElem_mem h2)
      obtain ⟨v, hv⟩ : ∃ v : Nat, xs[i].tmod (n : Int) = (v : Int) := ⟨(xs[i].tmod (n : Int)).toNat, by have := Int.tmod_nonneg (n : Int) hx.1; omega⟩
      have hvn : v < n := by have := Int.tmod_lt_of_pos xs[i] (show (0 : Int) < (n : Int) by omega); omega
      refine ⟨v, hvn, fun w hr => ?_⟩
      have hln := hr.len
      have hix := hr.idx und_y siz_y
      have hcx := hr.cell i h2
      simp only [List.getElem?_eq_getElem h2, Option.getD_some] at hcx
      generalize xs[i] = x at hcx hx hv
      have ewv : IntKind.i64.wrap (v : Int) = (v : Int) := IntWalk.i64_in _ (by omega)
      have ewx : IntKind.i64.wrap x = x := IntWalk.i64_in _ (by omega)
      go_enter Try.func32, Try.ntmps32
      go_wp2
      go_ret
      exact ⟨ret_int (by first | rfl | exact hv), rfl⟩
    · have z2 : ¬ (i : Int) < (xs.length : Int) := by omega
      obtain ⟨v, hv⟩ : ∃ v : Nat, ((i : Int) * 37 + 11).tmod (n : Int) = (v : Int) := ⟨(((i : Int) * 37 + 11).tmod (n : Int)).toNat, by have := Int.tmod_nonneg (n : Int) (show 0 ≤ (i : Int) * 37 + 11 by omega); omega⟩
      have hvn : v < n := by have := Int.tmod_lt_of_pos ((i : Int) * 37 + 11) (show (0 : Int) < (n : Int) by omega); omega
      refine ⟨v, hvn, fun w hr => ?_⟩
      have hln := hr.len
      have ewv : IntKind.i64.wrap (v : Int) = (v : Int) := IntWalk.i64_in _ (by omega)
      have ew1 : IntKind.i64.wrap ((i : Int) * 37) = (i : Int) * 37 := IntWalk.i64_in _ (by omega)
      have ew2 : IntKind.i64.wrap ((i : Int) * 37 + 11) = (i : Int) * 37 + 11 := IntWalk.i64_in _ (by omega)
      go_enter Try.func32, Try.ntmps32
      go_wp2
      go_ret
      exact ⟨ret_int (by first | rfl | exact hv), rfl⟩
theorem salts_ok {ss : List Int} {k : Nat} (h : ∀ s ∈ ss, 0 ≤ s ∧ s < 17 * (k : Int) + 256) (hk : k ≤ 16) (h1 : 1 ≤ ss.length) (h2 : ss.length ≤ 32) : saltsB ss = true := by
  unfold saltsB
  rw [decide_eq_true h1, decide_eq_true h2]
  simp only [Bool.and_self, Bool.true_and]
  refine List.all_eq_true.2 fun s hs => ?_
  have := h s hs
  exact (inR_eq _ _ _).2 ⟨by omega, by omega⟩

set_option maxRecDepth 20000 in


set_option maxHeartbeats 8000000 in
theorem lawSketched_walk {a1 a2 : Option Addr} {c1 c2 : Nat} {xs ys : List Int} {w : World} (hr : Rd (Value.int .u8) w a1 c1 xs) (hb : ∀ x ∈ xs, 0 ≤ x ∧ x < 256) (hr2 : Rd (Value.int .u8) w a2 c2 ys) (hb2 : ∀ x ∈ ys, 0 ≤ x ∧ x < 256) :
    Calls Try.prog 5 #[.slice a1 xs.length c1, .slice a2 ys.length c2] w fun e w' => e = .returned (.bool true) ∧ Below w.heap.size w w' := by
  have hl1 := hr.len
  have hl2 := hr2.len
  have HR1 := Lib.hid (And.intro hr hb)
  have HR2 := Lib.hid (And.intro hr2 hb2)
  obtain ⟨m0, hm0, hM⟩ := b10At_fix (a := a2) (c := c2) 2 4 hb2 (by omega) (by omega) (by omega)
  obtain ⟨s0, hs0, hS⟩ := b10At_fix (a := a2) (c := c2) 3 256 hb2 (by omega) (by omega) (by omega)
  have HM := Lib.hid hM
  have HS := Lib.hid hS
  clear hr hb hr2 hb2 hM hS
  cases hlong : (decide (1048576 < xs.length) || decide (1048576 < ys.length)) with
  | true =>
    go_enter Try.func5, Try.ntmps5
    go_wp2_with fail
    refine (b10Long_any hl1 hl2).mono ?_
    rintro e w1 ⟨rfl, rfl⟩
    rw [hlong]
    go_wp2
    go_ret
    exact ⟨rfl, Below.refl _ _⟩
  | false =>
  go_enter Try.func5, Try.ntmps5
  go_wp2_with fail
  refine (b10Long_any hl1 hl2).mono ?_
  rintro e w1 ⟨rfl, rfl⟩
  rw [hlong]
  clear hlong
  go_wp2_with fail
  refine (b10At_any (i := 0) (n := 12) HR2.out.1 HR2.out.2 (by omega) (by omega) (by omega)).mono ?_
  rintro e w1 ⟨⟨v1, rfl, hv1⟩, rfl⟩
  obtain ⟨n, hn⟩ : ∃ n, 1 + v1 = n := ⟨_, rfl⟩
  have en : (1 : Int) + (v1 : Int) = (n : Int) := by omega
  have enw : IntKind.i64.wrap (n : Int) = (n : Int) := IntWalk.i64_in _ (by omega)
  have hn1 : 1 ≤ n := by omega
  have hn2 : n ≤ 12 := by omega
  go_upto_region 4 with (fail)
  clear en enw hn hv1
  go_wp2_with fail
  refine (b10List_any HR1.out.1 HR1.out.2 (by omega)).mono ?_
  rintro e w1 ⟨av, cv, vf, vz, rfl, hvl, hvd, hvz, hov, hbv⟩
  have HV := Lib.hid (And.intro hvl (And.intro hvd hvz))
  have HRV := Lib.hid hov.rd
  have HB1 := Lib.hid hbv
  have HR3 := Lib.hid (And.intro (HR2.out.1.below hbv (Nat.le_refl _)) HR2.out.2)
  clear hvl hvd hvz hov hbv HR1 HR2
  go_wp2_with fail
  refine (b10List_any HR3.out.1 HR3.out.2 (by omega)).mono ?_
  rintro e w2 ⟨aw, cw, wf, wz, rfl, hwl, hwd, hwz, how, hbw⟩
  have HW := Lib.hid (And.intro hwl (And.intro hwd hwz))
  have HRW := Lib.hid how.rd
  have HRV2 := Lib.hid (HRV.out.below hbw (Nat.le_refl _))
  have HB2 := Lib.hid (HB1.out.trans (hbw.mono HB1.out.size))
  have HR4 := Lib.hid (And.intro (HR3.out.1.below hbw (Nat.le_refl _)) HR3.out.2)
  have HE := Lib.hid (own_empty (f := Value.int .i64) (e := 2) (α := Int) w2 (by_ := 0) w2.heap.size (Nat.le_refl _) rfl)
  have HBA := Lib.hid ((Below.refl w2.heap.size w2).alloc (Nat.le_refl _) (.cells #[] 2))
  have HR5 := Lib.hid (And.intro (HR4.out.1.below HBA.out (Nat.le_refl _)) HR4.out.2)
  clear hwl hwd hwz how hbw HR3 HRV HB1
  go_wp2_with fail
  refine (b10At_any (i := 1) (n := 4) HR5.out.1 HR5.out.2 (by omega) (by omega) (by omega)).mono ?_
  rintro e w3 ⟨⟨v2, rfl, hv2⟩, rfl⟩
  obtain ⟨g, hg⟩ : ∃ g, 1 + v2 = g := ⟨_, rfl⟩
  have en : (1 : Int) + (v2 : Int) = (g : Int) := by omega
  have enw : IntKind.i64.wrap (g : Int) = (g : Int) := IntWalk.i64_in _ (by omega)
  have hg1 : 1 ≤ g := by omega
  have hg4 : g ≤ 4 := by omega
  go_upto_region 8 with (fail)
  clear en enw hg hv2 HR5
  obtain ⟨m, hm⟩ : ∃ m, 1 + m0 = m := ⟨_, rfl⟩
  have hm1 : 1 ≤ m := by omega
  have hm4 : m ≤ 4 := by omega
  obtain ⟨T, hT⟩ : ∃ T, g * m = T := ⟨_, rfl⟩
  have hT1 : 1 ≤ T ∧ T ≤ 16 := by rw [← hT]; exact ⟨Nat.mul_le_mul hg1 hm1, Nat.mul_le_mul hg4 hm4⟩
  have HTT := Lib.hid hT
  have ewT : (g : Int) * (1 + (m0 : Int)) = (T : Int) := by rw [show 1 + (m0 : Int) = (m : Int) by omega, ← hT, Int.natCast_mul]
  have ewT2 : IntKind.i64.wrap (T : Int) = (T : Int) := IntWalk.i64_in _ (by omega)
  have EWT := Lib.hid (And.intro ewT ewT2)
  clear hT ewT ewT2 hm
  go_wp2_with fail
  go_loopw [8, 10] (fun o kv wr => ∃ (k : Nat) (b : Option Addr) (cc : Nat) (ss : List Int), k ≤ T ∧ kv = .int .i64 (k : Int) ∧ o = .slice b ss.length cc ∧ ss.length ≤ 16 ∧ Hid (ss.length = k) ∧ Hid (∀ s ∈ ss, 0 ≤ s ∧ s < 17 * (k : Int) + 256) ∧ Hid (Own (Value.int .i64) 2 wr w2.heap.size b cc ss) ∧ Hid (Below w2.heap.size w2 wr)) (fun _ kv _ => T - (intOf kv).toNat)
  case atStart => exact ⟨0, _, _, [], Nat.zero_le _, rfl, rfl, by simp, Lib.hid rfl, Lib.hid (by simp), HE, HBA⟩
  case round =>
    clear HE HBA
    obtain ⟨k, b, cc, ss, hk, rfl, rfl, hs16, HSL, HSS, HO, HB⟩ := hrel
    have HRR := Lib.hid (HR4.out.1.below HB.out (Nat.le_refl _))
    obtain ⟨wi, rfl⟩ : ∃ z : World, z = wr := ⟨_, rfl⟩
    go_wp2_with fail
    refine (HM.out _ HRR.out).mono ?_
    rintro e w3 ⟨rfl, rfl⟩
    obtain ⟨ewT, ewT2⟩ := EWT.out
    by_cases hlt : k < T
    · as_aux_lemma =>
        have hlz : (k : Int) < (T : Int) := by omega
        go_wp2_with fail
        clear ewT ewT2
        refine (HS.out _ HRR.out).mono ?_
        rintro e w3 ⟨rfl, rfl⟩
        have e1 : IntKind.i64.wrap (17 * (k : Int)) = 17 * (k : Int) := IntWalk.i64_in _ (by omega)
        have e2 : IntKind.i64.wrap (17 * (k : Int) + (s0 : Int)) = 17 * (k : Int) + (s0 : Int) := IntWalk.i64_in _ (by omega)
        have ek : IntKind.i64.wrap ((k : Int) + 1) = (k : Int) + 1 := IntWalk.i64_in _ (by omega)
        have hz3 := HB.out.size
        go_wp2_with (at_builtin; refine wpl_append1 (f := Value.int .i64) (d := 0) (base := w2.heap.size) und_ise info_i (fun _ => rfl) (17 * (k : Int) + (s0 : Int)) HO.out rfl _ _ rfl rfl rfl (by omega) (by omega) hz3 ?_; intro a4 c4 w4 ho4 hg4)
        go_roundw
        case rel => exact ⟨k + 1, a4, c4, ss ++ [17 * (k : Int) + (s0 : Int)], by omega, by go_num, by simp, by have := HSL.out; simp; omega, Lib.hid (by simp [HSL.out]), Lib.hid (fun s hs => by
          rcases List.mem_append.1 hs with h | h
          · have := HSS.out s h; omega
          · simp at h; omega), Lib.hid ho4, Lib.hid (HB.out.trans (grown_belowOwn HO.out hg4 (Nat.le_refl _) hz3))⟩
        case measure => simp [intOf]; omega
    · obtain rfl : k = T := by omega
      have hlz : ¬ (k : Int) < (k : Int) := by omega
      have HSA := Lib.hid (salts_ok HSS.out hT1.2 (by rw [HSL.out]; exact hT1.1) (by omega))
      have HRS := Lib.hid HO.out.rd
      have HRV3 := Lib.hid (HRV2.out.below HB.out (Nat.le_refl _))
      have HRW3 := Lib.hid (HRW.out.below HB.out (Nat.le_refl _))
      have HR6 := Lib.hid (And.intro HRR.out HR4.out.2)
      have HB3 := Lib.hid (HB2.out.trans (HB.out.mono HB2.out.size))
      clear HO HB HRR HSS HRV2 HRW HB2 HR4 HM HS
      go_upto_region 13 with (at_make; refine wpl_make (f := Value.float .f32) (d := 0) und_fse info_f rfl n rfl _ _ rfl rfl rfl (by omega) (by omega) ?_; intro w4 ho0 hb0)
      clear ewT ewT2 EWT
      have HO4 := Lib.hid ho0
      have HB04 := Lib.hid hb0
      have HR7 := Lib.hid (And.intro (HR6.out.1.below hb0 (Nat.le_refl _)) HR6.out.2)
      have hbz : wi.heap.size ≤ w4.heap.size := hb0.size
      clear ho0 hb0
      go_wp2_with fail
      refine (b10At_any (i := 4) (n := n) HR7.out.1 HR7.out.2 (by omega) (by omega) (by omega)).mono ?_
      rintro e w5 ⟨⟨p, rfl, hp⟩, rfl⟩
      go_wp2_with fail
      refine (b10At_any (i := 5) (n := 16) HR7.out.1 HR7.out.2 (by omega) (by omega) (by omega)).mono ?_
      rintro e w5 ⟨⟨v5, rfl, hv5⟩, rfl⟩
      obtain ⟨q, hq⟩ : ∃ q, 1 + v5 = q := ⟨_, rfl⟩
      have en : (1 : Int) + (v5 : Int) = (q : Int) := by omega
      have enw : IntKind.i64.wrap (q : Int) = (q : Int) := IntWalk.i64_in _ (by omega)
      have hq1 : 1 ≤ q := by omega
      have hq2 : q ≤ 16 := by omega
      have hcv : ∀ w' : World, (convert 2 28 (.int .i64 (q : Int))).run Try.prog w' = .ok (.float .f32 (floatOfInt .f32 (q : Int))) w' := fun w' => run_convert_int_float w' _ _ _ _ _ (by kernel_rfl) und_f32k
      have hqd := dy_quo4 (dy_int (z := (q : Int)) (by omega)) (by omega)
      have ha := ar3 hqd.1 28
      have e4 : cFour = 1082130432 := rfl
      obtain ⟨y, hy⟩ : ∃ y, fo3 .quo (floatOfInt .f32 (q : Int)) cFour = y := ⟨_, rfl⟩
      have hqe := hqd.2
      rw [hy] at ha hqe
      have HY := Lib.hid (And.intro hqe hy)
      rw [e4] at ha
      generalize hfq : floatOfInt .f32 (q : Int) = fq at ha hcv
      clear hqd hqe e4 hy hfq
      have hio := HO4.out.idx und_fs siz_fs
      have hcs := HO4.out.cell p (by rw [List.length_replicate]; exact hp)
      have hfz := HO4.out.free p (by rw [List.length_replicate]; exact hp)
      rw [List.length_replicate] at hio
      rw [List.getElem_replicate] at hcs
      have hpz : (p : Int) < (n : Int) := by omega
      have hsf := @run_store_fl Try.prog
      have hst := HO4.out.set p (by rw [List.length_replicate]; exact hp) y
      have HRD5 := Lib.hid hst.1.rd
      have HB5 := Lib.hid (HB04.out.trans (grown_belowOwn HO4.out hst.2 (Nat.le_refl _) hbz))
      clear hst HO4 HR7
      go_upto_region 15 with (fail)
      clear hio hcs hfz hpz hsf ha hcv en enw hq hv5 hbz
      generalize w4.setCell (elt (some { block := wi.heap.size, off := 0 }) p) (Value.float FloatKind.f32 y) = w5 at HRD5 HB5 ⊢
      have HRV5 := Lib.hid (HRV3.out.below HB5.out (Nat.le_refl _))
      have HRW5 := Lib.hid (HRW3.out.below HB5.out (Nat.le_refl _))
      have HRS5 := Lib.hid (HRS.out.below HB5.out (Nat.le_refl _))
      have HBW5 := Lib.hid (HB3.out.trans (HB5.out.mono HB3.out.size))
      have HP := Lib.hid hp
      have HTN := Lib.hid (And.intro hT1 (And.intro hg1 hm1))
      generalize hsa : some ({ block := wi.heap.size, off := 0 } : Addr) = asg at HRD5 ⊢
      have HE := Lib.hid (own_empty (f := Value.float .f32) (e := 28) (α := Nat) w5 (by_ := 0) w5.heap.size (Nat.le_refl _) rfl)
      have HBA := Lib.hid ((Below.refl w5.heap.size w5).alloc (Nat.le_refl _) (.cells #[] 28))
      clear hsa HRV3 HRW3 HRS HB3 HR6 HB04 HB5 hp hm4 hg4
      go_wp2_with fail
      go_loopw [13, 14, 96] (fun o _ kv wr => ∃ (j : Nat) (b : Option Addr) (cc : Nat) (us : List Nat), j ≤ n ∧ kv = .int .i64 (j : Int) ∧ o = .slice b us.length cc ∧ us.length ≤ 12 ∧ Hid (us.length = j) ∧ Hid (DyL 2 us ((List.range j).map fun i => at0 vz i + at0 wz i)) ∧ Hid (Own (Value.float .f32) 28 wr w5.heap.size b cc us) ∧ Hid (Below w5.heap.size w5 wr)) (fun _ _ kv _ => n - (intOf kv).toNat)
      case atStart => exact ⟨0, _, _, [], Nat.zero_le _, rfl, rfl, by simp, Lib.hid rfl, Lib.hid ⟨rfl, fun i hi => absurd hi (Nat.not_lt_zero _)⟩, HE, HBA⟩
      case round =>
        clear HE HBA
        obtain ⟨j, b6, c6, us, hj, rfl, rfl, hu12, HUL, HUD, HO, HB⟩ := hrel
        obtain ⟨wj, rfl⟩ : ∃ z : World, z = wr := ⟨_, rfl⟩
        by_cases hlt : j < n
        · have hlz : (j : Int) < (n : Int) := by omega
          have rv := HRV5.out.below HB.out (Nat.le_refl _)
          have rw' := HRW5.out.below HB.out (Nat.le_refl _)
          obtain ⟨vl, vd, vb⟩ := HV.out
          obtain ⟨wl, wd, wb⟩ := HW.out
          have ixv := fun w' : World => rv.idx und_fs siz_fs w' j (by rw [vl]; exact hlt)
          have ixw := fun w' : World => rw'.idx und_fs siz_fs w' j (by rw [wl]; exact hlt)
          rw [vl] at ixv
          rw [wl] at ixw
          have clv := rv.cell j (by rw [vl]; exact hlt)
          have clw := rw'.cell j (by rw [wl]; exact hlt)
          have e0 : (default : Nat) = 0 := rfl
          rw [e0] at clv clw
          have dv := vd.at' j (by rw [vl]; exact hlt)
          have dw := wd.at' j (by rw [wl]; exact hlt)
          have bv := vb (at0 vz j) (by unfold at0; rw [List.getElem?_eq_getElem (by rw [← vd.len, vl]; exact hlt)]; exact List.getElem_mem _)
          have bw := wb (at0 wz j) (by unfold at0; rw [List.getElem?_eq_getElem (by rw [← wd.len, wl]; exact hlt)]; exact List.getElem_mem _)
          have da := dy_add dv dw (by omega) (by omega) (by omega)
          have ha := ar3 da.1 28
          have HD2 := Lib.hid da.2
          generalize vf[j]?.getD 0 = fv at clv ha HD2
          generalize wf[j]?.getD 0 = fw at clw ha HD2
          generalize fo3 .add fv fw = fs at ha HD2
          clear rv rw' vl vd vb wl wd wb dv dw bv bw da
          have ek : IntKind.i64.wrap ((j : Int) + 1) = (j : Int) + 1 := IntWalk.i64_in _ (by omega)
          have HO2 : Hid (Own (Value.float .f32) 28 wj.drew w5.heap.size b6 c6 us) := Lib.hid (HO.out.drewN 1)
          have HB2 : Hid (Below w5.heap.size w5 wj.drew) := Lib.hid (HB.out.trans (below_of_drewN wj 1 _))
          have hzd := HB2.out.size
          have hzj := HB.out.size
          clear HO HB
          go_wp2_with fail
          go_region_law (first
            | (refine step_append1 (f := Value.float .f32) (d := 0) (base := w5.heap.size) und_fse info_f (fun _ => rfl) fs (HO2.out.alloc _) rfl _ _ rfl wj.drew.heap.size rfl rfl (heap_alloc_new _ _) (by omega) (by omega) (by simp; omega) ?_; intro a4 c4 w4 ho4 hg4))
          all_goals
            have HB4 := Lib.hid ((HB2.out.alloc hzd _).trans (grown_belowOwn (HO2.out.alloc _) hg4 (Nat.le_refl _) (by simp; omega)))
            have HO4 := Lib.hid ho4
            clear hg4 ho4 clv clw ha ixv ixw
            go_wp2
            go_roundw
            case rel => exact ⟨j + 1, a4, c4, us ++ [fs], by omega, by go_num, by simp, by have := HUL.out; simp; omega, Lib.hid (by simp [HUL.out]), Lib.hid (by rw [List.range_succ, List.map_append]; exact HUD.out.snoc HD2.out), HO4, HB4⟩
            case measure => simp [intOf]; omega
        · as_aux_lemma =>
            obtain rfl : j = n := by omega
            have hlz : ¬ (j : Int) < (j : Int) := by omega
            have HRV6 := Lib.hid (HRV5.out.below HB.out (Nat.le_refl _))
            have HRW6 := Lib.hid (HRW5.out.below HB.out (Nat.le_refl _))
            have HRS6 := Lib.hid (HRS5.out.below HB.out (Nat.le_refl _))
            have HRD6 := Lib.hid (HRD5.out.below HB.out (Nat.le_refl _))
            have HRU6 := Lib.hid HO.out.rd
            have HBW6 := Lib.hid (HBW5.out.trans (HB.out.mono HBW5.out.size))
            clear HRV5 HRW5 HRS5 HRD5 HBW5 HO HB
            -- the facts
            have hvb : ∀ i, (at0 vz i).natAbs ≤ 16 := by
              intro i
              by_cases hi : i < vz.length
              · exact HV.out.2.2 _ (by unfold at0; rw [List.getElem?_eq_getElem hi]; exact List.getElem_mem _)
              · unfold at0; rw [List.getElem?_eq_none (by omega)]; decide
            have hwb : ∀ i, (at0 wz i).natAbs ≤ 16 := by
              intro i
              by_cases hi : i < wz.length
              · exact HW.out.2.2 _ (by unfold at0; rw [List.getElem?_eq_getElem hi]; exact List.getElem_mem _)
              · unfold at0; rw [List.getElem?_eq_none (by omega)]; decide
            have hvl : vf.length = j := HV.out.1
            have hwl : wf.length = j := HW.out.1
            have hul : us.length = j := HUL.out
            obtain ⟨uz, huz⟩ : ∃ uz, (List.range j).map (fun i => at0 vz i + at0 wz i) = uz := ⟨_, rfl⟩
            have hua : ∀ i, at0 uz i = at0 vz i + at0 wz i := by
              intro i
              rw [← huz]
              by_cases hi : i < j
              · unfold at0
                rw [List.getElem?_map, List.getElem?_range hi]
                rfl
              · have e1 : at0 vz i = 0 := by unfold at0; rw [List.getElem?_eq_none (by rw [← HV.out.2.1.len, hvl]; omega)]; rfl
                have e2 : at0 wz i = 0 := by unfold at0; rw [List.getElem?_eq_none (by rw [← HW.out.2.1.len, hwl]; omega)]; rfl
                rw [e1, e2]
                unfold at0
                rw [List.getElem?_eq_none (by simp; omega)]
                rfl
            have HUD2 : Hid (DyL 2 us uz) := Lib.hid (by rw [← huz]; exact HUD.out)
            have hub : ∀ i, (at0 uz i).natAbs ≤ 32 := by
              intro i
              rw [hua i]; have := hvb i; have := hwb i; omega
            have HVB := Lib.hid hvb
            have HWB := Lib.hid hwb
            have HUA := Lib.hid hua
            have HUB := Lib.hid hub
            have HLV := Lib.hid hvl
            have HLW := Lib.hid hwl
            clear hvb hwb hua hub hvl hwl hul huz HUD
            have hsl : ss.length = k := HSL.out
            obtain ⟨df, hdf⟩ : ∃ df, (List.replicate j 0).set p y = df := ⟨_, rfl⟩
            have HDD : Hid (DyL 2 df (oneZ j p (q : Int))) := Lib.hid (one_dyL hdf.symm HY.out.1)
            have HDL : Hid (df.length = j) := Lib.hid (by rw [← hdf]; simp)
            rw [hdf] at HRD6
            have HDF := Lib.hid hdf
            have HSL2 := Lib.hid hsl
            clear hdf hsl
            -- the sketches
            have HC := Lib.hid (sk_dy HRV6.out HRS6.out HV.out.2.1 (fun i => by have := HVB.out i; omega) HLV.out (by omega) (by omega) HSA.out)
            go_wp2_with fail
            refine HC.out.mono ?_
            rintro e w7 ⟨aa, ca, rfl, hra, hbc⟩
            replace HRV6 := Lib.hid (HRV6.out.below hbc (Nat.le_refl _))
            replace HRW6 := Lib.hid (HRW6.out.below hbc (Nat.le_refl _))
            replace HRS6 := Lib.hid (HRS6.out.below hbc (Nat.le_refl _))
            replace HRD6 := Lib.hid (HRD6.out.below hbc (Nat.le_refl _))
            replace HRU6 := Lib.hid (HRU6.out.below hbc (Nat.le_refl _))
            replace HBW6 := Lib.hid (HBW6.out.trans (hbc.mono HBW6.out.size))
            have HRA := Lib.hid hra
            clear hra hbc HC
            have HC := Lib.hid (sk_dy HRW6.out HRS6.out HW.out.2.1 (fun i => by have := HWB.out i; omega) HLW.out (by omega) (by omega) HSA.out)
            go_wp2_with fail
            refine HC.out.mono ?_
            rintro e w8 ⟨ab, cb, rfl, hra, hbc⟩
            replace HRV6 := Lib.hid (HRV6.out.below hbc (Nat.le_refl _))
            replace HRW6 := Lib.hid (HRW6.out.below hbc (Nat.le_refl _))
            replace HRS6 := Lib.hid (HRS6.out.below hbc (Nat.le_refl _))
            replace HRD6 := Lib.hid (HRD6.out.below hbc (Nat.le_refl _))
            replace HRU6 := Lib.hid (HRU6.out.below hbc (Nat.le_refl _))
            replace HRA := Lib.hid (HRA.out.below hbc (Nat.le_refl _))
            replace HBW6 := Lib.hid (HBW6.out.trans (hbc.mono HBW6.out.size))
            have HRB := Lib.hid hra
            clear hra hbc HC HRW6
            have HC := Lib.hid (sk_dy HRU6.out HRS6.out HUD2.out (fun i => by have := HUB.out i; omega) rfl (by rw [HUL.out]; omega) (by rw [HUL.out]; omega) HSA.out)
            go_wp2_with fail
            refine HC.out.mono ?_
            rintro e w9 ⟨ac, cc, rfl, hra, hbc⟩
            replace HRV6 := Lib.hid (HRV6.out.below hbc (Nat.le_refl _))
            replace HRS6 := Lib.hid (HRS6.out.below hbc (Nat.le_refl _))
            replace HRD6 := Lib.hid (HRD6.out.below hbc (Nat.le_refl _))
            replace HRU6 := Lib.hid (HRU6.out.below hbc (Nat.le_refl _))
            replace HRA := Lib.hid (HRA.out.below hbc (Nat.le_refl _))
            replace HRB := Lib.hid (HRB.out.below hbc (Nat.le_refl _))
            replace HBW6 := Lib.hid (HBW6.out.trans (hbc.mono HBW6.out.size))
            have HRC := Lib.hid hra
            clear hra hbc HC HRU6
            have HC := Lib.hid (sk_dy HRD6.out HRS6.out HDD.out (fun i => oneZ_bd (by omega) i) HDL.out (by omega) (by omega) HSA.out)
            go_wp2_with fail
            refine HC.out.mono ?_
            rintro e w10 ⟨ad, cd, rfl, hra, hbc⟩
            replace HRV6 := Lib.hid (HRV6.out.below hbc (Nat.le_refl _))
            replace HRS6 := Lib.hid (HRS6.out.below hbc (Nat.le_refl _))
            replace HRD6 := Lib.hid (HRD6.out.below hbc (Nat.le_refl _))
            replace HRA := Lib.hid (HRA.out.below hbc (Nat.le_refl _))
            replace HRB := Lib.hid (HRB.out.below hbc (Nat.le_refl _))
            replace HRC := Lib.hid (HRC.out.below hbc (Nat.le_refl _))
            replace HBW6 := Lib.hid (HBW6.out.trans (hbc.mono HBW6.out.size))
            have HRD := Lib.hid hra
            clear hra hbc HC
            have hsk := skB_dy HDD.out (fun i => oneZ_bd (by omega) i) (by rw [HDL.out]; omega) (by rw [HDL.out]; omega) HSA.out
            have HSK := Lib.hid hsk
            have hskd := skR_dy HDD.out (fun i => oneZ_bd (by omega) i) (by rw [HDL.out]; omega) (by rw [HDL.out]; omega) HSA.out
            rw [HDL.out] at hskd
            have HKD : Hid (DyL 2 (skR df ss) (oneR j p (q : Int) ss)) := Lib.hid hskd
            have HKP : Hid (Pm (q : Int) (oneR j p (q : Int) ss)) := Lib.hid (oneR_pm HP.out)
            have HKL : Hid ((skR df ss).length = ss.length) := Lib.hid (skR_length hsk)
            clear hsk hskd
            have HC := Lib.hid (normAbout_L (k := (q : Int)) HRD.out HKD.out HKP.out (by omega) (by omega) HKL.out (by rw [HSL2.out]; exact HTT.out.symm) hg1 hm1 hs16)
            go_wp2_with fail
            refine HC.out.mono ?_
            rintro e w11 ⟨nb, rfl, hnb, hbc⟩
            replace HRV6 := Lib.hid (HRV6.out.below hbc (Nat.le_refl _))
            replace HRS6 := Lib.hid (HRS6.out.below hbc (Nat.le_refl _))
            replace HRD6 := Lib.hid (HRD6.out.below hbc (Nat.le_refl _))
            replace HRA := Lib.hid (HRA.out.below hbc (Nat.le_refl _))
            replace HRB := Lib.hid (HRB.out.below hbc (Nat.le_refl _))
            replace HRC := Lib.hid (HRC.out.below hbc (Nat.le_refl _))
            replace HRD := Lib.hid (HRD.out.below hbc (Nat.le_refl _))
            replace HBW6 := Lib.hid (HBW6.out.trans (hbc.mono HBW6.out.size))
            have HNB := Lib.hid hnb
            clear hnb hbc HC
            have HC := Lib.hid (dotAbout_L (k := (q : Int)) HRD.out HKD.out HKP.out (by omega) (by omega) HKL.out (by rw [HSL2.out]; exact HTT.out.symm) hg1 hm1 hs16)
            go_wp2_with fail
            refine HC.out.mono ?_
            rintro e w12 ⟨db, rfl, hdb, hbc⟩
            replace HRV6 := Lib.hid (HRV6.out.below hbc (Nat.le_refl _))
            replace HRS6 := Lib.hid (HRS6.out.below hbc (Nat.le_refl _))
            replace HRD6 := Lib.hid (HRD6.out.below hbc (Nat.le_refl _))
            replace HRA := Lib.hid (HRA.out.below hbc (Nat.le_refl _))
            replace HRB := Lib.hid (HRB.out.below hbc (Nat.le_refl _))
            replace HRC := Lib.hid (HRC.out.below hbc (Nat.le_refl _))
            replace HBW6 := Lib.hid (HBW6.out.trans (hbc.mono HBW6.out.size))
            have HDB := Lib.hid hdb
            clear hdb hbc HC HRD
            obtain ⟨er, eb, en1, en2, en3, en4, erN, ebN, eOk⟩ := norm_dot HV.out.2.1 HVB.out (by rw [HLV.out]; omega) (by rw [HLV.out]; omega)
            have HEN := Lib.hid (And.intro en3 en4)
            have HEO := Lib.hid (And.intro erN (And.intro ebN eOk))
            have HC := Lib.hid (normOf_L HRV6.out HLV.out en1 en2)
            clear en1 en2 en3 en4 erN ebN eOk
            go_wp2_with fail
            refine HC.out.mono ?_
            rintro e w13 ⟨rfl, hbc⟩
            replace HRV6 := Lib.hid (HRV6.out.below hbc (Nat.le_refl _))
            replace HRS6 := Lib.hid (HRS6.out.below hbc (Nat.le_refl _))
            replace HRD6 := Lib.hid (HRD6.out.below hbc (Nat.le_refl _))
            replace HRA := Lib.hid (HRA.out.below hbc (Nat.le_refl _))
            replace HRB := Lib.hid (HRB.out.below hbc (Nat.le_refl _))
            replace HRC := Lib.hid (HRC.out.below hbc (Nat.le_refl _))
            replace HBW6 := Lib.hid (HBW6.out.trans (hbc.mono HBW6.out.size))
            clear hbc HC
            have HC := Lib.hid (dotOf_L HRV6.out HLV.out HEN.out.1 HEN.out.2)
            go_wp2_with fail
            refine HC.out.mono ?_
            rintro e w14 ⟨rfl, hbc⟩
            replace HRV6 := Lib.hid (HRV6.out.below hbc (Nat.le_refl _))
            replace HRS6 := Lib.hid (HRS6.out.below hbc (Nat.le_refl _))
            replace HRD6 := Lib.hid (HRD6.out.below hbc (Nat.le_refl _))
            replace HRA := Lib.hid (HRA.out.below hbc (Nat.le_refl _))
            replace HRB := Lib.hid (HRB.out.below hbc (Nat.le_refl _))
            replace HRC := Lib.hid (HRC.out.below hbc (Nat.le_refl _))
            replace HBW6 := Lib.hid (HBW6.out.trans (hbc.mono HBW6.out.size))
            clear hbc HC HEN
            have hne : ((ss.length : Int) != (ss.length : Int)) = false := by simp
            obtain ⟨ι, hnx, G, hG, hSu⟩ := calm_family w14
            have HVV := Lib.hid (fun i => HRV6.out.below (hG i) (Nat.le_refl _))
            have hvec := HV.out.2.1.vec (by rw [HLV.out]; omega) (by rw [HLV.out]; omega)
            have HIV : Hid (∀ i, Calls Try.prog 39 #[.slice av j cv] (G i) fun e w' => e = .returned (.bool true) ∧ Below (G i).heap.size (G i) w') := Lib.hid (fun i => isVec_L (HVV.out i) HLV.out hvec)
            have ixd := fun w' : World => (HRD6.out).idx und_fs siz_fs w' p (by rw [HDL.out]; exact HP.out)
            rw [HDL.out] at ixd
            have hdp : df[p]?.getD default = y := by rw [← HDF.out]; simp [HP.out]
            have cld := fun i => (HRD6.out.below (hG i) (Nat.le_refl _)).cell p (by rw [HDL.out]; exact HP.out)
            rw [hdp] at cld
            have gN := gap_norm HNB.out HY.out.1
            have gD := gap_dot HDB.out HY.out.1 (by omega) (by omega)
            have gE := HEO.out.2.2
            have cv1 := fun w' : World => run_convert_float_float (P := Try.prog) w' 28 34 .f32 .f64 nb _ und_f32 und_f64 (wid_val HNB.out.N).2.2
            have cv2 := fun w' : World => run_convert_float_float (P := Try.prog) w' 28 34 .f32 .f64 y _ und_f32 und_f64 (wid_val HY.out.1.N).2.2
            have cv3 := fun w' : World => run_convert_float_float (P := Try.prog) w' 28 34 .f32 .f64 db _ und_f32 und_f64 (wid_val HDB.out.N).2.2
            have cv4 := fun w' : World => run_convert_float_float (P := Try.prog) w' 28 34 .f32 .f64 er _ und_f32 und_f64 (wid_val HEO.out.1).2.2
            have cv5 := fun w' : World => run_convert_float_float (P := Try.prog) w' 28 34 .f32 .f64 eb _ und_f32 und_f64 (wid_val HEO.out.2.1).2.2
            have am1 := ar gD.1 34
            have am2 := ar gE.m 34
            have aa := ar gE.a 34
            have am3 := ar gE.p 34
            have hc1 : Go.Proofs.Ytfclkbppmkjkeaa.c1 = 4607182418800017408 := rfl
            have hc2 : c001 = 4562254508917369340 := rfl
            have gA1 := gN.n1
            have gA2 := gN.n2
            have gA3 := gN.g
            have gB1 := gD.2.n1
            have gB2 := gD.2.n2
            have gB3 := gD.2.g
            have gC1 := gE.mN
            have gC2 := gE.bN
            have gC3 := gE.g
            have tA := gN.no
            have tB := gD.2.no
            have tC := gE.no
            clear gN gD gE hvec hdp HVV
            generalize fo .mul c001 (fo .add Go.Proofs.Ytfclkbppmkjkeaa.c1 (wid eb)) = bd at *
            generalize fo .add Go.Proofs.Ytfclkbppmkjkeaa.c1 (wid eb) = ad1 at *
            generalize fo .mul (wid y) (wid y) = yy at *
            generalize fo .mul (wid er) (wid er) = ee at *
            generalize wid nb = wnb at *
            generalize hwy : wid y = wy at *
            generalize wid db = wdb at *
            generalize wid er = wer at *
            generalize wid eb = web at *
            have HWY := Lib.hid hwy
            rw [hc2] at tA tB am3
            rw [hc1] at aa
            have HG := Lib.hid hG
            have HSU := Lib.hid hSu
            clear hG hSu hc1 hc2 hwy
            go_wp2_with fail
            simp only [List.append_eq, List.cons_append, List.nil_append]
            refine wp_region_calm (G := G) (by kernel_rfl) (lexB_of (by kernel_rfl)) HSU.out ?_
            repeat (go_big_quiet_step ((first | (go_at_call 39; exact calm_call HG.out HSU.out (HIV.out _)) | (go_at_call 40; exact calm_same (b10Gap_any (by assumption) (by assumption) (by assumption))))))
            refine wpQuiet_nil ?_
            intro _ hw'
            obtain ⟨gi, hw''⟩ := hw'
            subst hw''
            have hbc := HG.out gi
            clear hne ixd cld cv1 cv2 cv3 cv4 cv5 am1 am2 aa am3 gA1 gA2 gA3 gB1 gB2 gB3 gC1 gC2 gC3 tA tB tC HIV HEO HNB HDB
            replace HRV6 := Lib.hid (HRV6.out.below hbc (Nat.le_refl _))
            replace HRS6 := Lib.hid (HRS6.out.below hbc (Nat.le_refl _))
            replace HRD6 := Lib.hid (HRD6.out.below hbc (Nat.le_refl _))
            replace HRA := Lib.hid (HRA.out.below hbc (Nat.le_refl _))
            replace HRB := Lib.hid (HRB.out.below hbc (Nat.le_refl _))
            replace HRC := Lib.hid (HRC.out.below hbc (Nat.le_refl _))
            replace HBW6 := Lib.hid (HBW6.out.trans (hbc.mono HBW6.out.size))
            generalize G gi = w16 at *
            clear hbc HG HSU
            go_wp2_with fail
            go_loopw [31, 32, 33, 261] (fun _ _ _ iv wr => ∃ i : Nat, i ≤ ss.length ∧ iv = .int .i64 (i : Int) ∧ Hid (Below w16.heap.size w16 wr)) (fun _ _ _ iv _ => ss.length - (intOf iv).toNat)
            case atStart => exact ⟨0, Nat.zero_le _, rfl, Lib.hid (Below.refl _ _)⟩
            case round =>
              obtain ⟨i, hi, rfl, HBI⟩ := hrel
              obtain ⟨wq, rfl⟩ : ∃ z : World, z = wr := ⟨_, rfl⟩
              by_cases hlti : i < ss.length
              · as_aux_lemma =>
                  have hlzi : (i : Int) < (ss.length : Int) := by omega
                  have rs := HRS6.out.below HBI.out (Nat.le_refl _)
                  have ixs := fun w' : World => rs.idx und_is siz_is w' i hlti
                  obtain ⟨s, hs⟩ : ∃ s, ss[i] = s := ⟨_, rfl⟩
                  have cls := at0_cell rs hlti (show at0 ss i = s by unfold at0; rw [List.getElem?_eq_getElem hlti]; exact hs)
                  have hkey : isKey s = true := by
                    rw [← hs]
                    have h := HSA.out
                    unfold saltsB at h
                    simp only [Bool.and_eq_true] at h
                    exact (List.all_eq_true.1 h.2) _ (List.getElem_mem hlti)
                  obtain ⟨ra, ea, da⟩ := rowC_dy HV.out.2.1 (fun i => by have := HVB.out i; omega) (by rw [HLV.out]; omega) s
                  obtain ⟨rb, eb', db'⟩ := rowC_dy HW.out.2.1 (fun i => by have := HWB.out i; omega) (by rw [HLW.out]; omega) s
                  obtain ⟨rc, ec, dc⟩ := rowC_dy HUD2.out (fun i => by have := HUB.out i; omega) (by rw [HUL.out]; omega) s
                  rw [HLV.out] at da
                  rw [HLW.out] at db'
                  rw [HUL.out, rowZ_add HUA.out] at dc
                  have ba := rowZ_bd 16 HVB.out s j
                  have bb := rowZ_bd 16 HWB.out s j
                  have gS := gap_sum da db' dc (by omega) (by omega)
                  have hva := HV.out.2.1.vec (by rw [HLV.out]; omega) (by rw [HLV.out]; omega)
                  have ska := skB_dy HV.out.2.1 (fun i => by have := HVB.out i; omega) (by rw [HLV.out]; omega) (by rw [HLV.out]; omega) HSA.out
                  have skb := skB_dy HW.out.2.1 (fun i => by have := HWB.out i; omega) (by rw [HLW.out]; omega) (by rw [HLW.out]; omega) HSA.out
                  have skc := skB_dy HUD2.out (fun i => by have := HUB.out i; omega) (by rw [HUL.out]; omega) (by rw [HUL.out]; omega) HSA.out
                  have xa := skR_get ska hlti
                  have xb := skR_get skb hlti
                  have xc := skR_get skc hlti
                  rw [hs, ea, Option.getD_some] at xa
                  rw [hs, eb', Option.getD_some] at xb
                  rw [hs, ec, Option.getD_some] at xc
                  have HCR : Hid (∀ w' : World, Rd (Value.float .f32) w' av cv vf → Calls Try.prog 41 #[.slice av j cv, .int .i64 s] w' fun e w'' => e = .returned (.tuple #[.float .f32 ra, .bool true]) ∧ Below w'.heap.size w' w'') := Lib.hid (fun w' h => signRow_L h HLV.out hva hkey ea da.N)
                  have HRV7 := Lib.hid (HRV6.out.below HBI.out (Nat.le_refl _))
                  have HFACT := Lib.hid (And.intro da.N (And.intro db'.N (And.intro dc.N gS)))
                  have HX := Lib.hid (And.intro xa (And.intro xb xc))
                  have HSKL := Lib.hid (And.intro (skR_length ska) (And.intro (skR_length skb) (skR_length skc)))
                  clear rs hs hkey ea eb' ec da db' dc ba bb gS hva ska skb skc xa xb xc
                  go_wp2_with fail
                  refine (HCR.out _ HRV7.out).mono ?_
                  rintro e w17 ⟨rfl, hbc⟩
                  have HBI2 := Lib.hid (HBI.out.trans (hbc.mono HBI.out.size))
                  clear ixs cls HCR HRV7 HBI hbc
                  have rA := HRA.out.below HBI2.out (Nat.le_refl _)
                  have rB := HRB.out.below HBI2.out (Nat.le_refl _)
                  have rC := HRC.out.below HBI2.out (Nat.le_refl _)
                  have ixa := fun w' : World => rA.idx und_fs siz_fs w' i (by rw [HSKL.out.1]; exact hlti)
                  have ixb := fun w' : World => rB.idx und_fs siz_fs w' i (by rw [HSKL.out.2.1]; exact hlti)
                  have ixc := fun w' : World => rC.idx und_fs siz_fs w' i (by rw [HSKL.out.2.2]; exact hlti)
                  rw [HSKL.out.1] at ixa
                  rw [HSKL.out.2.1] at ixb
                  rw [HSKL.out.2.2] at ixc
                  have cla := rA.cell i (by rw [HSKL.out.1]; exact hlti)
                  have clb := rB.cell i (by rw [HSKL.out.2.1]; exact hlti)
                  have clc := rC.cell i (by rw [HSKL.out.2.2]; exact hlti)
                  have e0 : (default : Nat) = 0 := rfl
                  rw [e0, HX.out.1] at cla
                  rw [e0, HX.out.2.1] at clb
                  rw [e0, HX.out.2.2] at clc
                  have cv1 := fun w' : World => run_convert_float_float (P := Try.prog) w' 28 34 .f32 .f64 ra _ und_f32 und_f64 (wid_val HFACT.out.1).2.2
                  have cv2 := fun w' : World => run_convert_float_float (P := Try.prog) w' 28 34 .f32 .f64 rb _ und_f32 und_f64 (wid_val HFACT.out.2.1).2.2
                  have cv3 := fun w' : World => run_convert_float_float (P := Try.prog) w' 28 34 .f32 .f64 rc _ und_f32 und_f64 (wid_val HFACT.out.2.2.1).2.2
                  have aS := ar HFACT.out.2.2.2.1 34
                  have g1 := HFACT.out.2.2.2.2.n1
                  have g2 := HFACT.out.2.2.2.2.n2
                  have g3 := HFACT.out.2.2.2.2.g
                  have tS := HFACT.out.2.2.2.2.no
                  have hsm := ord_same3 HFACT.out.1 HFACT.out.1 rfl
                  have hc2 : c001 = 4562254508917369340 := rfl
                  rw [hc2] at tS
                  clear rA rB rC HFACT HX HSKL hc2 e0
                  generalize fo .add (wid ra) (wid rb) = wab at *
                  generalize wid ra = wra at *
                  generalize wid rb = wrb at *
                  generalize wid rc = wrc at *
                  have ek : IntKind.i64.wrap ((i : Int) + 1) = (i : Int) + 1 := IntWalk.i64_in _ (by omega)
                  go_wp2_with fail
                  go_quiet ((first | (go_at_call 42; exact quietQ (sameNumber_any hsm)) | (go_at_call 40; exact quietQ (b10Gap_any (by assumption) (by assumption) (by assumption)))))
                  go_wp2
                  go_roundw
                  case rel => exact ⟨i + 1, by omega, by go_num, Lib.hid (HBI2.out.trans (below_of_drewN _ _ _))⟩
                  case measure => simp [intOf]; omega
              · as_aux_lemma =>
                  obtain rfl : i = ss.length := by omega
                  have hlzi : ¬ (ss.length : Int) < (ss.length : Int) := by omega
                  have HRS8 := Lib.hid (HRS6.out.below HBI.out (Nat.le_refl _))
                  have HRD8 := Lib.hid (HRD6.out.below HBI.out (Nat.le_refl _))
                  have HBW8 := Lib.hid (HBW6.out.trans (HBI.out.mono HBW6.out.size))
                  clear HRV6 HRS6 HRD6 HRA HRB HRC HBW6 HBI HVB HWB HUA HUB HLV HLW HUD2 HUL
                  obtain ⟨shb, shl, shn, nr, enr, nrN, n1, n2⟩ := shrink_near HSK.out HKD.out HKP.out (by omega) (by omega) (by rw [HSL2.out]; omega) (by rw [HSL2.out]; omega)
                  have gSh := gap_shrink nrN HY.out.1 n1 n2
                  have HSH := Lib.hid (And.intro shl (And.intro shn enr))
                  have HGS := Lib.hid (And.intro nrN gSh)
                  have HC := Lib.hid (shrink_L HRD8.out HRS8.out HDL.out shb shl)
                  clear shb shl shn enr nrN n1 n2 gSh
                  go_wp2_with fail
                  refine HC.out.mono ?_
                  rintro e w18 ⟨ash, csh, rfl, hrsh, hbc⟩
                  replace HRS8 := Lib.hid (HRS8.out.below hbc (Nat.le_refl _))
                  replace HRD8 := Lib.hid (HRD8.out.below hbc (Nat.le_refl _))
                  replace HBW8 := Lib.hid (HBW8.out.trans (hbc.mono HBW8.out.size))
                  have HC := Lib.hid (normOf_L hrsh HSH.out.1 HSH.out.2.2 HSH.out.2.1)
                  clear hrsh hbc
                  go_wp2_with fail
                  refine HC.out.mono ?_
                  rintro e w19 ⟨rfl, hbc⟩
                  replace HRS8 := Lib.hid (HRS8.out.below hbc (Nat.le_refl _))
                  replace HRD8 := Lib.hid (HRD8.out.below hbc (Nat.le_refl _))
                  replace HBW8 := Lib.hid (HBW8.out.trans (hbc.mono HBW8.out.size))
                  clear hbc HSH
                  obtain ⟨bs, hbs⟩ : ∃ bs, (oneR j p (q : Int) ss).map (fun z => decide (0 ≤ z)) = bs := ⟨_, rfl⟩
                  have HBS : Hid (plR df ss = bs) := Lib.hid (by rw [plR_dy HKD.out, hbs])
                  have HBL : Hid (bs.length = ss.length) := Lib.hid (by rw [← hbs]; simp [oneR])
                  have HBO : Hid ((oneR j p (-(q : Int)) ss).map (fun z => decide (0 ≤ z)) = bs.map (!·)) := Lib.hid (by rw [plane_opp HP.out (by omega), hbs])
                  have HC := Lib.hid (plane_L HRD8.out HRS8.out HDL.out HSK.out HBS.out HBL.out)
                  clear hbs
                  go_wp2_with fail
                  refine HC.out.mono ?_
                  rintro e w20 ⟨apx, cpx, rfl, hrx, hbc⟩
                  replace HRS8 := Lib.hid (HRS8.out.below hbc (Nat.le_refl _))
                  replace HRD8 := Lib.hid (HRD8.out.below hbc (Nat.le_refl _))
                  replace HBW8 := Lib.hid (HBW8.out.trans (hbc.mono HBW8.out.size))
                  have HRX := Lib.hid hrx
                  clear hrx hbc HC
                  go_upto_region 42 with (at_make; refine wpl_make (f := Value.float .f32) (d := 0) und_fse info_f rfl j rfl _ _ rfl rfl rfl (by omega) (by omega) ?_; intro w21 ho0 hb0)
                  have HO4 := Lib.hid ho0
                  have HB04 := Lib.hid hb0
                  have hbz : w20.heap.size ≤ w21.heap.size := hb0.size
                  have HRD9 := HRD8.out.below hb0 (Nat.le_refl _)
                  clear ho0 hb0
                  obtain ⟨yn, hyn⟩ : ∃ yn, Op.negFloat .f32 y = yn := ⟨_, rfl⟩
                  have HYN : Hid (Dy 2 yn (-(q : Int))) := Lib.hid (by rw [← hyn, ← HY.out.2]; exact neg_quarter hq2)
                  have hdp : df[p]?.getD default = y := by rw [← HDF.out]; simp [HP.out]
                  have ixd := fun w' : World => HRD9.idx und_fs siz_fs w' p (by rw [HDL.out]; exact HP.out)
                  have cld := HRD9.cell p (by rw [HDL.out]; exact HP.out)
                  rw [HDL.out] at ixd
                  rw [hdp] at cld
                  have hpl : p < j := HP.out
                  have hio := HO4.out.idx und_fs siz_fs
                  have hcs := HO4.out.cell p (by rw [List.length_replicate]; exact hpl)
                  have hfz := HO4.out.free p (by rw [List.length_replicate]; exact hpl)
                  rw [List.length_replicate] at hio
                  rw [List.getElem_replicate] at hcs
                  have hpz : (p : Int) < (j : Int) := by omega
                  have hsf := @run_store_fl Try.prog
                  have hst := HO4.out.set p (by rw [List.length_replicate]; exact hpl) yn
                  have HRO := Lib.hid hst.1.rd
                  have HB5 := Lib.hid (HB04.out.trans (grown_belowOwn HO4.out hst.2 (Nat.le_refl _) hbz))
                  clear hst HO4 HRD9 hdp HB04
                  have hng : ∀ w' : World, (Op.unary UnOp.neg (.float .f32 y)).run Try.prog w' = .ok (.float .f32 yn) w' := fun w' => by rw [← hyn]; rfl
                  go_upto_region 43 with (fail)
                  clear hio hcs hfz hpz hsf ixd cld hng hbz
                  generalize w21.setCell (elt (some { block := w20.heap.size, off := 0 }) p) (Value.float FloatKind.f32 yn) = w22 at HRO HB5 ⊢
                  generalize hsa : some ({ block := w20.heap.size, off := 0 } : Addr) = aog at HRO ⊢
                  have hb5 := HB5.out
                  replace HRD8 := Lib.hid (HRD8.out.below hb5 (Nat.le_refl _))
                  replace HRS8 := Lib.hid (HRS8.out.below hb5 (Nat.le_refl _))
                  replace HRX := Lib.hid (HRX.out.below hb5 (Nat.le_refl _))
                  replace HBW8 := Lib.hid (HBW8.out.trans (hb5.mono HBW8.out.size))
                  clear hb5 HB5 hsa hyn
                  obtain ⟨of, hof⟩ : ∃ of, (List.replicate j 0).set p yn = of := ⟨_, rfl⟩
                  have HOD : Hid (DyL 2 of (oneZ j p (-(q : Int)))) := Lib.hid (one_dyL hof.symm HYN.out)
                  have HOL : Hid (of.length = j) := Lib.hid (by rw [← hof]; simp)
                  rw [hof] at HRO
                  have hsk := skB_dy HOD.out (fun i => oneZ_bd (by omega) i) (by rw [HOL.out]; omega) (by rw [HOL.out]; omega) HSA.out
                  have hskd := skR_dy HOD.out (fun i => oneZ_bd (by omega) i) (by rw [HOL.out]; omega) (by rw [HOL.out]; omega) HSA.out
                  rw [HOL.out] at hskd
                  have hpo : plR of ss = bs.map (!·) := by rw [plR_dy hskd]; exact HBO.out
                  have HC := Lib.hid (plane_L HRO.out HRS8.out HOL.out hsk hpo (by rw [List.length_map, HBL.out]))
                  clear hof hsk hskd hpo
                  go_wp2_with fail
                  refine HC.out.mono ?_
                  rintro e w23 ⟨apy, cpy, rfl, hry, hbc⟩
                  replace HRD8 := Lib.hid (HRD8.out.below hbc (Nat.le_refl _))
                  replace HRS8 := Lib.hid (HRS8.out.below hbc (Nat.le_refl _))
                  replace HRX := Lib.hid (HRX.out.below hbc (Nat.le_refl _))
                  replace HBW8 := Lib.hid (HBW8.out.trans (hbc.mono HBW8.out.size))
                  obtain ⟨rh, rh1, rh2, rh3⟩ := angle_half (xs := bs) (by rw [HBL.out, HSL2.out]; omega) (by rw [HBL.out, HSL2.out]; omega)
                  obtain ⟨rz, rz1, rz2, rz3⟩ := angle_none (xs := bs) (by rw [HBL.out, HSL2.out]; omega) (by rw [HBL.out, HSL2.out]; omega)
                  have HRH := Lib.hid (And.intro rh3 (And.intro rz1 (And.intro rz2 rz3)))
                  have HC := Lib.hid (angle_L HRX.out hry HBL.out (by rw [List.length_map, HBL.out]) rh2 rh1)
                  clear hry hbc rh1 rh2 rh3 rz1 rz2 rz3 HRO HRS8
                  go_wp2_with fail
                  refine HC.out.mono ?_
                  rintro e w24 ⟨rfl, hbc⟩
                  replace HRD8 := Lib.hid (HRD8.out.below hbc (Nat.le_refl _))
                  replace HRX := Lib.hid (HRX.out.below hbc (Nat.le_refl _))
                  replace HBW8 := Lib.hid (HBW8.out.trans (hbc.mono HBW8.out.size))
                  have HC := Lib.hid (angle_L HRX.out HRX.out HBL.out HBL.out HRH.out.2.2.1 HRH.out.2.1)
                  clear hbc
                  go_wp2_with fail
                  refine HC.out.mono ?_
                  rintro e w25 ⟨rfl, hbc⟩
                  replace HRD8 := Lib.hid (HRD8.out.below hbc (Nat.le_refl _))
                  replace HBW8 := Lib.hid (HBW8.out.trans (hbc.mono HBW8.out.size))
                  clear hbc HC HRX
                  have hdp : df[p]?.getD default = y := by rw [← HDF.out]; simp [HP.out]
                  have ixd := fun w' : World => (HRD8.out).idx und_fs siz_fs w' p (by rw [HDL.out]; exact HP.out)
                  have cld := (HRD8.out).cell p (by rw [HDL.out]; exact HP.out)
                  rw [HDL.out] at ixd
                  rw [hdp] at cld
                  have cv1 := fun w' : World => run_convert_float_float (P := Try.prog) w' 28 34 .f32 .f64 nr _ und_f32 und_f64 (wid_val HGS.out.1).2.2
                  have cv2 := fun w' : World => run_convert_float_float (P := Try.prog) w' 28 34 .f32 .f64 y _ und_f32 und_f64 (wid_val HY.out.1.N).2.2
                  have g1 := HGS.out.2.n1
                  have g2 := HGS.out.2.n2
                  have g3 := HGS.out.2.g
                  have tS := HGS.out.2.lt
                  have t1 := HRH.out.1
                  have t2 := HRH.out.2.2.2
                  have hc2 : c001 = 4562254508917369340 := rfl
                  have hc3 : cHalfB = 1056964608 := rfl
                  rw [hc2] at tS
                  rw [hc3] at t1
                  have hEND := HBW8.out
                  have HEND := Lib.hid hEND
                  clear hc2 hc3 hdp hEND
                  generalize wid nr = wnr at *
                  generalize wid y = wy at *
                  go_wp2_with fail
                  refine (b10Gap_any g1 g2 g3).mono ?_
                  rintro e w26 ⟨rfl, rfl⟩
                  go_wp2
                  go_ret
                  exact ⟨by simp [tS, t1, t2], HEND.out⟩

end Go.Proofs.Ytfclkbppmkjkeaa
