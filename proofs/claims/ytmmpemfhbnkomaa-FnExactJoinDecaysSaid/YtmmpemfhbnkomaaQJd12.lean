/- The walk of the law FnExactJoinDecays. -/
import Derived.Test.YtmmpemfhbnkomaaQJd11
import Derived.Deep.RegionLaw
import Derived.Deep.RegionHeld3
import Derived.Deep.DeepCutAuto
set_option linter.unusedVariables false
set_option linter.unusedSimpArgs false
namespace Go.Proofs.Ytmmpemfhbnkomaa
open Go.RowKit
attribute [local go_sem ↓] Go.wp_at_zero Go.wp_at_succ

set_option maxRecDepth 20000 in
set_option maxHeartbeats 2000000 in
theorem lawJoinDecays_walk {Ha Sa Hb Sb : Nat} {Ma Mb : Int} {w : World} :
    Calls Try.prog 3 #[.agg #[.float .f32 Ha, .float .f32 Sa, .int .i64 Ma], .agg #[.float .f32 Hb, .float .f32 Sb, .int .i64 Mb]] w fun e w' => e = .returned (.bool true) ∧ Below w.heap.size w w' := by
  have hB1 : Below w.heap.size w (w.alloc (.cells (dcV Ha Sa Ma) 24)) := (Below.refl _ _).alloc (Nat.le_refl _) _
  have B0 := Lib.hid (hB1.alloc (by simp) (.cells (dcV Hb Sb Mb) 24))
  have Ia : Hid (Blk ((w.alloc (.cells (dcV Ha Sa Ma) 24)).alloc (.cells (dcV Hb Sb Mb) 24)) w.heap.size (dcV Ha Sa Ma) 24) := Lib.hid ((Blk.new _ _ _).alloc _)
  have Ib : Hid (Blk ((w.alloc (.cells (dcV Ha Sa Ma) 24)).alloc (.cells (dcV Hb Sb Mb) 24)) (w.heap.size + 1) (dcV Hb Sb Mb) 24) := Lib.hid (Blk.new' (by simp))
  clear hB1
  obtain ⟨ok, hok⟩ : ∃ b, jOk Ha Sa Ma Hb Sb Mb (max Ma Mb) = b := ⟨_, rfl⟩
  obtain ⟨so, hso⟩ : ∃ b, (if ok then jS Ha Sa Ma Hb Sb Mb (max Ma Mb) else some 0) = b := ⟨_, rfl⟩
  obtain ⟨ho, hho⟩ : ∃ b, (if ok then Ha else 0) = b := ⟨_, rfl⟩
  obtain ⟨mo, hmo⟩ : ∃ b, (if ok then max Ma Mb else 0) = b := ⟨_, rfl⟩
  have HI : Hid (∀ w', Calls Try.prog 6 #[.agg #[.float .f32 Ha, .float .f32 Sa, .int .i64 Ma], .agg #[.float .f32 Hb, .float .f32 Sb, .int .i64 Mb]] w' (RetJF w' ok ho so mo)) := Lib.hid (fun w' => implJoinDecays_any.mono (fun e w'' h => by have q := h.flat; rw [hok, hso, hho, hmo] at q; exact q))
  have HS : Hid (∀ w', Calls Try.prog 4 #[.agg #[.float .f32 Ha, .float .f32 Sa, .int .i64 Ma], .agg #[.float .f32 Hb, .float .f32 Sb, .int .i64 Mb]] w' (RetJF w' ok ho so mo)) := Lib.hid (fun w' => specJoinDecays_any.mono (fun e w'' h => by have q := h.flat; rw [hok, hso, hho, hmo] at q; exact q))
  clear hok hso hho hmo
  have hsf := @run_store_fl Try.prog
  go_enter Try.func3, Try.ntmps3
  go_upto_region 1 with (fail)
  change Code.wp _ _ _ _ ((w.alloc (.cells (dcV Ha Sa Ma) 24)).alloc (.cells (dcV Hb Sb Mb) 24))
  generalize ((w.alloc (.cells (dcV Ha Sa Ma) 24)).alloc (.cells (dcV Hb Sb Mb) 24)) = w0 at B0 Ia Ib ⊢
  have hB0s := B0.out.size
  go_cut [5, 6] (fun pp bb wx => ∃ (g r : Nat), pp = .pointer (some ⟨g, 0, none⟩) ∧ bb = .bool ok ∧ Hid (cn .f32 r = so) ∧ Hid (Blk wx g (dcV ho r mo) 25) ∧ Hid (Below w0.heap.size w0 wx) ∧ w0.heap.size ≤ g)
  case first =>
    have a0 := Ia.out.cell (i := 0) (v := .float .f32 Ha) rfl
    have a1 := Ia.out.cell (i := 1) (v := .float .f32 Sa) rfl
    have a2 := Ia.out.cell (i := 2) (v := .int .i64 Ma) rfl
    have b0 := Ib.out.cell (i := 0) (v := .float .f32 Hb) rfl
    have b1 := Ib.out.cell (i := 1) (v := .float .f32 Sb) rfl
    have b2 := Ib.out.cell (i := 2) (v := .int .i64 Mb) rfl
    have la : w.heap.size < w0.heap.size := World.block_lt_of_cell? _ _ a0
    have lb : w.heap.size + 1 < w0.heap.size := World.block_lt_of_cell? _ _ b0
    have C : Hid (Below w0.heap.size w0 w0.drew) := Lib.hid (below_of_drewN w0 1 _)
    go_region_law (first
      | (go_simp; go_at_call 5; refine toDecay_any.mono ?_; rintro e wx ⟨rfl, hbx⟩; (first | (have a0 := k_at hbx a0; have a1 := k_at hbx a1; have a2 := k_at hbx a2; have b0 := k_at hbx b0; have b1 := k_at hbx b1; have b2 := k_at hbx b2) | (have a0 := k_at hbx (k_alloc a0); have a1 := k_at hbx (k_alloc a1); have a2 := k_at hbx (k_alloc a2); have b0 := k_at hbx (k_alloc b0); have b1 := k_at hbx (k_alloc b1); have b2 := k_at hbx (k_alloc b2))); have la : w.heap.size < wx.heap.size := World.block_lt_of_cell? _ _ a0; have lb : w.heap.size + 1 < wx.heap.size := World.block_lt_of_cell? _ _ b0; (first | (have Z := Lib.hid (Z.out.below hbx (Nat.le_refl _)); have z0 := Z.out.cell (i := 0) (v := .float .f32 0) rfl; have z1 := Z.out.cell (i := 1) (v := .float .f32 0) rfl; have z2 := Z.out.cell (i := 2) (v := .int .i64 0) rfl; have y0 := Z.out.free 0; have y1 := Z.out.free 1; have y2 := Z.out.free 2) | (have Z : Hid (Blk _ w0.heap.size (dcV 0 0 0) 25) := Lib.hid (Blk.newBelow hbx (Nat.le_refl _)); have zg := Nat.le_refl w0.heap.size; have z0 := Z.out.cell (i := 0) (v := .float .f32 0) rfl; have z1 := Z.out.cell (i := 1) (v := .float .f32 0) rfl; have z2 := Z.out.cell (i := 2) (v := .int .i64 0) rfl; have y0 := Z.out.free 0; have y1 := Z.out.free 1; have y2 := Z.out.free 2) | (have Z := Lib.hid (Blk.newBelow hbx (Nat.le_refl _)); have zg := C.out.size; have z0 := Z.out.cell (i := 0) (v := .float .f32 0) rfl; have z1 := Z.out.cell (i := 1) (v := .float .f32 0) rfl; have z2 := Z.out.cell (i := 2) (v := .int .i64 0) rfl; have y0 := Z.out.free 0; have y1 := Z.out.free 1; have y2 := Z.out.free 2) | (have Z : Hid (Blk _ w0.heap.size (dcV 0 0 0) 25) := Lib.hid (Blk.newBelowD hbx (Nat.le_refl _)); have zg := Nat.le_refl w0.heap.size; have z0 := Z.out.cell (i := 0) (v := .float .f32 0) rfl; have z1 := Z.out.cell (i := 1) (v := .float .f32 0) rfl; have z2 := Z.out.cell (i := 2) (v := .int .i64 0) rfl; have y0 := Z.out.free 0; have y1 := Z.out.free 1; have y2 := Z.out.free 2) | (have Z := Lib.hid (Blk.newBelowD hbx (Nat.le_refl _)); have zg := C.out.size; have z0 := Z.out.cell (i := 0) (v := .float .f32 0) rfl; have z1 := Z.out.cell (i := 1) (v := .float .f32 0) rfl; have z2 := Z.out.cell (i := 2) (v := .int .i64 0) rfl; have y0 := Z.out.free 0; have y1 := Z.out.free 1; have y2 := Z.out.free 2) | skip); (first | (have C := Lib.hid (C.out.trans (hbx.mono C.out.size))) | (have C := Lib.hid ((C.out.alloc C.out.size _).trans (hbx.mono (C.out.alloc C.out.size _).size)))))
      | (go_simp; go_at_call 4; refine (HS.out _).mono ?_; rintro e wj ⟨r, rfl, hr, hbj⟩; (first | (have Z := Lib.hid (Z.out.below hbj (Nat.le_refl _)); have z0 := Z.out.cell (i := 0) (v := .float .f32 0) rfl; have z1 := Z.out.cell (i := 1) (v := .float .f32 0) rfl; have z2 := Z.out.cell (i := 2) (v := .int .i64 0) rfl; have y0 := Z.out.free 0; have y1 := Z.out.free 1; have y2 := Z.out.free 2) | (have Z : Hid (Blk _ w0.heap.size (dcV 0 0 0) 25) := Lib.hid (Blk.newBelow hbj (Nat.le_refl _)); have zg := Nat.le_refl w0.heap.size; have z0 := Z.out.cell (i := 0) (v := .float .f32 0) rfl; have z1 := Z.out.cell (i := 1) (v := .float .f32 0) rfl; have z2 := Z.out.cell (i := 2) (v := .int .i64 0) rfl; have y0 := Z.out.free 0; have y1 := Z.out.free 1; have y2 := Z.out.free 2) | (have Z := Lib.hid (Blk.newBelow hbj (Nat.le_refl _)); have zg := C.out.size; have z0 := Z.out.cell (i := 0) (v := .float .f32 0) rfl; have z1 := Z.out.cell (i := 1) (v := .float .f32 0) rfl; have z2 := Z.out.cell (i := 2) (v := .int .i64 0) rfl; have y0 := Z.out.free 0; have y1 := Z.out.free 1; have y2 := Z.out.free 2) | (have Z : Hid (Blk _ w0.heap.size (dcV 0 0 0) 25) := Lib.hid (Blk.newBelowD hbj (Nat.le_refl _)); have zg := Nat.le_refl w0.heap.size; have z0 := Z.out.cell (i := 0) (v := .float .f32 0) rfl; have z1 := Z.out.cell (i := 1) (v := .float .f32 0) rfl; have z2 := Z.out.cell (i := 2) (v := .int .i64 0) rfl; have y0 := Z.out.free 0; have y1 := Z.out.free 1; have y2 := Z.out.free 2) | (have Z := Lib.hid (Blk.newBelowD hbj (Nat.le_refl _)); have zg := C.out.size; have z0 := Z.out.cell (i := 0) (v := .float .f32 0) rfl; have z1 := Z.out.cell (i := 1) (v := .float .f32 0) rfl; have z2 := Z.out.cell (i := 2) (v := .int .i64 0) rfl; have y0 := Z.out.free 0; have y1 := Z.out.free 1; have y2 := Z.out.free 2) | skip); (first | (have C := Lib.hid (C.out.trans (hbj.mono C.out.size))) | (have C := Lib.hid ((C.out.alloc C.out.size _).trans (hbj.mono (C.out.alloc C.out.size _).size))))))
    all_goals
      go_wp2_with fail
      go_meet
      first
      | exact ⟨_, r, rfl, rfl, Lib.hid hr, Lib.hid (((Z.out.set 0 _).set 1 _).set 2 _), Lib.hid (((C.out.setCell zg _).setCell zg _).setCell zg _), zg⟩
      | exact ⟨_, r, rfl, rfl, Lib.hid hr, Lib.hid (Blk.new _ _ _), Lib.hid (C.out.alloc C.out.size _), C.out.size⟩

  case rest =>
    obtain ⟨g5, r5, rfl, rfl, HR5, Z5, C5, hg5⟩ := hcut
    have Ia := Lib.hid (Ia.out.below C5.out (Nat.le_refl _))
    have Ib := Lib.hid (Ib.out.below C5.out (Nat.le_refl _))
    have B5 := Lib.hid (B0.out.trans (C5.out.mono B0.out.size))
    have hB5s := B5.out.size
    clear HS C5 B0
    go_upto_region 2 with (fail)
    go_cut [7, 8] (fun pp bb wx => ∃ (g r : Nat), pp = .pointer (some ⟨g, 0, none⟩) ∧ bb = .bool ok ∧ Hid (cn .f32 r = so) ∧ Hid (Blk wx g (dcV ho r mo) 25) ∧ Hid (Below wc.heap.size wc wx) ∧ wc.heap.size ≤ g)
    case first =>
      have a0 := Ia.out.cell (i := 0) (v := .float .f32 Ha) rfl
      have a1 := Ia.out.cell (i := 1) (v := .float .f32 Sa) rfl
      have a2 := Ia.out.cell (i := 2) (v := .int .i64 Ma) rfl
      have b0 := Ib.out.cell (i := 0) (v := .float .f32 Hb) rfl
      have b1 := Ib.out.cell (i := 1) (v := .float .f32 Sb) rfl
      have b2 := Ib.out.cell (i := 2) (v := .int .i64 Mb) rfl
      have la : w.heap.size < wc.heap.size := World.block_lt_of_cell? _ _ a0
      have lb : w.heap.size + 1 < wc.heap.size := World.block_lt_of_cell? _ _ b0
      have C : Hid (Below wc.heap.size wc wc.drew) := Lib.hid (below_of_drewN wc 1 _)
      go_region_law (first
        | (go_simp; go_at_call 5; refine toDecay_any.mono ?_; rintro e wx ⟨rfl, hbx⟩; (first | (have a0 := k_at hbx a0; have a1 := k_at hbx a1; have a2 := k_at hbx a2; have b0 := k_at hbx b0; have b1 := k_at hbx b1; have b2 := k_at hbx b2) | (have a0 := k_at hbx (k_alloc a0); have a1 := k_at hbx (k_alloc a1); have a2 := k_at hbx (k_alloc a2); have b0 := k_at hbx (k_alloc b0); have b1 := k_at hbx (k_alloc b1); have b2 := k_at hbx (k_alloc b2))); have la : w.heap.size < wx.heap.size := World.block_lt_of_cell? _ _ a0; have lb : w.heap.size + 1 < wx.heap.size := World.block_lt_of_cell? _ _ b0; (first | (have Z := Lib.hid (Z.out.below hbx (Nat.le_refl _)); have z0 := Z.out.cell (i := 0) (v := .float .f32 0) rfl; have z1 := Z.out.cell (i := 1) (v := .float .f32 0) rfl; have z2 := Z.out.cell (i := 2) (v := .int .i64 0) rfl; have y0 := Z.out.free 0; have y1 := Z.out.free 1; have y2 := Z.out.free 2) | (have Z : Hid (Blk _ wc.heap.size (dcV 0 0 0) 25) := Lib.hid (Blk.newBelow hbx (Nat.le_refl _)); have zg := Nat.le_refl wc.heap.size; have z0 := Z.out.cell (i := 0) (v := .float .f32 0) rfl; have z1 := Z.out.cell (i := 1) (v := .float .f32 0) rfl; have z2 := Z.out.cell (i := 2) (v := .int .i64 0) rfl; have y0 := Z.out.free 0; have y1 := Z.out.free 1; have y2 := Z.out.free 2) | (have Z := Lib.hid (Blk.newBelow hbx (Nat.le_refl _)); have zg := C.out.size; have z0 := Z.out.cell (i := 0) (v := .float .f32 0) rfl; have z1 := Z.out.cell (i := 1) (v := .float .f32 0) rfl; have z2 := Z.out.cell (i := 2) (v := .int .i64 0) rfl; have y0 := Z.out.free 0; have y1 := Z.out.free 1; have y2 := Z.out.free 2) | (have Z : Hid (Blk _ wc.heap.size (dcV 0 0 0) 25) := Lib.hid (Blk.newBelowD hbx (Nat.le_refl _)); have zg := Nat.le_refl wc.heap.size; have z0 := Z.out.cell (i := 0) (v := .float .f32 0) rfl; have z1 := Z.out.cell (i := 1) (v := .float .f32 0) rfl; have z2 := Z.out.cell (i := 2) (v := .int .i64 0) rfl; have y0 := Z.out.free 0; have y1 := Z.out.free 1; have y2 := Z.out.free 2) | (have Z := Lib.hid (Blk.newBelowD hbx (Nat.le_refl _)); have zg := C.out.size; have z0 := Z.out.cell (i := 0) (v := .float .f32 0) rfl; have z1 := Z.out.cell (i := 1) (v := .float .f32 0) rfl; have z2 := Z.out.cell (i := 2) (v := .int .i64 0) rfl; have y0 := Z.out.free 0; have y1 := Z.out.free 1; have y2 := Z.out.free 2) | skip); (first | (have C := Lib.hid (C.out.trans (hbx.mono C.out.size))) | (have C := Lib.hid ((C.out.alloc C.out.size _).trans (hbx.mono (C.out.alloc C.out.size _).size)))))
        | (go_simp; go_at_call 6; refine (HI.out _).mono ?_; rintro e wj ⟨r, rfl, hr, hbj⟩; (first | (have Z := Lib.hid (Z.out.below hbj (Nat.le_refl _)); have z0 := Z.out.cell (i := 0) (v := .float .f32 0) rfl; have z1 := Z.out.cell (i := 1) (v := .float .f32 0) rfl; have z2 := Z.out.cell (i := 2) (v := .int .i64 0) rfl; have y0 := Z.out.free 0; have y1 := Z.out.free 1; have y2 := Z.out.free 2) | (have Z : Hid (Blk _ wc.heap.size (dcV 0 0 0) 25) := Lib.hid (Blk.newBelow hbj (Nat.le_refl _)); have zg := Nat.le_refl wc.heap.size; have z0 := Z.out.cell (i := 0) (v := .float .f32 0) rfl; have z1 := Z.out.cell (i := 1) (v := .float .f32 0) rfl; have z2 := Z.out.cell (i := 2) (v := .int .i64 0) rfl; have y0 := Z.out.free 0; have y1 := Z.out.free 1; have y2 := Z.out.free 2) | (have Z := Lib.hid (Blk.newBelow hbj (Nat.le_refl _)); have zg := C.out.size; have z0 := Z.out.cell (i := 0) (v := .float .f32 0) rfl; have z1 := Z.out.cell (i := 1) (v := .float .f32 0) rfl; have z2 := Z.out.cell (i := 2) (v := .int .i64 0) rfl; have y0 := Z.out.free 0; have y1 := Z.out.free 1; have y2 := Z.out.free 2) | (have Z : Hid (Blk _ wc.heap.size (dcV 0 0 0) 25) := Lib.hid (Blk.newBelowD hbj (Nat.le_refl _)); have zg := Nat.le_refl wc.heap.size; have z0 := Z.out.cell (i := 0) (v := .float .f32 0) rfl; have z1 := Z.out.cell (i := 1) (v := .float .f32 0) rfl; have z2 := Z.out.cell (i := 2) (v := .int .i64 0) rfl; have y0 := Z.out.free 0; have y1 := Z.out.free 1; have y2 := Z.out.free 2) | (have Z := Lib.hid (Blk.newBelowD hbj (Nat.le_refl _)); have zg := C.out.size; have z0 := Z.out.cell (i := 0) (v := .float .f32 0) rfl; have z1 := Z.out.cell (i := 1) (v := .float .f32 0) rfl; have z2 := Z.out.cell (i := 2) (v := .int .i64 0) rfl; have y0 := Z.out.free 0; have y1 := Z.out.free 1; have y2 := Z.out.free 2) | skip); (first | (have C := Lib.hid (C.out.trans (hbj.mono C.out.size))) | (have C := Lib.hid ((C.out.alloc C.out.size _).trans (hbj.mono (C.out.alloc C.out.size _).size))))))
      all_goals
        go_wp2_with fail
        go_meet
        first
        | exact ⟨_, r, rfl, rfl, Lib.hid hr, Lib.hid (((Z.out.set 0 _).set 1 _).set 2 _), Lib.hid (((C.out.setCell zg _).setCell zg _).setCell zg _), zg⟩
        | exact ⟨_, r, rfl, rfl, Lib.hid hr, Lib.hid (Blk.new _ _ _), Lib.hid (C.out.alloc C.out.size _), C.out.size⟩

    case rest =>
      obtain ⟨g7, r7, rfl, rfl, HR7, Z7, C7, hg7⟩ := hcut
      have Z5' := Lib.hid (Z5.out.below C7.out (Nat.le_refl _))
      have B7 := Lib.hid (B5.out.trans (C7.out.mono B5.out.size))
      clear HI C7 B5 Ia Ib Z5
      have u0 := Z7.out.cell (i := 0) (v := .float .f32 ho) rfl
      have u1 := Z7.out.cell (i := 1) (v := .float .f32 r7) rfl
      have u2 := Z7.out.cell (i := 2) (v := .int .i64 mo) rfl
      have v0 := Z5'.out.cell (i := 0) (v := .float .f32 ho) rfl
      have v1 := Z5'.out.cell (i := 1) (v := .float .f32 r5) rfl
      have v2 := Z5'.out.cell (i := 2) (v := .int .i64 mo) rfl
      have hnb : (ok ^^ ok) = false := by simp
      have hnb2 : (ok != ok) = false := by simp
      go_wp2_with fail
      refine (eqDecay_any (by rw [HR7.out, HR5.out])).mono ?_
      rintro e w9 ⟨rfl, hb9⟩
      have B9 := Lib.hid (B7.out.trans (hb9.mono B7.out.size))
      clear hb9 u0 u1 u2 v0 v1 v2
      go_wp2
      go_ret
      exact ⟨rfl, B9.out⟩

end Go.Proofs.Ytmmpemfhbnkomaa
