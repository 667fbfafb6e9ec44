/- Valid decays, and a decay at a time, in both texts. A decay at a time in the reference's text. -/
import Derived.Test.YtmmpemfhbnkomaaQJd6
import Derived.Test.YtmmpemfhbnkomaaQJd4
set_option linter.unusedVariables false
set_option linter.unusedSimpArgs false
namespace Go.Proofs.Ytmmpemfhbnkomaa
open Go.RowKit
attribute [local go_sem ↓] Go.wp_at_zero Go.wp_at_succ

/-- Is a decay valid? -/
def decB (H S : Nat) (M : Int) : Bool := fin .f32 (cn .f32 H) && (FloatKind.f32.format.order H 0 == some .gt) && fin .f32 (cn .f32 S) && inR M 0 1000000
def dcV (H S : Nat) (M : Int) : Array Value := #[.float .f32 H, .float .f32 S, .int .i64 M]

set_option maxHeartbeats 2000000 in
theorem validDecay_any {H S : Nat} {M : Int} {w : World} :
    Calls Try.prog 11 #[.agg #[.float .f32 H, .float .f32 S, .int .i64 M]] w fun e w' => e = .returned (.bool (decB H S M)) ∧ Below w.heap.size w w' := by
  have B0 := Lib.hid ((Below.refl w.heap.size w).alloc (Nat.le_refl _) (.cells (dcV H S M) 25))
  have I0 := Lib.hid (Blk.new w (dcV H S M) 25)
  obtain ⟨res, hres⟩ : ∃ r, decB H S M = r := ⟨_, rfl⟩
  have HRES := Lib.hid hres
  rw [hres]
  clear hres
  go_enter Try.func11, Try.ntmps11
  go_upto_region 1 with (fail)
  change Code.wp _ _ _ _ (w.alloc (.cells (dcV H S M) 25))
  generalize w.alloc (.cells (dcV H S M) 25) = w0 at B0 I0 ⊢
  have i0 := I0.out.cell (i := 0) (v := .float .f32 H) rfl
  go_wp2_with fail
  refine isFinite_any.mono ?_
  rintro e w1 ⟨rfl, hb1⟩
  have B1 := Lib.hid (B0.out.trans (hb1.mono B0.out.size))
  have I1 := Lib.hid (I0.out.below hb1 (Nat.le_refl _))
  clear hb1 B0 I0 i0
  have i0 := I1.out.cell (i := 0) (v := .float .f32 H) rfl
  have i1 := I1.out.cell (i := 1) (v := .float .f32 S) rfl
  cases h1 : fin .f32 (cn .f32 H) with
  | false =>
    have hr : res = false := by rw [← HRES.out]; unfold decB; rw [h1]; rfl
    subst hr
    go_wp2
    go_ret
    exact ⟨rfl, B1.out⟩
  | true =>
    by_cases h2 : FloatKind.f32.format.order H 0 = some .gt
    · go_wp2_with fail
      refine isFinite_any.mono ?_
      rintro e w2 ⟨rfl, hb2⟩
      have B2 := Lib.hid (B1.out.trans (hb2.mono B1.out.size))
      have I2 := Lib.hid (I1.out.below hb2 (Nat.le_refl _))
      clear hb2 B1 I1 i0 i1
      have i2 := I2.out.cell (i := 2) (v := .int .i64 M) rfl
      cases h3 : fin .f32 (cn .f32 S) with
      | false =>
        have hr : res = false := by rw [← HRES.out]; unfold decB; rw [h1, h3]; simp
        subst hr
        go_wp2
        go_ret
        exact ⟨rfl, B2.out⟩
      | true =>
        have hr : res = inR M 0 1000000 := by rw [← HRES.out]; unfold decB; rw [h1, h2, h3]; simp
        subst hr
        go_wp2_with fail
        refine isTime_any.mono ?_
        rintro e w3 ⟨rfl, rfl⟩
        go_wp2
        go_ret
        exact ⟨rfl, B2.out⟩
    · have h2' : (FloatKind.f32.format.order H 0 == some Ordering.gt) = false := by simpa using h2
      have hr : res = false := by rw [← HRES.out]; unfold decB; rw [h1, h2']; simp
      subst hr
      go_wp2
      go_ret
      exact ⟨rfl, B1.out⟩

theorem l02Above_any {H : Nat} {w : World} :
    Calls Try.prog 15 #[.float .f32 H] w fun e w' => e = .returned (.bool (fin .f32 (cn .f32 H) && (FloatKind.f32.format.order H 0 == some .gt))) ∧ Below w.heap.size w w' := by
  go_enter Try.func15, Try.ntmps15
  go_wp2_with fail
  refine l01Finite_any.mono ?_
  rintro e w1 ⟨rfl, hb1⟩
  have HB := Lib.hid hb1
  clear hb1
  cases h1 : fin .f32 (cn .f32 H) with
  | false =>
    go_wp2
    go_ret
    exact ⟨ret_bool (by rw [h1]; rfl), HB.out⟩
  | true =>
    go_wp2
    go_ret
    exact ⟨ret_bool (by rw [h1]; rfl), HB.out⟩

set_option maxHeartbeats 2000000 in
theorem l06Decay_any {H S : Nat} {M : Int} {b : Nat} {w : World} (hI : Blk w b (dcV H S M) 25) :
    Calls Try.prog 8 #[.pointer (some ⟨b, 0, none⟩)] w fun e w' => e = .returned (.bool (decB H S M)) ∧ Below w.heap.size w w' := by
  have I0 := Lib.hid hI
  obtain ⟨res, hres⟩ : ∃ r, decB H S M = r := ⟨_, rfl⟩
  have HRES := Lib.hid hres
  rw [hres]
  clear hres hI
  go_enter Try.func8, Try.ntmps8
  have i0 := I0.out.cell (i := 0) (v := .float .f32 H) rfl
  go_wp2_with fail
  refine l02Above_any.mono ?_
  rintro e w1 ⟨rfl, hb1⟩
  have B1 := Lib.hid hb1
  have I1 := Lib.hid (I0.out.below hb1 (Nat.le_refl _))
  clear hb1 I0 i0
  have i1 := I1.out.cell (i := 1) (v := .float .f32 S) rfl
  cases h1 : (fin .f32 (cn .f32 H) && (FloatKind.f32.format.order H 0 == some .gt)) with
  | false =>
    have hr : res = false := by rw [← HRES.out]; unfold decB; rw [h1]; rfl
    subst hr
    go_wp2
    go_ret
    exact ⟨rfl, B1.out⟩
  | true =>
    go_wp2_with fail
    refine l01Finite_any.mono ?_
    rintro e w2 ⟨rfl, hb2⟩
    have B2 := Lib.hid (B1.out.trans (hb2.mono B1.out.size))
    have I2 := Lib.hid (I1.out.below hb2 (Nat.le_refl _))
    clear hb2 B1 I1 i1
    have i2 := I2.out.cell (i := 2) (v := .int .i64 M) rfl
    cases h3 : fin .f32 (cn .f32 S) with
    | false =>
      have hr : res = false := by rw [← HRES.out]; unfold decB; rw [h1, h3]; rfl
      subst hr
      go_wp2
      go_ret
      exact ⟨rfl, B2.out⟩
    | true =>
      have hr : res = inR M 0 1000000 := by rw [← HRES.out]; unfold decB; rw [h1, h3]; rfl
      subst hr
      go_wp2_with fail
      refine l06Time_any.mono ?_
      rintro e w3 ⟨rfl, rfl⟩
      go_wp2
      go_ret
      exact ⟨rfl, B2.out⟩

/-- A decay at a time. -/
def atP (H S : Nat) (M t : Int) : Option Nat := (expQ (t - M) H).bind fun b => fbin .mul .f32 (cn .f32 S) (expO b)
def atB (H S : Nat) (M t : Int) : Bool := decB H S M && inR t 0 1000000 && decide (M ≤ t)
def atO (H S : Nat) (M t : Int) : Option Nat := if atB H S M t then ifFin (atP H S M t) else some 0
theorem decB_num {H S : Nat} {M : Int} (h : decB H S M = true) : (∃ n j, FloatKind.f32.decode H = .number false n j ∧ n ≠ 0) ∧ (0 ≤ M ∧ M ≤ 1000000) := by
  unfold decB at h
  simp only [Bool.and_eq_true, beq_iff_eq] at h
  obtain ⟨⟨⟨h1, h2⟩, h3⟩, h4⟩ := h
  rw [inR_eq] at h4
  refine ⟨?_, h4⟩
  have ho : (FloatKind.f32.decode H).order (FloatKind.f32.decode 0) = some .gt := h2
  obtain ⟨p, hp⟩ := decode_zero .f32
  rw [hp] at ho
  cases hd : FloatKind.f32.decode H with
  | nan s t => rw [hd] at ho; exact absurd ho (by simp [Ieee.Datum.order])
  | infinity s =>
    exfalso
    unfold fin cn at h1
    rw [hd] at h1
    simp [Ieee.Datum.isNaN, Ieee.Datum.isInfinity, hd] at h1
  | number s n j =>
    rw [hd] at ho
    have hc : compare (Ieee.signed s n (j - min j p).toNat) (Ieee.signed false 0 (p - min j p).toNat) = .gt := by
      have h5 : some (compare (Ieee.signed s n (j - min j p).toNat) (Ieee.signed false 0 (p - min j p).toNat)) = some .gt := ho
      simpa using h5
    rw [Int.compare_eq_gt] at hc
    have hz : Ieee.signed false 0 (p - min j p).toNat = 0 := by simp [Ieee.signed]
    rw [hz] at hc
    unfold Ieee.signed at hc
    cases s with
    | true =>
      exfalso
      rw [if_pos rfl] at hc
      generalize n <<< (j - min j p).toNat = g at hc
      omega
    | false =>
      refine ⟨n, j, rfl, fun h0 => ?_⟩
      subst h0
      simp at hc
theorem exp_sgn {H S : Nat} {M t : Int} (h : decB H S M = true) (ht : M ≤ t) : ∃ b, expQ (t - M) H = some b ∧ sgD true (FloatKind.f32.decode b) ∧ cn .f32 H = some H := by
  obtain ⟨⟨n, j, hd, hn⟩, _⟩ := decB_num h
  obtain ⟨b, h1, h2⟩ := expQ_neg (dt := t - M) (by omega) hd hn
  exact ⟨b, h1, h2, by unfold cn; rw [hd]; rfl⟩
theorem cLn_cn : cn .f32 3207688728 = some 3207688728 := by decide +kernel

set_option maxRecDepth 20000 in
set_option maxHeartbeats 4000000 in
theorem implAt_any {H S : Nat} {M t : Int} {w : World} (ht : -9223372036854775808 ≤ t ∧ t ≤ 9223372036854775807) :
    Calls Try.prog 12 #[.agg #[.float .f32 H, .float .f32 S, .int .i64 M], .int .i64 t] w (RetFB w (atO H S M t) (atB H S M t && fin .f32 (atP H S M t))) := by
  have B0 := Lib.hid ((Below.refl w.heap.size w).alloc (Nat.le_refl _) (.cells (dcV H S M) 25))
  have I0 := Lib.hid (Blk.new w (dcV H S M) 25)
  obtain ⟨ro, hro⟩ : ∃ r, atO H S M t = r := ⟨_, rfl⟩
  obtain ⟨rb, hrb⟩ : ∃ r, (atB H S M t && fin .f32 (atP H S M t)) = r := ⟨_, rfl⟩
  rw [hro, hrb]
  have HRO := Lib.hid hro
  have HRB := Lib.hid hrb
  clear hro hrb
  have HNO : Hid (atB H S M t = false → ro = some 0 ∧ rb = false) := Lib.hid (fun h => ⟨by rw [← HRO.out]; unfold atO; rw [h]; rfl, by rw [← HRB.out, h]; rfl⟩)
  go_enter Try.func12, Try.ntmps12
  go_upto_region 1 with (fail)
  change Code.wp _ _ _ _ (w.alloc (.cells (dcV H S M) 25))
  generalize w.alloc (.cells (dcV H S M) 25) = w0 at B0 I0 ⊢
  have i0 := I0.out.cell (i := 0) (v := .float .f32 H) rfl
  have i1 := I0.out.cell (i := 1) (v := .float .f32 S) rfl
  have i2 := I0.out.cell (i := 2) (v := .int .i64 M) rfl
  go_wp2_with fail
  refine validDecay_any.mono ?_
  rintro e w1 ⟨rfl, hb1⟩
  have B1 := Lib.hid (B0.out.trans (hb1.mono B0.out.size))
  have I1 := Lib.hid (I0.out.below hb1 (Nat.le_refl _))
  clear hb1 B0 I0 i0 i1 i2
  have i0 := I1.out.cell (i := 0) (v := .float .f32 H) rfl
  have i1 := I1.out.cell (i := 1) (v := .float .f32 S) rfl
  have i2 := I1.out.cell (i := 2) (v := .int .i64 M) rfl
  cases h1 : decB H S M with
  | false =>
    obtain ⟨rfl, rfl⟩ := HNO.out (by unfold atB; rw [h1]; rfl)
    go_wp2
    go_ret2
    exact ⟨0, rfl, cn_zero, B1.out⟩
  | true =>
    go_wp2_with fail
    refine isTime_any.mono ?_
    rintro e w2 ⟨rfl, rfl⟩
    cases h2 : inR t 0 1000000 with
    | false =>
      obtain ⟨rfl, rfl⟩ := HNO.out (by unfold atB; rw [h1, h2]; rfl)
      go_wp2
      go_ret2
      exact ⟨0, rfl, cn_zero, B1.out⟩
    | true =>
      by_cases h3 : t < M
      · obtain ⟨rfl, rfl⟩ := HNO.out (by unfold atB; rw [h1, h2, decide_eq_false (by omega)]; rfl)
        go_wp2
        go_ret2
        exact ⟨0, rfl, cn_zero, B1.out⟩
      · obtain ⟨b, hb, hs, hH⟩ := exp_sgn (t := t) h1 (by omega)
        have hM := (decB_num h1).2
        have h2' := (inR_eq _ _ _).1 h2
        have ewt : IntKind.i64.wrap (t - M) = t - M := IntWalk.i64_in _ (by omega)
        have HB := Lib.hid hb
        have HSG : Hid (∀ q r, cn .f32 r = fbin .mul .f32 (cn .f32 3207688728) (cn .f32 (floatOfInt .f32 (t - M))) → cn .f32 q = fbin .quo .f32 (cn .f32 r) (cn .f32 H) → q = b) := Lib.hid (fun q r h4 h5 => by
          rw [h4, cLn_cn, cn_ofInt, hH] at h5
          have h6 : cn .f32 q = some b := by rw [h5]; exact hb
          exact (cn_some h6).1)
        have HS := Lib.hid hs
        clear hb hs hH h2' hM
        go_upto_region 3 with (fail)
        go_region_with (first
          | (go_at_call 24; refine (implExp_any (by have hqb := HSG.out _ _ (by assumption) (by assumption); rw [hqb]; exact HS.out)).mono ?_; rintro e w2 ⟨r2, rfl, hr2, hb2⟩; have i1 := k_at hb2 i1)
          | (go_at_call 23; refine ifFinite_any.mono ?_; rintro e w3 ⟨r3, rfl, hr3, hb3⟩)
          | (refine upon_fbin rfl _ _ ?_; rintro q w' ⟨n, rfl⟩ hq))
        all_goals
          rename_i qa na ha qb nb hqb
          have e1 : qb = b := HSG.out _ _ ha hqb
          subst e1
          have hp : atP H S M t = fbin .mul .f32 (cn .f32 S) (expO qb) := by unfold atP; rw [HB.out]; rfl
          have hab : atB H S M t = true := by unfold atB; rw [h1, h2, decide_eq_true (by omega)]; rfl
          have hro' : ro = ifFin (fbin .mul .f32 (cn .f32 S) (expO qb)) := by rw [← HRO.out]; unfold atO; rw [hab, if_pos rfl, hp]
          have hrb' : rb = fin .f32 (fbin .mul .f32 (cn .f32 S) (expO qb)) := by rw [← HRB.out, hab, hp]; rfl
          have hqq : cn .f32 q = fbin .mul .f32 (cn .f32 S) (expO qb) := by rw [hq, hr2]
          have HR3 := Lib.hid hr3
          have HQQ := Lib.hid hqq
          have HX := Lib.hid (And.intro hro' hrb')
          have HBB := Lib.hid (B1.out.trans (((below_of_drewN w1 _ w1.heap.size).trans (hb2.mono (Nat.le_refl _))).mono B1.out.size))
          have HBC := Lib.hid (HBB.out.trans (((below_of_drewN w2 _ w2.heap.size).trans (hb3.mono (Nat.le_refl _))).mono HBB.out.size))
          clear hb2 hb3 hr3 hqq hro' hrb' hr2 hq
          go_wp2
          go_ret2
          exact ⟨r3, by rw [HX.out.2]; first | rfl | (rw [← HQQ.out]), by rw [HR3.out, HX.out.1, HQQ.out], HBC.out⟩

end Go.Proofs.Ytmmpemfhbnkomaa

namespace Go.Proofs.Ytmmpemfhbnkomaa
open Go.RowKit
attribute [local go_sem ↓] Go.wp_at_zero Go.wp_at_succ

set_option maxRecDepth 20000 in
set_option maxHeartbeats 4000000 in
theorem specAt_any {H S : Nat} {M t : Int} {w : World} (ht : -9223372036854775808 ≤ t ∧ t ≤ 9223372036854775807) :
    Calls Try.prog 10 #[.agg #[.float .f32 H, .float .f32 S, .int .i64 M], .int .i64 t] w (RetFB w (atO H S M t) (atB H S M t && fin .f32 (atP H S M t))) := by
  have B0 := Lib.hid ((Below.refl w.heap.size w).alloc (Nat.le_refl _) (.cells (dcV H S M) 25))
  have I0 := Lib.hid (Blk.new w (dcV H S M) 25)
  obtain ⟨ro, hro⟩ : ∃ r, atO H S M t = r := ⟨_, rfl⟩
  obtain ⟨rb, hrb⟩ : ∃ r, (atB H S M t && fin .f32 (atP H S M t)) = r := ⟨_, rfl⟩
  rw [hro, hrb]
  have HRO := Lib.hid hro
  have HRB := Lib.hid hrb
  clear hro hrb
  have HNO : Hid (atB H S M t = false → ro = some 0 ∧ rb = false) := Lib.hid (fun h => ⟨by rw [← HRO.out]; unfold atO; rw [h]; rfl, by rw [← HRB.out, h]; rfl⟩)
  go_enter Try.func10, Try.ntmps10
  go_upto_region 1 with (fail)
  change Code.wp _ _ _ _ (w.alloc (.cells (dcV H S M) 25))
  generalize w.alloc (.cells (dcV H S M) 25) = w0 at B0 I0 ⊢
  go_wp2_with fail
  refine (l06Decay_any I0.out).mono ?_
  rintro e w1 ⟨rfl, hb1⟩
  have B1 := Lib.hid (B0.out.trans (hb1.mono B0.out.size))
  have I1 := Lib.hid (I0.out.below hb1 (Nat.le_refl _))
  clear hb1 B0 I0
  have i0 := I1.out.cell (i := 0) (v := .float .f32 H) rfl
  have i1 := I1.out.cell (i := 1) (v := .float .f32 S) rfl
  have i2 := I1.out.cell (i := 2) (v := .int .i64 M) rfl
  cases h1 : decB H S M with
  | false =>
    obtain ⟨rfl, rfl⟩ := HNO.out (by unfold atB; rw [h1]; rfl)
    go_wp2
    go_ret2
    exact ⟨0, rfl, cn_zero, B1.out⟩
  | true =>
    go_wp2_with fail
    refine (l00In_any _ _ _ _).mono ?_
    rintro e w2 ⟨rfl, rfl⟩
    have hM := (decB_num h1).2
    cases h2 : inR t M 1000000 with
    | false =>
      obtain ⟨rfl, rfl⟩ := HNO.out (by
        unfold atB
        rw [h1, Bool.true_and]
        unfold inR at h2 ⊢
        have h3 := of_decide_eq_false h2
        by_cases h4 : M ≤ t
        · rw [decide_eq_false (p := 0 ≤ t ∧ t ≤ 1000000) (by omega)]; rfl
        · rw [decide_eq_false (p := M ≤ t) h4]; simp)
      go_wp2
      go_ret2
      exact ⟨0, rfl, cn_zero, B1.out⟩
    | true =>
      have h2' := (inR_eq _ _ _).1 h2
      have h3 : ¬ t < M := by omega
      obtain ⟨b, hb, hs, hH⟩ := exp_sgn (t := t) h1 (by omega)
      have ewt : IntKind.i64.wrap (t - M) = t - M := IntWalk.i64_in _ (by omega)
      have HB := Lib.hid hb
      have HSG : Hid (∀ q r, cn .f32 r = fbin .mul .f32 (cn .f32 3207688728) (cn .f32 (floatOfInt .f32 (t - M))) → cn .f32 q = fbin .quo .f32 (cn .f32 r) (cn .f32 H) → q = b) := Lib.hid (fun q r h4 h5 => by
        rw [h4, cLn_cn, cn_ofInt, hH] at h5
        have h6 : cn .f32 q = some b := by rw [h5]; exact hb
        exact (cn_some h6).1)
      have HS := Lib.hid hs
      have HAB : Hid (atB H S M t = true) := Lib.hid (by unfold atB; rw [h1, decide_eq_true (show M ≤ t by omega)]; unfold inR; rw [decide_eq_true (by omega)]; rfl)
      clear hb hs hH h2' hM
      go_upto_region 4 with (first | (refine wpl_fbin rfl .mul _ _ _ _ rfl rfl .f32 _ _ rfl rfl ?_; rintro r1 w' ⟨n1, rfl⟩ hr1; have HR1 := Lib.hid hr1; clear hr1) | (refine wpl_fbin rfl .quo _ _ _ _ rfl rfl .f32 _ _ rfl rfl ?_; rintro r w' ⟨n, rfl⟩ hr; have HR := Lib.hid hr; clear hr))
      have e1 : r = b := HSG.out _ _ HR1.out HR.out
      subst e1
      clear HSG HR HR1
      generalize hwb : w1.drewN _ = wb
      have HBb : Hid (Below w.heap.size w wb) := Lib.hid (by rw [← hwb]; exact B1.out.trans (below_of_drewN _ _ _))
      have Ib : Hid (Blk wb w.heap.size (dcV H S M) 25) := Lib.hid (by rw [← hwb]; exact I1.out.drewN _)
      clear hwb B1 I1 i0 i1 i2
      have i1 := Ib.out.cell (i := 1) (v := .float .f32 S) rfl
      go_region_with (first
        | (go_at_call 20; refine (l01Exp_any HS.out).mono ?_; rintro e w2 ⟨r2, rfl, hr2, hb2⟩; have i1 := k_at hb2 i1)
        | (go_at_call 19; refine l02Number_any.mono ?_; rintro e w3 ⟨r3, rfl, hr3, hb3⟩)
        | (refine upon_fbin rfl _ _ ?_; rintro q w' ⟨n, rfl⟩ hq))
      all_goals
        have hp : atP H S M t = fbin .mul .f32 (cn .f32 S) (expO r) := by unfold atP; rw [HB.out]; rfl
        have hro' : ro = ifFin (fbin .mul .f32 (cn .f32 S) (expO r)) := by rw [← HRO.out]; unfold atO; rw [HAB.out, if_pos rfl, hp]
        have hrb' : rb = fin .f32 (fbin .mul .f32 (cn .f32 S) (expO r)) := by rw [← HRB.out, HAB.out, hp]; rfl
        have hqq : cn .f32 q = fbin .mul .f32 (cn .f32 S) (expO r) := by rw [hq, hr2]
        have HR3 := Lib.hid hr3
        have HQQ := Lib.hid hqq
        have HX := Lib.hid (And.intro hro' hrb')
        have HBB := Lib.hid (HBb.out.trans (((below_of_drewN wb _ wb.heap.size).trans (hb2.mono (Nat.le_refl _))).mono HBb.out.size))
        have HBC := Lib.hid (HBB.out.trans (((below_of_drewN w2 _ w2.heap.size).trans (hb3.mono (Nat.le_refl _))).mono HBB.out.size))
        clear hb2 hb3 hr3 hqq hro' hrb' hr2 hq
        go_wp2
        go_ret2
        exact ⟨r3, by rw [HX.out.2]; first | rfl | (rw [← HQQ.out]), by rw [HR3.out, HX.out.1, HQQ.out], HBC.out⟩

end Go.Proofs.Ytmmpemfhbnkomaa
