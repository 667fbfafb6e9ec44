/- Valid decays, and a decay at a time, in both texts. The decays' factor at d steps and each half: against the powers of a number. (printed by mkExT.py). -/
import Derived.Test.YtncbkbfkdgggkaaQWn9
import Derived.Test.YtncbkbfkdgggkaaQWn5
import Derived.Test.YtncbkbfkdgggkaaQWn2
namespace Go.Proofs.Ytncbkbfkdgggkaa
open Go.RowKit
attribute [local go_sem ↓] Go.wp_at_zero Go.wp_at_succ

/-- Is a decay valid? -/
def decB (H S : Nat) (M : Int) : Bool := fin .f32 (cn .f32 H) && (FloatKind.f32.format.order H 0 == some .gt) && fin .f32 (cn .f32 S) && inR M 0 1000000
def dcV (H S : Nat) (M : Int) : Array Value := #[.float .f32 H, .float .f32 S, .int .i64 M]

set_option maxHeartbeats 2000000 in
theorem validDecay_any {H S : Nat} {M : Int} {w : World} :
    Calls Try.prog 16 #[.agg #[.float .f32 H, .float .f32 S, .int .i64 M]] w fun e w' => e = .returned (.bool (decB H S M)) ∧ Below w.heap.size w w' := by
  have B0 := Lib.hid ((Below.refl w.heap.size w).alloc (Nat.le_refl _) (.cells (dcV H S M) 41))
  have I0 := Lib.hid (Blk.new w (dcV H S M) 41)
  obtain ⟨res, hres⟩ : ∃ r, decB H S M = r := ⟨_, rfl⟩
  have HRES := Lib.hid hres
  rw [hres]
  clear hres
  go_enter Try.func16, Try.ntmps16
  go_upto_region 1 with (fail)
  change Code.wp _ _ _ _ (w.alloc (.cells (dcV H S M) 41))
  generalize w.alloc (.cells (dcV H S M) 41) = w0 at B0 I0 ⊢
  have i0 := I0.out.cell (i := 0) (v := .float .f32 H) rfl
  go_wp2_with fail
  refine isFinite_any.mono ?_
  rintro e w1 ⟨rfl, hb1⟩
  have B1 := Lib.hid (B0.out.trans (hb1.mono B0.out.size))
  have I1 := Lib.hid (I0.out.below hb1 (Nat.le_refl _))
  clear hb1 B0 I0 i0
  have i0 := I1.out.cell (i := 0) (v := .float .f32 H) rfl
  have i1 := I1.out.cell (i := 1) (v := .float .f32 S) rfl
  cases h1 : fin .f32 (cn .f32 H) with
  | false =>
    have hr : res = false := by rw [← HRES.out]; unfold decB; rw [h1]; rfl
    subst hr
    go_wp2
    go_ret
    exact ⟨rfl, B1.out⟩
  | true =>
    by_cases h2 : FloatKind.f32.format.order H 0 = some .gt
    · go_wp2_with fail
      refine isFinite_any.mono ?_
      rintro e w2 ⟨rfl, hb2⟩
      have B2 := Lib.hid (B1.out.trans (hb2.mono B1.out.size))
      have I2 := Lib.hid (I1.out.below hb2 (Nat.le_refl _))
      clear hb2 B1 I1 i0 i1
      have i2 := I2.out.cell (i := 2) (v := .int .i64 M) rfl
      cases h3 : fin .f32 (cn .f32 S) with
      | false =>
        have hr : res = false := by rw [← HRES.out]; unfold decB; rw [h1, h3]; simp
        subst hr
        go_wp2
        go_ret
        exact ⟨rfl, B2.out⟩
      | true =>
        have hr : res = inR M 0 1000000 := by rw [← HRES.out]; unfold decB; rw [h1, h2, h3]; simp
        subst hr
        go_wp2_with fail
        refine isTime_any.mono ?_
        rintro e w3 ⟨rfl, rfl⟩
        go_wp2
        go_ret
        exact ⟨rfl, B2.out⟩
    · have h2' : (FloatKind.f32.format.order H 0 == some Ordering.gt) = false := by simpa using h2
      have hr : res = false := by rw [← HRES.out]; unfold decB; rw [h1, h2']; simp
      subst hr
      go_wp2
      go_ret
      exact ⟨rfl, B1.out⟩

/-- A decay at a time. -/
def atP (H S : Nat) (M t : Int) : Option Nat := (expQ (t - M) H).bind fun b => fbin .mul .f32 (cn .f32 S) (expO b)
def atB (H S : Nat) (M t : Int) : Bool := decB H S M && inR t 0 1000000 && decide (M ≤ t)
def atO (H S : Nat) (M t : Int) : Option Nat := if atB H S M t then ifFin (atP H S M t) else some 0
theorem decB_num {H S : Nat} {M : Int} (h : decB H S M = true) : (∃ n j, FloatKind.f32.decode H = .number false n j ∧ n ≠ 0) ∧ (0 ≤ M ∧ M ≤ 1000000) := by
  unfold decB at h
  simp only [Bool.and_eq_true, beq_iff_eq] at h
  obtain ⟨⟨⟨h1, h2⟩, h3⟩, h4⟩ := h
  rw [inR_eq] at h4
  refine ⟨?_, h4⟩
  have ho : (FloatKind.f32.decode H).order (FloatKind.f32.decode 0) = some .gt := h2
  obtain ⟨p, hp⟩ := decode_zero .f32
  rw [hp] at ho
  cases hd : FloatKind.f32.decode H with
  | nan s t => rw [hd] at ho; exact absurd ho (by simp [Ieee.Datum.order])
  | infinity s =>
    exfalso
    unfold fin cn at h1
    rw [hd] at h1
    simp [Ieee.Datum.isNaN, Ieee.Datum.isInfinity, hd] at h1
  | number s n j =>
    rw [hd] at ho
    have hc : compare (Ieee.signed s n (j - min j p).toNat) (Ieee.signed false 0 (p - min j p).toNat) = .gt := by
      have h5 : some (compare (Ieee.signed s n (j - min j p).toNat) (Ieee.signed false 0 (p - min j p).toNat)) = some .gt := ho
      simpa using h5
    rw [Int.compare_eq_gt] at hc
    have hz : Ieee.signed false 0 (p - min j p).toNat = 0 := by simp [Ieee.signed]
    rw [hz] at hc
    unfold Ieee.signed at hc
    cases s with
    | true =>
      exfalso
      rw [if_pos rfl] at hc
      generalize n <<< (j - min j p).toNat = g at hc
      omega
    | false =>
      refine ⟨n, j, rfl, fun h0 => ?_⟩
      subst h0
      simp at hc
theorem exp_sgn {H S : Nat} {M t : Int} (h : decB H S M = true) (ht : M ≤ t) : ∃ b, expQ (t - M) H = some b ∧ sgD true (FloatKind.f32.decode b) ∧ cn .f32 H = some H := by
  obtain ⟨⟨n, j, hd, hn⟩, _⟩ := decB_num h
  obtain ⟨b, h1, h2⟩ := expQ_neg (dt := t - M) (by omega) hd hn
  exact ⟨b, h1, h2, by unfold cn; rw [hd]; rfl⟩
theorem cLn_cn : cn .f32 3207688728 = some 3207688728 := by decide +kernel

set_option maxRecDepth 20000 in
set_option maxHeartbeats 4000000 in
theorem implAt_any {H S : Nat} {M t : Int} {w : World} (ht : -9223372036854775808 ≤ t ∧ t ≤ 9223372036854775807) :
    Calls Try.prog 15 #[.agg #[.float .f32 H, .float .f32 S, .int .i64 M], .int .i64 t] w (RetFB w (atO H S M t) (atB H S M t && fin .f32 (atP H S M t))) := by
  have B0 := Lib.hid ((Below.refl w.heap.size w).alloc (Nat.le_refl _) (.cells (dcV H S M) 41))
  have I0 := Lib.hid (Blk.new w (dcV H S M) 41)
  obtain ⟨ro, hro⟩ : ∃ r, atO H S M t = r := ⟨_, rfl⟩
  obtain ⟨rb, hrb⟩ : ∃ r, (atB H S M t && fin .f32 (atP H S M t)) = r := ⟨_, rfl⟩
  rw [hro, hrb]
  have HRO := Lib.hid hro
  have HRB := Lib.hid hrb
  clear hro hrb
  have HNO : Hid (atB H S M t = false → ro = some 0 ∧ rb = false) := Lib.hid (fun h => ⟨by rw [← HRO.out]; unfold atO; rw [h]; rfl, by rw [← HRB.out, h]; rfl⟩)
  go_enter Try.func15, Try.ntmps15
  go_upto_region 1 with (fail)
  change Code.wp _ _ _ _ (w.alloc (.cells (dcV H S M) 41))
  generalize w.alloc (.cells (dcV H S M) 41) = w0 at B0 I0 ⊢
  have i0 := I0.out.cell (i := 0) (v := .float .f32 H) rfl
  have i1 := I0.out.cell (i := 1) (v := .float .f32 S) rfl
  have i2 := I0.out.cell (i := 2) (v := .int .i64 M) rfl
  go_wp2_with fail
  refine validDecay_any.mono ?_
  rintro e w1 ⟨rfl, hb1⟩
  have B1 := Lib.hid (B0.out.trans (hb1.mono B0.out.size))
  have I1 := Lib.hid (I0.out.below hb1 (Nat.le_refl _))
  clear hb1 B0 I0 i0 i1 i2
  have i0 := I1.out.cell (i := 0) (v := .float .f32 H) rfl
  have i1 := I1.out.cell (i := 1) (v := .float .f32 S) rfl
  have i2 := I1.out.cell (i := 2) (v := .int .i64 M) rfl
  cases h1 : decB H S M with
  | false =>
    obtain ⟨rfl, rfl⟩ := HNO.out (by unfold atB; rw [h1]; rfl)
    go_wp2
    go_ret2
    exact ⟨0, rfl, cn_zero, B1.out⟩
  | true =>
    go_wp2_with fail
    refine isTime_any.mono ?_
    rintro e w2 ⟨rfl, rfl⟩
    cases h2 : inR t 0 1000000 with
    | false =>
      obtain ⟨rfl, rfl⟩ := HNO.out (by unfold atB; rw [h1, h2]; rfl)
      go_wp2
      go_ret2
      exact ⟨0, rfl, cn_zero, B1.out⟩
    | true =>
      by_cases h3 : t < M
      · obtain ⟨rfl, rfl⟩ := HNO.out (by unfold atB; rw [h1, h2, decide_eq_false (by omega)]; rfl)
        go_wp2
        go_ret2
        exact ⟨0, rfl, cn_zero, B1.out⟩
      · obtain ⟨b, hb, hs, hH⟩ := exp_sgn (t := t) h1 (by omega)
        have hM := (decB_num h1).2
        have h2' := (inR_eq _ _ _).1 h2
        have ewt : IntKind.i64.wrap (t - M) = t - M := IntWalk.i64_in _ (by omega)
        have HB := Lib.hid hb
        have HSG : Hid (∀ q r, cn .f32 r = fbin .mul .f32 (cn .f32 3207688728) (cn .f32 (floatOfInt .f32 (t - M))) → cn .f32 q = fbin .quo .f32 (cn .f32 r) (cn .f32 H) → q = b) := Lib.hid (fun q r h4 h5 => by
          rw [h4, cLn_cn, cn_ofInt, hH] at h5
          have h6 : cn .f32 q = some b := by rw [h5]; exact hb
          exact (cn_some h6).1)
        have HS := Lib.hid hs
        clear hb hs hH h2' hM
        go_upto_region 3 with (fail)
        go_region_with (first
          | (go_at_call 32; refine (implExp_any (by have hqb := HSG.out _ _ (by assumption) (by assumption); rw [hqb]; exact HS.out)).mono ?_; rintro e w2 ⟨r2, rfl, hr2, hb2⟩; have i1 := k_at hb2 i1)
          | (go_at_call 31; refine ifFinite_any.mono ?_; rintro e w3 ⟨r3, rfl, hr3, hb3⟩)
          | (refine upon_fbin rfl _ _ ?_; rintro q w' ⟨n, rfl⟩ hq))
        all_goals
          rename_i qa na ha qb nb hqb
          have e1 : qb = b := HSG.out _ _ ha hqb
          subst e1
          have hp : atP H S M t = fbin .mul .f32 (cn .f32 S) (expO qb) := by unfold atP; rw [HB.out]; rfl
          have hab : atB H S M t = true := by unfold atB; rw [h1, h2, decide_eq_true (by omega)]; rfl
          have hro' : ro = ifFin (fbin .mul .f32 (cn .f32 S) (expO qb)) := by rw [← HRO.out]; unfold atO; rw [hab, if_pos rfl, hp]
          have hrb' : rb = fin .f32 (fbin .mul .f32 (cn .f32 S) (expO qb)) := by rw [← HRB.out, hab, hp]; rfl
          have hqq : cn .f32 q = fbin .mul .f32 (cn .f32 S) (expO qb) := by rw [hq, hr2]
          have HR3 := Lib.hid hr3
          have HQQ := Lib.hid hqq
          have HX := Lib.hid (And.intro hro' hrb')
          have HBB := Lib.hid (B1.out.trans (((below_of_drewN w1 _ w1.heap.size).trans (hb2.mono (Nat.le_refl _))).mono B1.out.size))
          have HBC := Lib.hid (HBB.out.trans (((below_of_drewN w2 _ w2.heap.size).trans (hb3.mono (Nat.le_refl _))).mono HBB.out.size))
          clear hb2 hb3 hr3 hqq hro' hrb' hr2 hq
          go_wp2
          go_ret2
          exact ⟨r3, by rw [HX.out.2]; first | rfl | (rw [← HQQ.out]), by rw [HR3.out, HX.out.1, HQQ.out], HBC.out⟩

end Go.Proofs.Ytncbkbfkdgggkaa

namespace Go.Proofs.Ytncbkbfkdgggkaa
open Go.RowKit

/-- The half of a draw. -/
def halfF (v : Nat) : Nat := fo3 .quo (floatOfInt .f32 ((v : Int) + 1)) 1073741824
def exN (v : Nat) : Int := match v with
  | 0 => 274877905897
  | 1 => 549755812841
  | 2 => 692648921340
  | 3 => 777472127253
  | 4 => 833273994011
  | 5 => 872682956737
  | 6 => 901968262115
  | 7 => 924575385886
  | 8 => 942549726589
  | 9 => 957180466546
  | 10 => 969319835478
  | 11 => 979553499455
  | 12 => 988297096377
  | 13 => 995853700139
  | 14 => 1002449477220
  | 15 => 1008256607981
  | _ => 0
/-- The factor of one step. -/
def exQ (v : Nat) : Rat := (exN v : Rat) / 1099511627776
/-- The program's factor of d steps. -/
def exF (v d : Nat) : Nat := (((expQ (d : Int) (halfF v)).bind expO).getD 0)
def isNB (k : FloatKind) (b : Nat) : Bool := match k.decode b with
  | .number _ _ _ => true
  | _ => false
def datQ (b : Nat) : Int × Int := match FloatKind.f32.decode b with
  | .number s m e => (if s then -(m : Int) else (m : Int), e)
  | _ => (0, 0)
/-- The check: in whole numbers, m * 2^e beside N^d / 2^(40 d), 2^24 parts. -/
def exB (v d : Nat) : Bool :=
  ((expQ (d : Int) (halfF v)).bind expO).isSome && isNB .f32 (exF v d) &&
  decide (0 ≤ (datQ (exF v d)).1) && decide ((datQ (exF v d)).2 ≤ 0) &&
  decide ((datQ (exF v d)).1 * 2 ^ (40 * d + 24) ≤ (exN v ^ d * 2 ^ 24 + 2 ^ (40 * d)) * 2 ^ (-(datQ (exF v d)).2).toNat) &&
  decide ((exN v ^ d * 2 ^ 24 - 2 ^ (40 * d)) * 2 ^ (-(datQ (exF v d)).2).toNat ≤ (datQ (exF v d)).1 * 2 ^ (40 * d + 24))

end Go.Proofs.Ytncbkbfkdgggkaa
