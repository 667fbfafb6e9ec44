/- JoinDecays in both texts. The law's helpers on decays. -/
import Derived.Test.YtmmpemfhbnkomaaQJd9
import Derived.Test.YtmmpemfhbnkomaaQJd10
set_option linter.unusedVariables false
set_option linter.unusedSimpArgs false
namespace Go.Proofs.Ytmmpemfhbnkomaa
open Go.RowKit
attribute [local go_sem ↓] Go.wp_at_zero Go.wp_at_succ

def dcT (b : Bool) (H S : Nat) (M : Int) : Value := if b then .tuple #[.agg #[.float .f32 H, .float .f32 S, .int .i64 M], .bool true] else .tuple #[.agg #[.float .f32 0, .float .f32 0, .int .i64 0], .bool false]

set_option maxHeartbeats 2000000 in
theorem ifDecay_any {H S : Nat} {M : Int} {w : World} :
    Calls Try.prog 13 #[.agg #[.float .f32 H, .float .f32 S, .int .i64 M]] w fun e w' => e = .returned (dcT (decB H S M) H S M) ∧ Below w.heap.size w w' := by
  have hB1 : Below w.heap.size w (w.alloc (.cells (dcV H S M) 25)) := (Below.refl _ _).alloc (Nat.le_refl _) _
  have B0 := Lib.hid (hB1.alloc (by simp) (.cells (dcV 0 0 0) 25))
  have I0 : Hid (Blk ((w.alloc (.cells (dcV H S M) 25)).alloc (.cells (dcV 0 0 0) 25)) w.heap.size (dcV H S M) 25) := Lib.hid ((Blk.new _ _ _).alloc _)
  have J0 : Hid (Blk ((w.alloc (.cells (dcV H S M) 25)).alloc (.cells (dcV 0 0 0) 25)) (w.heap.size + 1) (dcV 0 0 0) 25) := Lib.hid (Blk.new' (by simp))
  clear hB1
  obtain ⟨res, hres⟩ : ∃ r, dcT (decB H S M) H S M = r := ⟨_, rfl⟩
  have HRES := Lib.hid hres
  rw [hres]
  clear hres
  go_enter Try.func13, Try.ntmps13
  go_upto_region 1 with (fail)
  change Code.wp _ _ _ _ ((w.alloc (.cells (dcV H S M) 25)).alloc (.cells (dcV 0 0 0) 25))
  generalize (w.alloc (.cells (dcV H S M) 25)).alloc (.cells (dcV 0 0 0) 25) = w0 at B0 I0 J0 ⊢
  have i0 := I0.out.cell (i := 0) (v := .float .f32 H) rfl
  have i1 := I0.out.cell (i := 1) (v := .float .f32 S) rfl
  have i2 := I0.out.cell (i := 2) (v := .int .i64 M) rfl
  go_wp2_with fail
  refine validDecay_any.mono ?_
  rintro e w1 ⟨rfl, hb1⟩
  have B1 := Lib.hid (B0.out.trans (hb1.mono B0.out.size))
  have I1 := Lib.hid (I0.out.below hb1 (Nat.le_refl _))
  have J1 := Lib.hid (J0.out.below hb1 (Nat.le_refl _))
  clear hb1 B0 I0 J0 i0 i1 i2
  have i0 := I1.out.cell (i := 0) (v := .float .f32 H) rfl
  have i1 := I1.out.cell (i := 1) (v := .float .f32 S) rfl
  have i2 := I1.out.cell (i := 2) (v := .int .i64 M) rfl
  have r0 := J1.out.cell (i := 0) (v := .float .f32 0) rfl
  have r1 := J1.out.cell (i := 1) (v := .float .f32 0) rfl
  have r2 := J1.out.cell (i := 2) (v := .int .i64 0) rfl
  have q0 := J1.out.free 0
  have q1 := J1.out.free 1
  have q2 := J1.out.free 2
  have hle : w.heap.size ≤ w.heap.size + 1 := by omega
  have hsf := @run_store_fl Try.prog
  cases h1 : decB H S M with
  | false =>
    have hr : res = .tuple #[.agg #[.float .f32 0, .float .f32 0, .int .i64 0], .bool false] := by rw [← HRES.out, h1]; rfl
    have HR := Lib.hid hr
    clear hr
    go_wp2
    refine bodyPost_ret (v := .tuple #[.agg #[.float .f32 0, .float .f32 0, .int .i64 0], .bool false]) (by simp [results, Try.results13, go_sem, r0, r1, r2]) rfl ⟨by rw [HR.out], ?_⟩
    exact ((B1.out.setCell hle _).setCell hle _).setCell hle _
  | true =>
    have hr : res = .tuple #[.agg #[.float .f32 H, .float .f32 S, .int .i64 M], .bool true] := by rw [← HRES.out, h1]; rfl
    have HR := Lib.hid hr
    clear hr
    go_wp2
    refine bodyPost_ret (v := .tuple #[.agg #[.float .f32 H, .float .f32 S, .int .i64 M], .bool true]) (by simp [results, Try.results13, go_sem, r0, r1, r2]) rfl ⟨by rw [HR.out], ?_⟩
    exact ((B1.out.setCell hle _).setCell hle _).setCell hle _

/-- Two decays joined. -/
def decO (H : Nat) (o : Option Nat) (M : Int) : Bool := fin .f32 (cn .f32 H) && (FloatKind.f32.format.order H 0 == some .gt) && fin .f32 o && inR M 0 1000000
theorem decB_O (H S : Nat) (M : Int) : decB H S M = decO H (cn .f32 S) M := rfl
def jA (Ha Sa : Nat) (Ma : Int) (Hb Sb : Nat) (Mb : Int) : Bool := decB Ha Sa Ma && decB Hb Sb Mb && (FloatKind.f32.format.order Ha Hb == some .eq)
def jOn (H S : Nat) (M m : Int) : Bool := atB H S M m && fin .f32 (atP H S M m)
def jS (Ha Sa : Nat) (Ma : Int) (Hb Sb : Nat) (Mb m : Int) : Option Nat := fbin .add .f32 (atO Ha Sa Ma m) (atO Hb Sb Mb m)
def jOk (Ha Sa : Nat) (Ma : Int) (Hb Sb : Nat) (Mb m : Int) : Bool := jA Ha Sa Ma Hb Sb Mb && jOn Ha Sa Ma m && jOn Hb Sb Mb m && decO Ha (jS Ha Sa Ma Hb Sb Mb m) m
def RetJD (w : World) (ok : Bool) (H : Nat) (s : Option Nat) (m : Int) (e : Ending) (w' : World) : Prop :=
  ∃ r, e = .returned (dcT ok H r m) ∧ (ok = true → cn .f32 r = s) ∧ Below w.heap.size w w'

set_option maxRecDepth 20000 in
set_option maxHeartbeats 1000000 in
theorem implJoinDecays_any {Ha Sa Hb Sb : Nat} {Ma Mb : Int} {w : World} :
    Calls Try.prog 6 #[.agg #[.float .f32 Ha, .float .f32 Sa, .int .i64 Ma], .agg #[.float .f32 Hb, .float .f32 Sb, .int .i64 Mb]] w (RetJD w (jOk Ha Sa Ma Hb Sb Mb (max Ma Mb)) Ha (jS Ha Sa Ma Hb Sb Mb (max Ma Mb)) (max Ma Mb)) := by
  have hB1 : Below w.heap.size w (w.alloc (.cells (dcV Ha Sa Ma) 25)) := (Below.refl _ _).alloc (Nat.le_refl _) _
  have hB2 := hB1.alloc (by simp) (.cells (dcV Hb Sb Mb) 25)
  have B0 := Lib.hid (hB2.alloc (by simp; omega) (.cells (dcV 0 0 0) 25))
  have Ia : Hid (Blk (((w.alloc (.cells (dcV Ha Sa Ma) 25)).alloc (.cells (dcV Hb Sb Mb) 25)).alloc (.cells (dcV 0 0 0) 25)) w.heap.size (dcV Ha Sa Ma) 25) := Lib.hid (((Blk.new _ _ _).alloc _).alloc _)
  have Ib : Hid (Blk (((w.alloc (.cells (dcV Ha Sa Ma) 25)).alloc (.cells (dcV Hb Sb Mb) 25)).alloc (.cells (dcV 0 0 0) 25)) (w.heap.size + 1) (dcV Hb Sb Mb) 25) := Lib.hid ((Blk.new' (by simp)).alloc _)
  have Ir : Hid (Blk (((w.alloc (.cells (dcV Ha Sa Ma) 25)).alloc (.cells (dcV Hb Sb Mb) 25)).alloc (.cells (dcV 0 0 0) 25)) (w.heap.size + 1 + 1) (dcV 0 0 0) 25) := Lib.hid (Blk.new' (by simp))
  clear hB1 hB2
  obtain ⟨m, hm⟩ : ∃ m, max Ma Mb = m := ⟨_, rfl⟩
  have HM := Lib.hid hm
  rw [hm]
  clear hm
  obtain ⟨ok, hok⟩ : ∃ r, jOk Ha Sa Ma Hb Sb Mb m = r := ⟨_, rfl⟩
  obtain ⟨so, hso⟩ : ∃ r, jS Ha Sa Ma Hb Sb Mb m = r := ⟨_, rfl⟩
  rw [hok, hso]
  have HOK := Lib.hid hok
  have HSO := Lib.hid hso
  clear hok hso
  have hle : w.heap.size ≤ w.heap.size + 1 + 1 := by omega
  have hsf := @run_store_fl Try.prog
  go_enter Try.func6, Try.ntmps6
  go_upto_region 1 with (fail)
  change Code.wp _ _ _ _ (((w.alloc (.cells (dcV Ha Sa Ma) 25)).alloc (.cells (dcV Hb Sb Mb) 25)).alloc (.cells (dcV 0 0 0) 25))
  generalize (((w.alloc (.cells (dcV Ha Sa Ma) 25)).alloc (.cells (dcV Hb Sb Mb) 25)).alloc (.cells (dcV 0 0 0) 25)) = w0 at B0 Ia Ib Ir ⊢
  have a0 := Ia.out.cell (i := 0) (v := .float .f32 Ha) rfl
  have a1 := Ia.out.cell (i := 1) (v := .float .f32 Sa) rfl
  have a2 := Ia.out.cell (i := 2) (v := .int .i64 Ma) rfl
  go_wp2_with fail
  refine (validDecay_any).mono ?_
  rintro e w1 ⟨rfl, hb1⟩
  have B1 := Lib.hid (B0.out.trans (hb1.mono B0.out.size))
  have Ia := Lib.hid (Ia.out.below hb1 (Nat.le_refl _))
  have Ib := Lib.hid (Ib.out.below hb1 (Nat.le_refl _))
  have Ir := Lib.hid (Ir.out.below hb1 (Nat.le_refl _))
  clear hb1 B0 a0 a1 a2
  cases h1 : decB Ha Sa Ma with
  | false =>
    have r0 := Ir.out.cell (i := 0) (v := .float .f32 0) rfl
    have q0 := Ir.out.free 0
    have r1 := Ir.out.cell (i := 1) (v := .float .f32 0) rfl
    have q1 := Ir.out.free 1
    have r2 := Ir.out.cell (i := 2) (v := .int .i64 0) rfl
    have q2 := Ir.out.free 2
    have HNO := Lib.hid (show ok = false by rw [← HOK.out]; unfold jOk jA; rw [h1]; simp)
    go_wp2
    refine bodyPost_ret (v := .tuple #[.agg #[.float .f32 0, .float .f32 0, .int .i64 0], .bool false]) (by simp [results, Try.results6, go_sem, r0, r1, r2]) rfl ⟨0, by rw [HNO.out]; rfl, fun h => by rw [HNO.out] at h; simp at h, ?_⟩
    exact ((B1.out.setCell hle _).setCell hle _).setCell hle _
  | true =>
    have a0 := Ib.out.cell (i := 0) (v := .float .f32 Hb) rfl
    have a1 := Ib.out.cell (i := 1) (v := .float .f32 Sb) rfl
    have a2 := Ib.out.cell (i := 2) (v := .int .i64 Mb) rfl
    go_wp2_with fail
    refine (validDecay_any).mono ?_
    rintro e w2 ⟨rfl, hb2⟩
    have B2 := Lib.hid (B1.out.trans (hb2.mono B1.out.size))
    have Ia := Lib.hid (Ia.out.below hb2 (Nat.le_refl _))
    have Ib := Lib.hid (Ib.out.below hb2 (Nat.le_refl _))
    have Ir := Lib.hid (Ir.out.below hb2 (Nat.le_refl _))
    clear hb2 B1 a0 a1 a2
    cases h2 : decB Hb Sb Mb with
    | false =>
      have r0 := Ir.out.cell (i := 0) (v := .float .f32 0) rfl
      have q0 := Ir.out.free 0
      have r1 := Ir.out.cell (i := 1) (v := .float .f32 0) rfl
      have q1 := Ir.out.free 1
      have r2 := Ir.out.cell (i := 2) (v := .int .i64 0) rfl
      have q2 := Ir.out.free 2
      have HNO := Lib.hid (show ok = false by rw [← HOK.out]; unfold jOk jA; rw [h1, h2]; simp)
      go_wp2
      refine bodyPost_ret (v := .tuple #[.agg #[.float .f32 0, .float .f32 0, .int .i64 0], .bool false]) (by simp [results, Try.results6, go_sem, r0, r1, r2]) rfl ⟨0, by rw [HNO.out]; rfl, fun h => by rw [HNO.out] at h; simp at h, ?_⟩
      exact ((B2.out.setCell hle _).setCell hle _).setCell hle _
    | true =>
      have hMa := (decB_num h1).2
      have hMb := (decB_num h2).2
      have a0 := Ia.out.cell (i := 0) (v := .float .f32 Ha) rfl
      have a1 := Ia.out.cell (i := 1) (v := .float .f32 Sa) rfl
      have a2 := Ia.out.cell (i := 2) (v := .int .i64 Ma) rfl
      have b0 := Ib.out.cell (i := 0) (v := .float .f32 Hb) rfl
      have b1 := Ib.out.cell (i := 1) (v := .float .f32 Sb) rfl
      have b2 := Ib.out.cell (i := 2) (v := .int .i64 Mb) rfl
      by_cases h3 : FloatKind.f32.format.order Ha Hb = some .eq
      · have hm0 := HM.out
        have hmb : 0 ≤ m ∧ m ≤ 1000000 := by omega
        have HJA : Hid (jA Ha Sa Ma Hb Sb Mb = true) := Lib.hid (by unfold jA; rw [h1, h2, h3]; rfl)
        clear h1 h2
        by_cases hmx : Ma < Mb
        · obtain rfl : m = Mb := by omega
          go_wp2_with fail
          clear hm0 hmx
          refine (implAt_any (t := m) (by omega)).mono ?_
          rintro e w3 ⟨x, rfl, hx, hb3⟩
          have B3 := Lib.hid (B2.out.trans (hb3.mono B2.out.size))
          have Ia := Lib.hid (Ia.out.below hb3 (Nat.le_refl _))
          have Ib := Lib.hid (Ib.out.below hb3 (Nat.le_refl _))
          have Ir := Lib.hid (Ir.out.below hb3 (Nat.le_refl _))
          have HX := Lib.hid hx
          clear hb3 B2 hx a0 a1 a2 b0 b1 b2
          have b0 := Ib.out.cell (i := 0) (v := .float .f32 Hb) rfl
          have b1 := Ib.out.cell (i := 1) (v := .float .f32 Sb) rfl
          have b2 := Ib.out.cell (i := 2) (v := .int .i64 m) rfl
          go_wp2_with fail
          refine (implAt_any (t := m) (by omega)).mono ?_
          rintro e w4 ⟨y, rfl, hy, hb4⟩
          have B4 := Lib.hid (B3.out.trans (hb4.mono B3.out.size))
          have Ia := Lib.hid (Ia.out.below hb4 (Nat.le_refl _))
          have Ib := Lib.hid (Ib.out.below hb4 (Nat.le_refl _))
          have Ir := Lib.hid (Ir.out.below hb4 (Nat.le_refl _))
          have HY := Lib.hid hy
          clear hb4 B3 hy b0 b1 b2
          have a0 := Ia.out.cell (i := 0) (v := .float .f32 Ha) rfl
          have a1 := Ia.out.cell (i := 1) (v := .float .f32 Sa) rfl
          have a2 := Ia.out.cell (i := 2) (v := .int .i64 Ma) rfl
          have HQS : Hid (∀ q, cn .f32 q = fbin .add .f32 (cn .f32 x) (cn .f32 y) → cn .f32 q = so) := Lib.hid (fun q h => by rw [h, HX.out, HY.out]; exact HSO.out)
          obtain ⟨o1, ho1⟩ : ∃ b, (atB Ha Sa Ma m && fin .f32 (atP Ha Sa Ma m)) = b := ⟨_, rfl⟩
          obtain ⟨o2, ho2⟩ : ∃ b, (atB Hb Sb m m && fin .f32 (atP Hb Sb m m)) = b := ⟨_, rfl⟩
          rw [ho1, ho2]
          have HO1 : Hid (jOn Ha Sa Ma m = o1) := Lib.hid ho1
          have HO2 : Hid (jOn Hb Sb m m = o2) := Lib.hid ho2
          clear ho1 ho2
          cases o1 with
          | false =>
            have r0 := Ir.out.cell (i := 0) (v := .float .f32 0) rfl
            have q0 := Ir.out.free 0
            have r1 := Ir.out.cell (i := 1) (v := .float .f32 0) rfl
            have q1 := Ir.out.free 1
            have r2 := Ir.out.cell (i := 2) (v := .int .i64 0) rfl
            have q2 := Ir.out.free 2
            have HNO := Lib.hid (show ok = false by rw [← HOK.out]; unfold jOk; rw [HO1.out]; simp)
            go_wp2
            refine bodyPost_ret (v := .tuple #[.agg #[.float .f32 0, .float .f32 0, .int .i64 0], .bool false]) (by simp [results, Try.results6, go_sem, r0, r1, r2]) rfl ⟨0, by rw [HNO.out]; rfl, fun h => by rw [HNO.out] at h; simp at h, ?_⟩
            exact ((B4.out.setCell hle _).setCell hle _).setCell hle _
          | true =>
            cases o2 with
            | false =>
              have r0 := Ir.out.cell (i := 0) (v := .float .f32 0) rfl
              have q0 := Ir.out.free 0
              have r1 := Ir.out.cell (i := 1) (v := .float .f32 0) rfl
              have q1 := Ir.out.free 1
              have r2 := Ir.out.cell (i := 2) (v := .int .i64 0) rfl
              have q2 := Ir.out.free 2
              have HNO := Lib.hid (show ok = false by rw [← HOK.out]; unfold jOk; rw [HO2.out]; simp)
              go_wp2
              refine bodyPost_ret (v := .tuple #[.agg #[.float .f32 0, .float .f32 0, .int .i64 0], .bool false]) (by simp [results, Try.results6, go_sem, r0, r1, r2]) rfl ⟨0, by rw [HNO.out]; rfl, fun h => by rw [HNO.out] at h; simp at h, ?_⟩
              exact ((B4.out.setCell hle _).setCell hle _).setCell hle _
            | true =>
              go_wp2_with (refine wpl_fbin rfl .add _ _ _ _ rfl rfl .f32 _ _ rfl rfl ?_; rintro q w' ⟨n, rfl⟩ hq; have HQ := Lib.hid (HQS.out _ hq); clear hq)
              generalize hw5 : w4.drewN _ = w5
              have hb5 : Below w4.heap.size w4 w5 := by rw [← hw5]; exact below_of_drewN _ _ _
              have B5 := Lib.hid (B4.out.trans (hb5.mono B4.out.size))
              have Ia := Lib.hid (Ia.out.below hb5 (Nat.le_refl _))
              have Ib := Lib.hid (Ib.out.below hb5 (Nat.le_refl _))
              have Ir := Lib.hid (Ir.out.below hb5 (Nat.le_refl _))
              clear hw5 hb5 B4 a0 a1 a2
              refine ifDecay_any.mono ?_
              rintro e w6 ⟨rfl, hb6⟩
              have B6 := Lib.hid (B5.out.trans (hb6.mono B5.out.size))
              have Ia := Lib.hid (Ia.out.below hb6 (Nat.le_refl _))
              have Ib := Lib.hid (Ib.out.below hb6 (Nat.le_refl _))
              have Ir := Lib.hid (Ir.out.below hb6 (Nat.le_refl _))
              clear hb6 B5
              have HDE : Hid (ok = decB Ha q m) := Lib.hid (by rw [← HOK.out, decB_O, HQ.out, ← HSO.out]; unfold jOk; rw [HJA.out, HO1.out, HO2.out]; simp)
              cases hd : decB Ha q m with
              | false =>
                have r0 := Ir.out.cell (i := 0) (v := .float .f32 0) rfl
                have q0 := Ir.out.free 0
                have r1 := Ir.out.cell (i := 1) (v := .float .f32 0) rfl
                have q1 := Ir.out.free 1
                have r2 := Ir.out.cell (i := 2) (v := .int .i64 0) rfl
                have q2 := Ir.out.free 2
                have HNO := Lib.hid (show ok = false by rw [HDE.out, hd])
                have edc : dcT false Ha q m = .tuple #[.agg #[.float .f32 0, .float .f32 0, .int .i64 0], .bool false] := rfl
                rw [edc]
                go_wp2
                refine bodyPost_ret (v := .tuple #[.agg #[.float .f32 0, .float .f32 0, .int .i64 0], .bool false]) (by simp [results, Try.results6, go_sem, r0, r1, r2]) rfl ⟨0, by rw [HNO.out]; rfl, fun h => by rw [HNO.out] at h; simp at h, ?_⟩
                exact ((B6.out.setCell hle _).setCell hle _).setCell hle _
              | true =>
                have HYE : Hid (ok = true) := Lib.hid (by rw [HDE.out, hd])
                have edc : dcT true Ha q m = .tuple #[.agg #[.float .f32 Ha, .float .f32 q, .int .i64 m], .bool true] := rfl
                rw [edc]
                have r0 := Ir.out.cell (i := 0) (v := .float .f32 0) rfl
                have q0 := Ir.out.free 0
                have r1 := Ir.out.cell (i := 1) (v := .float .f32 0) rfl
                have q1 := Ir.out.free 1
                have r2 := Ir.out.cell (i := 2) (v := .int .i64 0) rfl
                have q2 := Ir.out.free 2
                go_wp2
                refine bodyPost_ret (v := .tuple #[.agg #[.float .f32 Ha, .float .f32 q, .int .i64 m], .bool true]) (by simp [results, Try.results6, go_sem, r0, r1, r2]) rfl ⟨q, by rw [HYE.out]; rfl, fun _ => HQ.out, ?_⟩
                exact ((B6.out.setCell hle _).setCell hle _).setCell hle _

        · obtain rfl : m = Ma := by omega
          go_wp2_with fail
          clear hm0 hmx
          refine (implAt_any (t := m) (by omega)).mono ?_
          rintro e w3 ⟨x, rfl, hx, hb3⟩
          have B3 := Lib.hid (B2.out.trans (hb3.mono B2.out.size))
          have Ia := Lib.hid (Ia.out.below hb3 (Nat.le_refl _))
          have Ib := Lib.hid (Ib.out.below hb3 (Nat.le_refl _))
          have Ir := Lib.hid (Ir.out.below hb3 (Nat.le_refl _))
          have HX := Lib.hid hx
          clear hb3 B2 hx a0 a1 a2 b0 b1 b2
          have b0 := Ib.out.cell (i := 0) (v := .float .f32 Hb) rfl
          have b1 := Ib.out.cell (i := 1) (v := .float .f32 Sb) rfl
          have b2 := Ib.out.cell (i := 2) (v := .int .i64 Mb) rfl
          go_wp2_with fail
          refine (implAt_any (t := m) (by omega)).mono ?_
          rintro e w4 ⟨y, rfl, hy, hb4⟩
          have B4 := Lib.hid (B3.out.trans (hb4.mono B3.out.size))
          have Ia := Lib.hid (Ia.out.below hb4 (Nat.le_refl _))
          have Ib := Lib.hid (Ib.out.below hb4 (Nat.le_refl _))
          have Ir := Lib.hid (Ir.out.below hb4 (Nat.le_refl _))
          have HY := Lib.hid hy
          clear hb4 B3 hy b0 b1 b2
          have a0 := Ia.out.cell (i := 0) (v := .float .f32 Ha) rfl
          have a1 := Ia.out.cell (i := 1) (v := .float .f32 Sa) rfl
          have a2 := Ia.out.cell (i := 2) (v := .int .i64 m) rfl
          have HQS : Hid (∀ q, cn .f32 q = fbin .add .f32 (cn .f32 x) (cn .f32 y) → cn .f32 q = so) := Lib.hid (fun q h => by rw [h, HX.out, HY.out]; exact HSO.out)
          obtain ⟨o1, ho1⟩ : ∃ b, (atB Ha Sa m m && fin .f32 (atP Ha Sa m m)) = b := ⟨_, rfl⟩
          obtain ⟨o2, ho2⟩ : ∃ b, (atB Hb Sb Mb m && fin .f32 (atP Hb Sb Mb m)) = b := ⟨_, rfl⟩
          rw [ho1, ho2]
          have HO1 : Hid (jOn Ha Sa m m = o1) := Lib.hid ho1
          have HO2 : Hid (jOn Hb Sb Mb m = o2) := Lib.hid ho2
          clear ho1 ho2
          cases o1 with
          | false =>
            have r0 := Ir.out.cell (i := 0) (v := .float .f32 0) rfl
            have q0 := Ir.out.free 0
            have r1 := Ir.out.cell (i := 1) (v := .float .f32 0) rfl
            have q1 := Ir.out.free 1
            have r2 := Ir.out.cell (i := 2) (v := .int .i64 0) rfl
            have q2 := Ir.out.free 2
            have HNO := Lib.hid (show ok = false by rw [← HOK.out]; unfold jOk; rw [HO1.out]; simp)
            go_wp2
            refine bodyPost_ret (v := .tuple #[.agg #[.float .f32 0, .float .f32 0, .int .i64 0], .bool false]) (by simp [results, Try.results6, go_sem, r0, r1, r2]) rfl ⟨0, by rw [HNO.out]; rfl, fun h => by rw [HNO.out] at h; simp at h, ?_⟩
            exact ((B4.out.setCell hle _).setCell hle _).setCell hle _
          | true =>
            cases o2 with
            | false =>
              have r0 := Ir.out.cell (i := 0) (v := .float .f32 0) rfl
              have q0 := Ir.out.free 0
              have r1 := Ir.out.cell (i := 1) (v := .float .f32 0) rfl
              have q1 := Ir.out.free 1
              have r2 := Ir.out.cell (i := 2) (v := .int .i64 0) rfl
              have q2 := Ir.out.free 2
              have HNO := Lib.hid (show ok = false by rw [← HOK.out]; unfold jOk; rw [HO2.out]; simp)
              go_wp2
              refine bodyPost_ret (v := .tuple #[.agg #[.float .f32 0, .float .f32 0, .int .i64 0], .bool false]) (by simp [results, Try.results6, go_sem, r0, r1, r2]) rfl ⟨0, by rw [HNO.out]; rfl, fun h => by rw [HNO.out] at h; simp at h, ?_⟩
              exact ((B4.out.setCell hle _).setCell hle _).setCell hle _
            | true =>
              go_wp2_with (refine wpl_fbin rfl .add _ _ _ _ rfl rfl .f32 _ _ rfl rfl ?_; rintro q w' ⟨n, rfl⟩ hq; have HQ := Lib.hid (HQS.out _ hq); clear hq)
              generalize hw5 : w4.drewN _ = w5
              have hb5 : Below w4.heap.size w4 w5 := by rw [← hw5]; exact below_of_drewN _ _ _
              have B5 := Lib.hid (B4.out.trans (hb5.mono B4.out.size))
              have Ia := Lib.hid (Ia.out.below hb5 (Nat.le_refl _))
              have Ib := Lib.hid (Ib.out.below hb5 (Nat.le_refl _))
              have Ir := Lib.hid (Ir.out.below hb5 (Nat.le_refl _))
              clear hw5 hb5 B4 a0 a1 a2
              refine ifDecay_any.mono ?_
              rintro e w6 ⟨rfl, hb6⟩
              have B6 := Lib.hid (B5.out.trans (hb6.mono B5.out.size))
              have Ia := Lib.hid (Ia.out.below hb6 (Nat.le_refl _))
              have Ib := Lib.hid (Ib.out.below hb6 (Nat.le_refl _))
              have Ir := Lib.hid (Ir.out.below hb6 (Nat.le_refl _))
              clear hb6 B5
              have HDE : Hid (ok = decB Ha q m) := Lib.hid (by rw [← HOK.out, decB_O, HQ.out, ← HSO.out]; unfold jOk; rw [HJA.out, HO1.out, HO2.out]; simp)
              cases hd : decB Ha q m with
              | false =>
                have r0 := Ir.out.cell (i := 0) (v := .float .f32 0) rfl
                have q0 := Ir.out.free 0
                have r1 := Ir.out.cell (i := 1) (v := .float .f32 0) rfl
                have q1 := Ir.out.free 1
                have r2 := Ir.out.cell (i := 2) (v := .int .i64 0) rfl
                have q2 := Ir.out.free 2
                have HNO := Lib.hid (show ok = false by rw [HDE.out, hd])
                have edc : dcT false Ha q m = .tuple #[.agg #[.float .f32 0, .float .f32 0, .int .i64 0], .bool false] := rfl
                rw [edc]
                go_wp2
                refine bodyPost_ret (v := .tuple #[.agg #[.float .f32 0, .float .f32 0, .int .i64 0], .bool false]) (by simp [results, Try.results6, go_sem, r0, r1, r2]) rfl ⟨0, by rw [HNO.out]; rfl, fun h => by rw [HNO.out] at h; simp at h, ?_⟩
                exact ((B6.out.setCell hle _).setCell hle _).setCell hle _
              | true =>
                have HYE : Hid (ok = true) := Lib.hid (by rw [HDE.out, hd])
                have edc : dcT true Ha q m = .tuple #[.agg #[.float .f32 Ha, .float .f32 q, .int .i64 m], .bool true] := rfl
                rw [edc]
                have r0 := Ir.out.cell (i := 0) (v := .float .f32 0) rfl
                have q0 := Ir.out.free 0
                have r1 := Ir.out.cell (i := 1) (v := .float .f32 0) rfl
                have q1 := Ir.out.free 1
                have r2 := Ir.out.cell (i := 2) (v := .int .i64 0) rfl
                have q2 := Ir.out.free 2
                go_wp2
                refine bodyPost_ret (v := .tuple #[.agg #[.float .f32 Ha, .float .f32 q, .int .i64 m], .bool true]) (by simp [results, Try.results6, go_sem, r0, r1, r2]) rfl ⟨q, by rw [HYE.out]; rfl, fun _ => HQ.out, ?_⟩
                exact ((B6.out.setCell hle _).setCell hle _).setCell hle _

      · have h3' : (FloatKind.f32.format.order Ha Hb == some Ordering.eq) = false := by simpa using h3
        have h3'' : (FloatKind.f32.format.order Ha Hb != some Ordering.eq) = true := by simpa using h3
        have r0 := Ir.out.cell (i := 0) (v := .float .f32 0) rfl
        have q0 := Ir.out.free 0
        have r1 := Ir.out.cell (i := 1) (v := .float .f32 0) rfl
        have q1 := Ir.out.free 1
        have r2 := Ir.out.cell (i := 2) (v := .int .i64 0) rfl
        have q2 := Ir.out.free 2
        have HNO := Lib.hid (show ok = false by rw [← HOK.out]; unfold jOk jA; rw [h3']; simp)
        go_wp2
        refine bodyPost_ret (v := .tuple #[.agg #[.float .f32 0, .float .f32 0, .int .i64 0], .bool false]) (by simp [results, Try.results6, go_sem, r0, r1, r2]) rfl ⟨0, by rw [HNO.out]; rfl, fun h => by rw [HNO.out] at h; simp at h, ?_⟩
        exact ((B2.out.setCell hle _).setCell hle _).setCell hle _


set_option maxRecDepth 20000 in
set_option maxHeartbeats 1000000 in
theorem specJoinDecays_any {Ha Sa Hb Sb : Nat} {Ma Mb : Int} {w : World} :
    Calls Try.prog 4 #[.agg #[.float .f32 Ha, .float .f32 Sa, .int .i64 Ma], .agg #[.float .f32 Hb, .float .f32 Sb, .int .i64 Mb]] w (RetJD w (jOk Ha Sa Ma Hb Sb Mb (max Ma Mb)) Ha (jS Ha Sa Ma Hb Sb Mb (max Ma Mb)) (max Ma Mb)) := by
  have hB1 : Below w.heap.size w (w.alloc (.cells (dcV Ha Sa Ma) 25)) := (Below.refl _ _).alloc (Nat.le_refl _) _
  have hB2 := hB1.alloc (by simp) (.cells (dcV Hb Sb Mb) 25)
  have B0 := Lib.hid (hB2.alloc (by simp; omega) (.cells (dcV 0 0 0) 25))
  have Ia : Hid (Blk (((w.alloc (.cells (dcV Ha Sa Ma) 25)).alloc (.cells (dcV Hb Sb Mb) 25)).alloc (.cells (dcV 0 0 0) 25)) w.heap.size (dcV Ha Sa Ma) 25) := Lib.hid (((Blk.new _ _ _).alloc _).alloc _)
  have Ib : Hid (Blk (((w.alloc (.cells (dcV Ha Sa Ma) 25)).alloc (.cells (dcV Hb Sb Mb) 25)).alloc (.cells (dcV 0 0 0) 25)) (w.heap.size + 1) (dcV Hb Sb Mb) 25) := Lib.hid ((Blk.new' (by simp)).alloc _)
  have Ir : Hid (Blk (((w.alloc (.cells (dcV Ha Sa Ma) 25)).alloc (.cells (dcV Hb Sb Mb) 25)).alloc (.cells (dcV 0 0 0) 25)) (w.heap.size + 1 + 1) (dcV 0 0 0) 25) := Lib.hid (Blk.new' (by simp))
  clear hB1 hB2
  obtain ⟨m, hm⟩ : ∃ m, max Ma Mb = m := ⟨_, rfl⟩
  have HM := Lib.hid hm
  rw [hm]
  clear hm
  obtain ⟨ok, hok⟩ : ∃ r, jOk Ha Sa Ma Hb Sb Mb m = r := ⟨_, rfl⟩
  obtain ⟨so, hso⟩ : ∃ r, jS Ha Sa Ma Hb Sb Mb m = r := ⟨_, rfl⟩
  rw [hok, hso]
  have HOK := Lib.hid hok
  have HSO := Lib.hid hso
  clear hok hso
  have hle : w.heap.size ≤ w.heap.size + 1 + 1 := by omega
  have hsf := @run_store_fl Try.prog
  go_enter Try.func4, Try.ntmps4
  go_upto_region 1 with (fail)
  change Code.wp _ _ _ _ (((w.alloc (.cells (dcV Ha Sa Ma) 25)).alloc (.cells (dcV Hb Sb Mb) 25)).alloc (.cells (dcV 0 0 0) 25))
  generalize (((w.alloc (.cells (dcV Ha Sa Ma) 25)).alloc (.cells (dcV Hb Sb Mb) 25)).alloc (.cells (dcV 0 0 0) 25)) = w0 at B0 Ia Ib Ir ⊢
  go_wp2_with fail
  refine (l06Decay_any Ia.out).mono ?_
  rintro e w1 ⟨rfl, hb1⟩
  have B1 := Lib.hid (B0.out.trans (hb1.mono B0.out.size))
  have Ia := Lib.hid (Ia.out.below hb1 (Nat.le_refl _))
  have Ib := Lib.hid (Ib.out.below hb1 (Nat.le_refl _))
  have Ir := Lib.hid (Ir.out.below hb1 (Nat.le_refl _))
  clear hb1 B0
  cases h1 : decB Ha Sa Ma with
  | false =>
    have r0 := Ir.out.cell (i := 0) (v := .float .f32 0) rfl
    have q0 := Ir.out.free 0
    have r1 := Ir.out.cell (i := 1) (v := .float .f32 0) rfl
    have q1 := Ir.out.free 1
    have r2 := Ir.out.cell (i := 2) (v := .int .i64 0) rfl
    have q2 := Ir.out.free 2
    have HNO := Lib.hid (show ok = false by rw [← HOK.out]; unfold jOk jA; rw [h1]; simp)
    go_wp2
    refine bodyPost_ret (v := .tuple #[.agg #[.float .f32 0, .float .f32 0, .int .i64 0], .bool false]) (by simp [results, Try.results4, go_sem, r0, r1, r2]) rfl ⟨0, by rw [HNO.out]; rfl, fun h => by rw [HNO.out] at h; simp at h, ?_⟩
    exact ((B1.out.setCell hle _).setCell hle _).setCell hle _
  | true =>
    go_wp2_with fail
    refine (l06Decay_any Ib.out).mono ?_
    rintro e w2 ⟨rfl, hb2⟩
    have B2 := Lib.hid (B1.out.trans (hb2.mono B1.out.size))
    have Ia := Lib.hid (Ia.out.below hb2 (Nat.le_refl _))
    have Ib := Lib.hid (Ib.out.below hb2 (Nat.le_refl _))
    have Ir := Lib.hid (Ir.out.below hb2 (Nat.le_refl _))
    clear hb2 B1
    cases h2 : decB Hb Sb Mb with
    | false =>
      have r0 := Ir.out.cell (i := 0) (v := .float .f32 0) rfl
      have q0 := Ir.out.free 0
      have r1 := Ir.out.cell (i := 1) (v := .float .f32 0) rfl
      have q1 := Ir.out.free 1
      have r2 := Ir.out.cell (i := 2) (v := .int .i64 0) rfl
      have q2 := Ir.out.free 2
      have HNO := Lib.hid (show ok = false by rw [← HOK.out]; unfold jOk jA; rw [h1, h2]; simp)
      go_wp2
      refine bodyPost_ret (v := .tuple #[.agg #[.float .f32 0, .float .f32 0, .int .i64 0], .bool false]) (by simp [results, Try.results4, go_sem, r0, r1, r2]) rfl ⟨0, by rw [HNO.out]; rfl, fun h => by rw [HNO.out] at h; simp at h, ?_⟩
      exact ((B2.out.setCell hle _).setCell hle _).setCell hle _
    | true =>
      have hMa := (decB_num h1).2
      have hMb := (decB_num h2).2
      have a0 := Ia.out.cell (i := 0) (v := .float .f32 Ha) rfl
      have a1 := Ia.out.cell (i := 1) (v := .float .f32 Sa) rfl
      have a2 := Ia.out.cell (i := 2) (v := .int .i64 Ma) rfl
      have b0 := Ib.out.cell (i := 0) (v := .float .f32 Hb) rfl
      have b1 := Ib.out.cell (i := 1) (v := .float .f32 Sb) rfl
      have b2 := Ib.out.cell (i := 2) (v := .int .i64 Mb) rfl
      by_cases h3 : FloatKind.f32.format.order Ha Hb = some .eq
      · have hm0 := HM.out
        have hmb : 0 ≤ m ∧ m ≤ 1000000 := by omega
        have HJA : Hid (jA Ha Sa Ma Hb Sb Mb = true) := Lib.hid (by unfold jA; rw [h1, h2, h3]; rfl)
        clear h1 h2 hm0
        go_wp2_with fail
        refine l00Max_any.mono ?_
        rintro e w3 ⟨rfl, rfl⟩
        rw [HM.out]
        go_wp2_with fail
        refine (specAt_any (t := m) (by omega)).mono ?_
        rintro e w3 ⟨x, rfl, hx, hb3⟩
        have B3 := Lib.hid (B2.out.trans (hb3.mono B2.out.size))
        have Ia := Lib.hid (Ia.out.below hb3 (Nat.le_refl _))
        have Ib := Lib.hid (Ib.out.below hb3 (Nat.le_refl _))
        have Ir := Lib.hid (Ir.out.below hb3 (Nat.le_refl _))
        have HX := Lib.hid hx
        clear hb3 B2 hx a0 a1 a2 b0 b1 b2
        have b0 := Ib.out.cell (i := 0) (v := .float .f32 Hb) rfl
        have b1 := Ib.out.cell (i := 1) (v := .float .f32 Sb) rfl
        have b2 := Ib.out.cell (i := 2) (v := .int .i64 Mb) rfl
        go_wp2_with fail
        refine (specAt_any (t := m) (by omega)).mono ?_
        rintro e w4 ⟨y, rfl, hy, hb4⟩
        have B4 := Lib.hid (B3.out.trans (hb4.mono B3.out.size))
        have Ia := Lib.hid (Ia.out.below hb4 (Nat.le_refl _))
        have Ib := Lib.hid (Ib.out.below hb4 (Nat.le_refl _))
        have Ir := Lib.hid (Ir.out.below hb4 (Nat.le_refl _))
        have HY := Lib.hid hy
        clear hb4 B3 hy b0 b1 b2
        have a0 := Ia.out.cell (i := 0) (v := .float .f32 Ha) rfl
        have a1 := Ia.out.cell (i := 1) (v := .float .f32 Sa) rfl
        have a2 := Ia.out.cell (i := 2) (v := .int .i64 Ma) rfl
        have HQS : Hid (∀ q, cn .f32 q = fbin .add .f32 (cn .f32 x) (cn .f32 y) → cn .f32 q = so) := Lib.hid (fun q h => by rw [h, HX.out, HY.out]; exact HSO.out)
        obtain ⟨o1, ho1⟩ : ∃ b, (atB Ha Sa Ma m && fin .f32 (atP Ha Sa Ma m)) = b := ⟨_, rfl⟩
        obtain ⟨o2, ho2⟩ : ∃ b, (atB Hb Sb Mb m && fin .f32 (atP Hb Sb Mb m)) = b := ⟨_, rfl⟩
        rw [ho1, ho2]
        have HO1 : Hid (jOn Ha Sa Ma m = o1) := Lib.hid ho1
        have HO2 : Hid (jOn Hb Sb Mb m = o2) := Lib.hid ho2
        clear ho1 ho2
        go_upto_region 7 with (refine wpl_fbin rfl .add _ _ _ _ rfl rfl .f32 _ _ rfl rfl ?_; rintro q wq hwq hq; have HQ := Lib.hid (HQS.out _ hq); have HWQ := Lib.hid hwq; clear hq hwq)
        have hbq : Below w4.heap.size w4 wq := by obtain ⟨n, hn⟩ := HWQ.out; rw [hn]; exact below_of_drewN _ _ _
        have hb5 : Below w4.heap.size w4 (wq.alloc (.cells (dcV Ha q m) 25)) := hbq.alloc hbq.size _
        have Io : Hid (Blk (wq.alloc (.cells (dcV Ha q m) 25)) wq.heap.size (dcV Ha q m) 25) := Lib.hid (Blk.new _ _ _)
        have B5 := Lib.hid (B4.out.trans (hb5.mono B4.out.size))
        have Ia := Lib.hid (Ia.out.below hb5 (Nat.le_refl _))
        have Ib := Lib.hid (Ib.out.below hb5 (Nat.le_refl _))
        have Ir := Lib.hid (Ir.out.below hb5 (Nat.le_refl _))
        clear hb5 B4 a0 a1 a2
        change Code.wp _ _ _ _ (wq.alloc (.cells (dcV Ha q m) 25))
        generalize wq.alloc (.cells (dcV Ha q m) 25) = w5 at Io B5 Ia Ib Ir ⊢
        generalize wq.heap.size = bo at Io ⊢
        cases o1 with
        | false =>
          have r0 := Ir.out.cell (i := 0) (v := .float .f32 0) rfl
          have q0 := Ir.out.free 0
          have r1 := Ir.out.cell (i := 1) (v := .float .f32 0) rfl
          have q1 := Ir.out.free 1
          have r2 := Ir.out.cell (i := 2) (v := .int .i64 0) rfl
          have q2 := Ir.out.free 2
          have HNO := Lib.hid (show ok = false by rw [← HOK.out]; unfold jOk; rw [HO1.out]; simp)
          go_wp2
          refine bodyPost_ret (v := .tuple #[.agg #[.float .f32 0, .float .f32 0, .int .i64 0], .bool false]) (by simp [results, Try.results4, go_sem, r0, r1, r2]) rfl ⟨0, by rw [HNO.out]; rfl, fun h => by rw [HNO.out] at h; simp at h, ?_⟩
          exact ((B5.out.setCell hle _).setCell hle _).setCell hle _
        | true =>
          cases o2 with
          | false =>
            have r0 := Ir.out.cell (i := 0) (v := .float .f32 0) rfl
            have q0 := Ir.out.free 0
            have r1 := Ir.out.cell (i := 1) (v := .float .f32 0) rfl
            have q1 := Ir.out.free 1
            have r2 := Ir.out.cell (i := 2) (v := .int .i64 0) rfl
            have q2 := Ir.out.free 2
            have HNO := Lib.hid (show ok = false by rw [← HOK.out]; unfold jOk; rw [HO2.out]; simp)
            go_wp2
            refine bodyPost_ret (v := .tuple #[.agg #[.float .f32 0, .float .f32 0, .int .i64 0], .bool false]) (by simp [results, Try.results4, go_sem, r0, r1, r2]) rfl ⟨0, by rw [HNO.out]; rfl, fun h => by rw [HNO.out] at h; simp at h, ?_⟩
            exact ((B5.out.setCell hle _).setCell hle _).setCell hle _
          | true =>
            go_wp2_with fail
            refine (l06Decay_any Io.out).mono ?_
            rintro e w6 ⟨rfl, hb6⟩
            have B6 := Lib.hid (B5.out.trans (hb6.mono B5.out.size))
            have Ia := Lib.hid (Ia.out.below hb6 (Nat.le_refl _))
            have Ib := Lib.hid (Ib.out.below hb6 (Nat.le_refl _))
            have Ir := Lib.hid (Ir.out.below hb6 (Nat.le_refl _))
            have Io := Lib.hid (Io.out.below hb6 (Nat.le_refl _))
            clear hb6 B5
            have HDE : Hid (ok = decB Ha q m) := Lib.hid (by rw [← HOK.out, decB_O, HQ.out, ← HSO.out]; unfold jOk; rw [HJA.out, HO1.out, HO2.out]; simp)
            cases hd : decB Ha q m with
            | false =>
              have r0 := Ir.out.cell (i := 0) (v := .float .f32 0) rfl
              have q0 := Ir.out.free 0
              have r1 := Ir.out.cell (i := 1) (v := .float .f32 0) rfl
              have q1 := Ir.out.free 1
              have r2 := Ir.out.cell (i := 2) (v := .int .i64 0) rfl
              have q2 := Ir.out.free 2
              have HNO := Lib.hid (show ok = false by rw [HDE.out, hd])
              go_wp2
              refine bodyPost_ret (v := .tuple #[.agg #[.float .f32 0, .float .f32 0, .int .i64 0], .bool false]) (by simp [results, Try.results4, go_sem, r0, r1, r2]) rfl ⟨0, by rw [HNO.out]; rfl, fun h => by rw [HNO.out] at h; simp at h, ?_⟩
              exact ((B6.out.setCell hle _).setCell hle _).setCell hle _
            | true =>
              have HYE : Hid (ok = true) := Lib.hid (by rw [HDE.out, hd])
              have o0 := Io.out.cell (i := 0) (v := .float .f32 Ha) rfl
              have o1 := Io.out.cell (i := 1) (v := .float .f32 q) rfl
              have o2 := Io.out.cell (i := 2) (v := .int .i64 m) rfl
              have r0 := Ir.out.cell (i := 0) (v := .float .f32 0) rfl
              have q0 := Ir.out.free 0
              have r1 := Ir.out.cell (i := 1) (v := .float .f32 0) rfl
              have q1 := Ir.out.free 1
              have r2 := Ir.out.cell (i := 2) (v := .int .i64 0) rfl
              have q2 := Ir.out.free 2
              go_wp2
              refine bodyPost_ret (v := .tuple #[.agg #[.float .f32 Ha, .float .f32 q, .int .i64 m], .bool true]) (by simp [results, Try.results4, go_sem, r0, r1, r2]) rfl ⟨q, by rw [HYE.out]; rfl, fun _ => HQ.out, ?_⟩
              exact ((B6.out.setCell hle _).setCell hle _).setCell hle _

      · have h3' : (FloatKind.f32.format.order Ha Hb == some Ordering.eq) = false := by simpa using h3
        have h3'' : (FloatKind.f32.format.order Ha Hb != some Ordering.eq) = true := by simpa using h3
        have r0 := Ir.out.cell (i := 0) (v := .float .f32 0) rfl
        have q0 := Ir.out.free 0
        have r1 := Ir.out.cell (i := 1) (v := .float .f32 0) rfl
        have q1 := Ir.out.free 1
        have r2 := Ir.out.cell (i := 2) (v := .int .i64 0) rfl
        have q2 := Ir.out.free 2
        have HNO := Lib.hid (show ok = false by rw [← HOK.out]; unfold jOk jA; rw [h3']; simp)
        go_wp2
        refine bodyPost_ret (v := .tuple #[.agg #[.float .f32 0, .float .f32 0, .int .i64 0], .bool false]) (by simp [results, Try.results4, go_sem, r0, r1, r2]) rfl ⟨0, by rw [HNO.out]; rfl, fun h => by rw [HNO.out] at h; simp at h, ?_⟩
        exact ((B2.out.setCell hle _).setCell hle _).setCell hle _


end Go.Proofs.Ytmmpemfhbnkomaa

namespace Go.Proofs.Ytmmpemfhbnkomaa
open Go.RowKit
attribute [local go_sem ↓] Go.wp_at_zero Go.wp_at_succ

theorem Blk.newBelow {w w1 : World} {B : Nat} {arr : Array Value} {T : TypeId} (hb : Below B (w.alloc (.cells arr T)) w1) (hB : (w.alloc (.cells arr T)).heap.size ≤ B) : Blk w1 w.heap.size arr T := (Blk.new w arr T).below hb hB

theorem Blk.newBelowD {w w1 : World} {B : Nat} {arr : Array Value} {T : TypeId} (hb : Below B (w.alloc (.cells arr T)).drew w1) (hB : (w.alloc (.cells arr T)).drew.heap.size ≤ B) : Blk w1 w.heap.size arr T := (Blk.new w arr T).drew.below hb hB

set_option maxHeartbeats 2000000 in
theorem toDecay_any {H S : Nat} {M : Int} {w : World} :
    Calls Try.prog 5 #[.agg #[.float .f32 H, .float .f32 S, .int .i64 M]] w fun e w' => e = .returned (.agg #[.float .f32 H, .float .f32 S, .int .i64 M]) ∧ Below w.heap.size w w' := by
  have hB1 : Below w.heap.size w (w.alloc (.cells (dcV H S M) 24)) := (Below.refl _ _).alloc (Nat.le_refl _) _
  have hB2 := hB1.alloc (by simp) (.cells (dcV 0 0 0) 25)
  have B0 := Lib.hid (hB2.alloc (by simp; omega) (.cells (dcV 0 0 0) 25))
  have I0 : Hid (Blk (((w.alloc (.cells (dcV H S M) 24)).alloc (.cells (dcV 0 0 0) 25)).alloc (.cells (dcV 0 0 0) 25)) w.heap.size (dcV H S M) 24) := Lib.hid (((Blk.new _ _ _).alloc _).alloc _)
  have J0 : Hid (Blk (((w.alloc (.cells (dcV H S M) 24)).alloc (.cells (dcV 0 0 0) 25)).alloc (.cells (dcV 0 0 0) 25)) (w.heap.size + 1) (dcV 0 0 0) 25) := Lib.hid ((Blk.new' (by simp)).alloc _)
  have K0 : Hid (Blk (((w.alloc (.cells (dcV H S M) 24)).alloc (.cells (dcV 0 0 0) 25)).alloc (.cells (dcV 0 0 0) 25)) (w.heap.size + 1 + 1) (dcV 0 0 0) 25) := Lib.hid (Blk.new' (by simp))
  clear hB1 hB2
  have hle : w.heap.size ≤ w.heap.size + 1 := by omega
  have hle2 : w.heap.size ≤ w.heap.size + 1 + 1 := by omega
  have hsf := @run_store_fl Try.prog
  go_enter Try.func5, Try.ntmps5
  go_upto_region 2 with (fail)
  change Code.wp _ _ _ _ (((w.alloc (.cells (dcV H S M) 24)).alloc (.cells (dcV 0 0 0) 25)).alloc (.cells (dcV 0 0 0) 25))
  generalize ((w.alloc (.cells (dcV H S M) 24)).alloc (.cells (dcV 0 0 0) 25)).alloc (.cells (dcV 0 0 0) 25) = w0 at B0 I0 J0 K0 ⊢
  have i0 := I0.out.cell (i := 0) (v := .float .f32 H) rfl
  have i1 := I0.out.cell (i := 1) (v := .float .f32 S) rfl
  have i2 := I0.out.cell (i := 2) (v := .int .i64 M) rfl
  have r0 := J0.out.cell (i := 0) (v := .float .f32 0) rfl
  have r1 := J0.out.cell (i := 1) (v := .float .f32 0) rfl
  have r2 := J0.out.cell (i := 2) (v := .int .i64 0) rfl
  have q0 := J0.out.free 0
  have q1 := J0.out.free 1
  have q2 := J0.out.free 2
  have s0 := K0.out.cell (i := 0) (v := .float .f32 0) rfl
  have s1 := K0.out.cell (i := 1) (v := .float .f32 0) rfl
  have s2 := K0.out.cell (i := 2) (v := .int .i64 0) rfl
  have p0 := K0.out.free 0
  have p1 := K0.out.free 1
  have p2 := K0.out.free 2
  go_wp2
  refine bodyPost_ret (v := .agg #[.float .f32 H, .float .f32 S, .int .i64 M]) (by simp [results, Try.results5, go_sem, r0, r1, r2, s0, s1, s2]) rfl ⟨rfl, ?_⟩
  exact (((((B0.out.setCell hle2 _).setCell hle2 _).setCell hle2 _).setCell hle _).setCell hle _).setCell hle _

set_option maxHeartbeats 2000000 in
theorem eqDecay_any {H S1 S2 : Nat} {M : Int} {w : World} (h : cn .f32 S1 = cn .f32 S2) :
    Calls Try.prog 7 #[.agg #[.float .f32 H, .float .f32 S1, .int .i64 M], .agg #[.float .f32 H, .float .f32 S2, .int .i64 M]] w fun e w' => e = .returned (.bool true) ∧ Below w.heap.size w w' := by
  have hB1 : Below w.heap.size w (w.alloc (.cells (dcV H S1 M) 25)) := (Below.refl _ _).alloc (Nat.le_refl _) _
  have B0 := Lib.hid (hB1.alloc (by simp) (.cells (dcV H S2 M) 25))
  have I0 : Hid (Blk ((w.alloc (.cells (dcV H S1 M) 25)).alloc (.cells (dcV H S2 M) 25)) w.heap.size (dcV H S1 M) 25) := Lib.hid ((Blk.new _ _ _).alloc _)
  have J0 : Hid (Blk ((w.alloc (.cells (dcV H S1 M) 25)).alloc (.cells (dcV H S2 M) 25)) (w.heap.size + 1) (dcV H S2 M) 25) := Lib.hid (Blk.new' (by simp))
  have HS := Lib.hid h
  clear hB1 h
  have hnm : (M != M) = false := by simp
  go_enter Try.func7, Try.ntmps7
  go_upto_region 1 with (fail)
  change Code.wp _ _ _ _ ((w.alloc (.cells (dcV H S1 M) 25)).alloc (.cells (dcV H S2 M) 25))
  generalize (w.alloc (.cells (dcV H S1 M) 25)).alloc (.cells (dcV H S2 M) 25) = w0 at B0 I0 J0 ⊢
  have i0 := I0.out.cell (i := 0) (v := .float .f32 H) rfl
  have j0 := J0.out.cell (i := 0) (v := .float .f32 H) rfl
  go_wp2_with (refine wpl_widen rfl _ _ _ rfl und_f32 und_f64 _ rfl ?_; rintro q w' ⟨n, rfl⟩ hq; have HQ := Lib.hid hq; clear hq)
  refine (sameFloat_any (by rw [HQ.out]; apply Hid.out; assumption)).mono ?_
  rintro e w1 ⟨rfl, hb1⟩
  have hb1' := (below_of_drewN w0 _ w0.heap.size).trans hb1
  have B1 := Lib.hid (B0.out.trans (hb1'.mono B0.out.size))
  have I1 := Lib.hid (I0.out.below hb1' (Nat.le_refl _))
  have J1 := Lib.hid (J0.out.below hb1' (Nat.le_refl _))
  clear hb1 hb1' B0 I0 J0 i0 j0
  have i1 := I1.out.cell (i := 1) (v := .float .f32 S1) rfl
  have j1 := J1.out.cell (i := 1) (v := .float .f32 S2) rfl
  go_wp2_with (refine wpl_widen rfl _ _ _ rfl und_f32 und_f64 _ rfl ?_; rintro q w' ⟨n, rfl⟩ hq; have HQ := Lib.hid hq; clear hq)
  refine (sameFloat_any (by rw [HQ.out, ← HS.out]; apply Hid.out; assumption)).mono ?_
  rintro e w2 ⟨rfl, hb2⟩
  have hb2' := (below_of_drewN w1 _ w1.heap.size).trans hb2
  have B2 := Lib.hid (B1.out.trans (hb2'.mono B1.out.size))
  have I2 := Lib.hid (I1.out.below hb2' (Nat.le_refl _))
  have J2 := Lib.hid (J1.out.below hb2' (Nat.le_refl _))
  clear hb2 hb2' B1 I1 J1 i1 j1
  have i2 := I2.out.cell (i := 2) (v := .int .i64 M) rfl
  have j2 := J2.out.cell (i := 2) (v := .int .i64 M) rfl
  go_wp2
  go_ret
  exact ⟨rfl, B2.out⟩

/-- The result, flat. -/
def RetJF (w : World) (ok : Bool) (H : Nat) (s : Option Nat) (m : Int) (e : Ending) (w' : World) : Prop :=
  ∃ r, e = .returned (.tuple #[.agg #[.float .f32 H, .float .f32 r, .int .i64 m], .bool ok]) ∧ cn .f32 r = s ∧ Below w.heap.size w w'
theorem RetJD.flat {w w' : World} {ok : Bool} {H : Nat} {s : Option Nat} {m : Int} {e : Ending} (h : RetJD w ok H s m e w') : RetJF w ok (if ok then H else 0) (if ok then s else some 0) (if ok then m else 0) e w' := by
  obtain ⟨r, he, hs, hb⟩ := h
  cases ok with
  | true => exact ⟨r, he, hs rfl, hb⟩
  | false => exact ⟨0, he, cn_zero, hb⟩

end Go.Proofs.Ytmmpemfhbnkomaa
