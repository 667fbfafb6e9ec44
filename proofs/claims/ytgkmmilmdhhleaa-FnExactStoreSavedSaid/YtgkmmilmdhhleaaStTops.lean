/- The laws' helpers on Tops. -/
import Derived.Test.YtgkmmilmdhhleaaWith
import Derived.Test.YtgkmmilmdhhleaaBlk
import Derived.Test.YtgkmmilmdhhleaaSz
namespace Go.Proofs.Ytgkmmilmdhhleaa
open Go.RowKit

/-- The struct in new memory. -/
def RetTops (w : World) (R : Int) (ks : List Int) (cs : List Int) (es : List Int) (en : Ending) (w' : World) : Prop :=
  ∃ pks qks pcs qcs pes qes, en = .returned (.agg #[.int .i64 R, .slice pks ks.length qks, .slice pcs cs.length qcs, .slice pes es.length qes]) ∧ Own (Value.int .i64) 2 w' w.heap.size pks qks ks ∧ Own (Value.int .i64) 2 w' w.heap.size pcs qcs cs ∧ Own (Value.int .i64) 2 w' w.heap.size pes qes es ∧ Below w.heap.size w w'

set_option maxRecDepth 4000 in
set_option maxHeartbeats 1000000 in
theorem toTops_any {aks : Option Addr} {cks : Nat} {ks : List Int} {acs : Option Addr} {ccs : Nat} {cs : List Int} {aes : Option Addr} {ces : Nat} {es : List Int} {R : Int} {w : World} (hks : Rd (Value.int .i64) w aks cks ks) (hcs : Rd (Value.int .i64) w acs ccs cs) (hes : Rd (Value.int .i64) w aes ces es) (nks : ks.length ≤ 1048576) (ncs : cs.length ≤ 1048576) (nes : es.length ≤ 1048576) :
    Calls Try.prog 112 #[.agg #[.int .i64 R, .slice aks ks.length cks, .slice acs cs.length ccs, .slice aes es.length ces]] w (RetTops w R ks cs es) := by
  have B0 : Below w.heap.size w (((w.alloc (.cells #[.int .i64 R, .slice aks ks.length cks, .slice acs cs.length ccs, .slice aes es.length ces] 71)).alloc (.cells #[.int .i64 0, .slice none 0 0, .slice none 0 0, .slice none 0 0] 77)).alloc (.cells #[.int .i64 R, .slice none 0 0, .slice none 0 0, .slice none 0 0] 77)) := (((Below.refl _ _).alloc (Nat.le_refl _) _).alloc (by simp) _).alloc (by simp; omega) _
  have I0 : Blk (((w.alloc (.cells #[.int .i64 R, .slice aks ks.length cks, .slice acs cs.length ccs, .slice aes es.length ces] 71)).alloc (.cells #[.int .i64 0, .slice none 0 0, .slice none 0 0, .slice none 0 0] 77)).alloc (.cells #[.int .i64 R, .slice none 0 0, .slice none 0 0, .slice none 0 0] 77)) w.heap.size #[.int .i64 R, .slice aks ks.length cks, .slice acs cs.length ccs, .slice aes es.length ces] 71 := ((Blk.new _ _ _).alloc _).alloc _
  have R0 : Blk (((w.alloc (.cells #[.int .i64 R, .slice aks ks.length cks, .slice acs cs.length ccs, .slice aes es.length ces] 71)).alloc (.cells #[.int .i64 0, .slice none 0 0, .slice none 0 0, .slice none 0 0] 77)).alloc (.cells #[.int .i64 R, .slice none 0 0, .slice none 0 0, .slice none 0 0] 77)) (w.heap.size + 1) #[.int .i64 0, .slice none 0 0, .slice none 0 0, .slice none 0 0] 77 := (Blk.new' (by simp)).alloc _
  have U0 : Blk (((w.alloc (.cells #[.int .i64 R, .slice aks ks.length cks, .slice acs cs.length ccs, .slice aes es.length ces] 71)).alloc (.cells #[.int .i64 0, .slice none 0 0, .slice none 0 0, .slice none 0 0] 77)).alloc (.cells #[.int .i64 R, .slice none 0 0, .slice none 0 0, .slice none 0 0] 77)) (w.heap.size + 1 + 1) #[.int .i64 R, .slice none 0 0, .slice none 0 0, .slice none 0 0] 77 := Blk.new' (by simp)
  have H0 := Lib.hid (And.intro B0 (And.intro I0 (And.intro R0 U0)))
  clear B0 I0 R0 U0
  go_enter Try.func112, Try.ntmps112
  go_wp2_with fail
  generalize (((w.alloc (.cells #[.int .i64 R, .slice aks ks.length cks, .slice acs cs.length ccs, .slice aes es.length ces] 71)).alloc (.cells #[.int .i64 0, .slice none 0 0, .slice none 0 0, .slice none 0 0] 77)).alloc (.cells #[.int .i64 R, .slice none 0 0, .slice none 0 0, .slice none 0 0] 77)) = W0 at H0 ⊢
  have B0 := Lib.hid H0.out.1
  have I0 := Lib.hid H0.out.2.1
  have R0 := Lib.hid H0.out.2.2.1
  have U0 := Lib.hid H0.out.2.2.2
  have z0 : w.heap.size + 1 + 1 < W0.heap.size := U0.out.lt
  clear H0
  refine (toI_any (hks.below B0.out (Nat.le_refl _)) nks).mono ?_
  rintro e w1 ⟨pks, qks, rfl, oks, hb0⟩
  have I0' := I0.out.below hb0 (Nat.le_refl _)
  have R0' := R0.out.below hb0 (Nat.le_refl _)
  have U0' := U0.out.below hb0 (Nat.le_refl _)
  have B0' := B0.out.trans (hb0.mono B0.out.size)
  have Oks := Lib.hid (oks.mono (b' := w.heap.size + 1 + 1 + 1) z0)
  clear oks hb0 I0 R0 U0 B0 z0
  have u0 := U0'.cell (i := 1) (v := .slice none 0 0) rfl
  have uf0 := U0'.free 1
  have i0 := I0'.cell (i := 2) (v := .slice acs cs.length ccs) rfl
  have U1 : Hid (Blk (w1.setCell ⟨w.heap.size + 1 + 1, 1, none⟩ (.slice pks ks.length qks)) (w.heap.size + 1 + 1) #[.int .i64 R, .slice pks ks.length qks, .slice none 0 0, .slice none 0 0] 77) := U0'.set 1 _
  have I1 := Lib.hid (I0'.far (p := ⟨w.heap.size + 1 + 1, 1, none⟩) (by simp; omega) (.slice pks ks.length qks))
  have R1 := Lib.hid (R0'.far (p := ⟨w.heap.size + 1 + 1, 1, none⟩) (by simp) (.slice pks ks.length qks))
  have B1 : Hid (Below w.heap.size w (w1.setCell ⟨w.heap.size + 1 + 1, 1, none⟩ (.slice pks ks.length qks))) := B0'.setCell (by simp; omega) _
  replace Oks := Lib.hid (Oks.out.setFar ⟨w.heap.size + 1 + 1, 1, none⟩ (.slice pks ks.length qks) (by simp))
  clear I0' R0' U0' B0'
  go_wp2_with fail
  have z1 : w.heap.size + 1 + 1 < (w1.setCell ⟨w.heap.size + 1 + 1, 1, none⟩ (.slice pks ks.length qks)).heap.size := U1.out.lt
  generalize w1.setCell ⟨w.heap.size + 1 + 1, 1, none⟩ (.slice pks ks.length qks) = W1 at U1 I1 R1 B1 z1 Oks ⊢
  clear u0 uf0 i0
  refine (toI_any (hcs.below B1.out (Nat.le_refl _)) ncs).mono ?_
  rintro e w2 ⟨pcs, qcs, rfl, ocs, hb1⟩
  have I1' := I1.out.below hb1 (Nat.le_refl _)
  have R1' := R1.out.below hb1 (Nat.le_refl _)
  have U1' := U1.out.below hb1 (Nat.le_refl _)
  have B1' := B1.out.trans (hb1.mono B1.out.size)
  have Ocs := Lib.hid (ocs.mono (b' := w.heap.size + 1 + 1 + 1) z1)
  replace Oks := Lib.hid (Oks.out.below hb1 (Nat.le_refl _))
  clear ocs hb1 I1 R1 U1 B1 z1
  have u1 := U1'.cell (i := 2) (v := .slice none 0 0) rfl
  have uf1 := U1'.free 2
  have i1 := I1'.cell (i := 3) (v := .slice aes es.length ces) rfl
  have U2 : Hid (Blk (w2.setCell ⟨w.heap.size + 1 + 1, 2, none⟩ (.slice pcs cs.length qcs)) (w.heap.size + 1 + 1) #[.int .i64 R, .slice pks ks.length qks, .slice pcs cs.length qcs, .slice none 0 0] 77) := U1'.set 2 _
  have I2 := Lib.hid (I1'.far (p := ⟨w.heap.size + 1 + 1, 2, none⟩) (by simp; omega) (.slice pcs cs.length qcs))
  have R2 := Lib.hid (R1'.far (p := ⟨w.heap.size + 1 + 1, 2, none⟩) (by simp) (.slice pcs cs.length qcs))
  have B2 : Hid (Below w.heap.size w (w2.setCell ⟨w.heap.size + 1 + 1, 2, none⟩ (.slice pcs cs.length qcs))) := B1'.setCell (by simp; omega) _
  replace Oks := Lib.hid (Oks.out.setFar ⟨w.heap.size + 1 + 1, 2, none⟩ (.slice pcs cs.length qcs) (by simp))
  replace Ocs := Lib.hid (Ocs.out.setFar ⟨w.heap.size + 1 + 1, 2, none⟩ (.slice pcs cs.length qcs) (by simp))
  clear I1' R1' U1' B1'
  go_wp2_with fail
  have z2 : w.heap.size + 1 + 1 < (w2.setCell ⟨w.heap.size + 1 + 1, 2, none⟩ (.slice pcs cs.length qcs)).heap.size := U2.out.lt
  generalize w2.setCell ⟨w.heap.size + 1 + 1, 2, none⟩ (.slice pcs cs.length qcs) = W2 at U2 I2 R2 B2 z2 Oks Ocs ⊢
  clear u1 uf1 i1
  refine (toI_any (hes.below B2.out (Nat.le_refl _)) nes).mono ?_
  rintro e w3 ⟨pes, qes, rfl, oes, hb2⟩
  have I2' := I2.out.below hb2 (Nat.le_refl _)
  have R2' := R2.out.below hb2 (Nat.le_refl _)
  have U2' := U2.out.below hb2 (Nat.le_refl _)
  have B2' := B2.out.trans (hb2.mono B2.out.size)
  have Oes := Lib.hid (oes.mono (b' := w.heap.size + 1 + 1 + 1) z2)
  replace Oks := Lib.hid (Oks.out.below hb2 (Nat.le_refl _))
  replace Ocs := Lib.hid (Ocs.out.below hb2 (Nat.le_refl _))
  clear oes hb2 I2 R2 U2 B2 z2
  have u0 := U2'.cell (i := 0) (v := .int .i64 R) rfl
  have r0 := R2'.cell (i := 0) (v := .int .i64 0) rfl
  have rf0 := R2'.free 0
  have u1 := U2'.cell (i := 1) (v := .slice pks ks.length qks) rfl
  have r1 := R2'.cell (i := 1) (v := .slice none 0 0) rfl
  have rf1 := R2'.free 1
  have u2 := U2'.cell (i := 2) (v := .slice pcs cs.length qcs) rfl
  have r2 := R2'.cell (i := 2) (v := .slice none 0 0) rfl
  have rf2 := R2'.free 2
  have u3 := U2'.cell (i := 3) (v := .slice none 0 0) rfl
  have r3 := R2'.cell (i := 3) (v := .slice none 0 0) rfl
  have rf3 := R2'.free 3
  have uf := U2'.free 3
  have BB := Lib.hid B2'
  clear I2' R2' U2' B2'
  go_wp2
  refine bodyPost_ret (v := .agg #[.int .i64 R, .slice pks ks.length qks, .slice pcs cs.length qcs, .slice pes es.length qes]) (by simp [results, Try.results112, go_sem, r0, u0, r1, u1, r2, u2, r3, u3]) rfl ⟨pks, qks, pcs, qcs, pes, qes, rfl, ?_, ?_, ?_, (((((BB.out.setCell (by simp; omega) _).setCell (by simp) _).setCell (by simp) _).setCell (by simp) _).setCell (by simp) _)⟩
  · exact (((((Oks.out.setFar _ _ (by simp)).setFar _ _ (by simp)).setFar _ _ (by simp)).setFar _ _ (by simp)).setFar _ _ (by simp)).mono (by omega)
  · exact (((((Ocs.out.setFar _ _ (by simp)).setFar _ _ (by simp)).setFar _ _ (by simp)).setFar _ _ (by simp)).setFar _ _ (by simp)).mono (by omega)
  · exact (((((Oes.out.setFar _ _ (by simp)).setFar _ _ (by simp)).setFar _ _ (by simp)).setFar _ _ (by simp)).setFar _ _ (by simp)).mono (by omega)

/-- Two that are the same. -/
theorem eqTops_same {aks bks : Option Addr} {cks dks : Nat} {ks : List Int} {acs bcs : Option Addr} {ccs dcs : Nat} {cs : List Int} {aes bes : Option Addr} {ces des : Nat} {es : List Int} {R : Int} {w : World} (hks : Rd (Value.int .i64) w aks cks ks) (gks : Rd (Value.int .i64) w bks dks ks) (hcs : Rd (Value.int .i64) w acs ccs cs) (gcs : Rd (Value.int .i64) w bcs dcs cs) (hes : Rd (Value.int .i64) w aes ces es) (ges : Rd (Value.int .i64) w bes des es) :
    Calls Try.prog 118 #[.agg #[.int .i64 R, .slice aks ks.length cks, .slice acs cs.length ccs, .slice aes es.length ces], .agg #[.int .i64 R, .slice bks ks.length dks, .slice bcs cs.length dcs, .slice bes es.length des]] w fun e w' => e = .returned (.bool true) ∧ Below w.heap.size w w' := by
  have B0 : Below w.heap.size w ((w.alloc (.cells #[.int .i64 R, .slice aks ks.length cks, .slice acs cs.length ccs, .slice aes es.length ces] 77)).alloc (.cells #[.int .i64 R, .slice bks ks.length dks, .slice bcs cs.length dcs, .slice bes es.length des] 77)) := ((Below.refl _ _).alloc (Nat.le_refl _) _).alloc (by simp) _
  have I0 : Blk ((w.alloc (.cells #[.int .i64 R, .slice aks ks.length cks, .slice acs cs.length ccs, .slice aes es.length ces] 77)).alloc (.cells #[.int .i64 R, .slice bks ks.length dks, .slice bcs cs.length dcs, .slice bes es.length des] 77)) w.heap.size #[.int .i64 R, .slice aks ks.length cks, .slice acs cs.length ccs, .slice aes es.length ces] 77 := (Blk.new _ _ _).alloc _
  have J0 : Blk ((w.alloc (.cells #[.int .i64 R, .slice aks ks.length cks, .slice acs cs.length ccs, .slice aes es.length ces] 77)).alloc (.cells #[.int .i64 R, .slice bks ks.length dks, .slice bcs cs.length dcs, .slice bes es.length des] 77)) (w.heap.size + 1) #[.int .i64 R, .slice bks ks.length dks, .slice bcs cs.length dcs, .slice bes es.length des] 77 := Blk.new' (by simp)
  have H0 := Lib.hid (And.intro B0 (And.intro I0 J0))
  have hdR : (R != R) = false := by simp
  clear B0 I0 J0
  go_enter Try.func118, Try.ntmps118
  go_wp2_with fail
  generalize ((w.alloc (.cells #[.int .i64 R, .slice aks ks.length cks, .slice acs cs.length ccs, .slice aes es.length ces] 77)).alloc (.cells #[.int .i64 R, .slice bks ks.length dks, .slice bcs cs.length dcs, .slice bes es.length des] 77)) = W0 at H0 ⊢
  have B0 := Lib.hid H0.out.1
  have I0 := Lib.hid H0.out.2.1
  have J0 := Lib.hid H0.out.2.2
  clear H0
  refine (eqI_any (hks.below B0.out (Nat.le_refl _)) (gks.below B0.out (Nat.le_refl _))).mono ?_
  rintro e w1 ⟨rfl, hb0⟩
  rw [show decide (ks = ks) = true by simp]
  have B1 := Lib.hid (B0.out.trans (hb0.mono B0.out.size))
  have I1 := Lib.hid (I0.out.below hb0 (Nat.le_refl _))
  have J1 := Lib.hid (J0.out.below hb0 (Nat.le_refl _))
  clear hb0 B0 I0 J0
  have i1 := I1.out.cell (i := 2) (v := .slice acs cs.length ccs) rfl
  have j1 := J1.out.cell (i := 2) (v := .slice bcs cs.length dcs) rfl
  go_wp2_with fail
  refine (eqI_any (hcs.below B1.out (Nat.le_refl _)) (gcs.below B1.out (Nat.le_refl _))).mono ?_
  rintro e w2 ⟨rfl, hb1⟩
  rw [show decide (cs = cs) = true by simp]
  have B2 := Lib.hid (B1.out.trans (hb1.mono B1.out.size))
  have I2 := Lib.hid (I1.out.below hb1 (Nat.le_refl _))
  have J2 := Lib.hid (J1.out.below hb1 (Nat.le_refl _))
  clear hb1 B1 I1 J1 i1 j1
  have i2 := I2.out.cell (i := 3) (v := .slice aes es.length ces) rfl
  have j2 := J2.out.cell (i := 3) (v := .slice bes es.length des) rfl
  go_wp2_with fail
  refine (eqI_any (hes.below B2.out (Nat.le_refl _)) (ges.below B2.out (Nat.le_refl _))).mono ?_
  rintro e w3 ⟨rfl, hb2⟩
  rw [show decide (es = es) = true by simp]
  have B3 := Lib.hid (B2.out.trans (hb2.mono B2.out.size))
  have I3 := Lib.hid (I2.out.below hb2 (Nat.le_refl _))
  have J3 := Lib.hid (J2.out.below hb2 (Nat.le_refl _))
  clear hb2 B2 I2 J2 i2 j2
  go_wp2
  go_ret
  exact ⟨rfl, B3.out⟩

/-- The room that is left, or -1. -/
theorem szTops_any {aks : Option Addr} {cks : Nat} {ks : List Int} {acs : Option Addr} {ccs : Nat} {cs : List Int} {aes : Option Addr} {ces : Nat} {es : List Int} {R : Int} {l : Int} {w : World} (hks : Rd (Value.int .i64) w aks cks ks) (hcs : Rd (Value.int .i64) w acs ccs cs) (hes : Rd (Value.int .i64) w aes ces es) (l0 : 0 ≤ l) (l1 : l ≤ 1048576) :
    Calls Try.prog 109 #[.agg #[.int .i64 R, .slice aks ks.length cks, .slice acs cs.length ccs, .slice aes es.length ces], .int .i64 l] w fun e w' => e = .returned (.int .i64 (room l ((ks.length : Int) + (cs.length : Int) + (es.length : Int)))) ∧ Below w.heap.size w w' := by
  have hlks := hks.len
  have hlcs := hcs.len
  have hles := hes.len
  have B0 : Below w.heap.size w (w.alloc (.cells #[.int .i64 R, .slice aks ks.length cks, .slice acs cs.length ccs, .slice aes es.length ces] 71)) := (Below.refl _ _).alloc (Nat.le_refl _) _
  have Hks := Lib.hid (hks.below B0 (Nat.le_refl _))
  have Hcs := Lib.hid (hcs.below B0 (Nat.le_refl _))
  have Hes := Lib.hid (hes.below B0 (Nat.le_refl _))
  have HB := Lib.hid B0
  clear B0
  by_cases g0 : l < ks.length
  · have e0 := Lib.hid (room_no g0)
    have et := Lib.hid (room_no (l := l) (s := (ks.length : Int) + (cs.length : Int) + (es.length : Int)) (by omega))
    rw [et.out]
    go_enter Try.func109, Try.ntmps109
    go_wp2_with fail
    refine (szI_any Hks.out (by omega) (by omega)).mono ?_
    rintro e w1 ⟨rfl, rfl⟩
    rw [e0.out]
    go_wp2
    go_ret
    exact ⟨rfl, HB.out⟩
  have e0 := Lib.hid (room_yes g0)
  by_cases g1 : (l - ks.length) < cs.length
  · have e1 := Lib.hid (room_no g1)
    have et := Lib.hid (room_no (l := l) (s := (ks.length : Int) + (cs.length : Int) + (es.length : Int)) (by omega))
    rw [et.out]
    go_enter Try.func109, Try.ntmps109
    go_wp2_with fail
    refine (szI_any Hks.out (by omega) (by omega)).mono ?_
    rintro e w1 ⟨rfl, rfl⟩
    rw [e0.out]
    go_wp2_with fail
    refine (szI_any Hcs.out (by omega) (by omega)).mono ?_
    rintro e w1 ⟨rfl, rfl⟩
    rw [e1.out]
    go_wp2
    go_ret
    exact ⟨rfl, HB.out⟩
  have e1 := Lib.hid (room_yes g1)
  by_cases g2 : ((l - ks.length) - cs.length) < es.length
  · have e2 := Lib.hid (room_no g2)
    have et := Lib.hid (room_no (l := l) (s := (ks.length : Int) + (cs.length : Int) + (es.length : Int)) (by omega))
    rw [et.out]
    go_enter Try.func109, Try.ntmps109
    go_wp2_with fail
    refine (szI_any Hks.out (by omega) (by omega)).mono ?_
    rintro e w1 ⟨rfl, rfl⟩
    rw [e0.out]
    go_wp2_with fail
    refine (szI_any Hcs.out (by omega) (by omega)).mono ?_
    rintro e w1 ⟨rfl, rfl⟩
    rw [e1.out]
    go_wp2_with fail
    refine (szI_any Hes.out (by omega) (by omega)).mono ?_
    rintro e w1 ⟨rfl, rfl⟩
    rw [e2.out]
    go_wp2
    go_ret
    exact ⟨rfl, HB.out⟩
  have e2 := Lib.hid (room_yes g2)
  have et := Lib.hid (room_yes (l := l) (s := (ks.length : Int) + (cs.length : Int) + (es.length : Int)) (by omega))
  have ef : (((l - ks.length) - cs.length) - es.length) = l - ((ks.length : Int) + (cs.length : Int) + (es.length : Int)) := by omega
  rw [et.out, ← ef]
  clear ef
  go_enter Try.func109, Try.ntmps109
  go_wp2_with fail
  refine (szI_any Hks.out (by omega) (by omega)).mono ?_
  rintro e w1 ⟨rfl, rfl⟩
  rw [e0.out]
  go_wp2_with fail
  refine (szI_any Hcs.out (by omega) (by omega)).mono ?_
  rintro e w1 ⟨rfl, rfl⟩
  rw [e1.out]
  go_wp2_with fail
  refine (szI_any Hes.out (by omega) (by omega)).mono ?_
  rintro e w1 ⟨rfl, rfl⟩
  rw [e2.out]
  go_wp2
  go_ret
  exact ⟨rfl, HB.out⟩

end Go.Proofs.Ytgkmmilmdhhleaa
