/- The laws' helpers on Tops. -/
import Derived.Test.YtdpolaedfjljmaaToI
import Derived.Test.YtdpolaedfjljmaaLib
import Derived.Test.YtdpolaedfjljmaaSz
namespace Go.Proofs.Ytdpolaedfjljmaa
open Go.RowKit

/-- The struct in new memory. -/
def RetTops (w : World) (R : Int) (ks : List Int) (cs : List Int) (es : List Int) (en : Ending) (w' : World) : Prop :=
  ∃ pks qks pcs qcs pes qes, en = .returned (.agg #[.int .i64 R, .slice pks ks.length qks, .slice pcs cs.length qcs, .slice pes es.length qes]) ∧ Own (Value.int .i64) 2 w' w.heap.size pks qks ks ∧ Own (Value.int .i64) 2 w' w.heap.size pcs qcs cs ∧ Own (Value.int .i64) 2 w' w.heap.size pes qes es ∧ Below w.heap.size w w'

/-- Two that are the same. -/
theorem eqTops_same {aks bks : Option Addr} {cks dks : Nat} {ks : List Int} {acs bcs : Option Addr} {ccs dcs : Nat} {cs : List Int} {aes bes : Option Addr} {ces des : Nat} {es : List Int} {R : Int} {w : World} (hks : Rd (Value.int .i64) w aks cks ks) (gks : Rd (Value.int .i64) w bks dks ks) (hcs : Rd (Value.int .i64) w acs ccs cs) (gcs : Rd (Value.int .i64) w bcs dcs cs) (hes : Rd (Value.int .i64) w aes ces es) (ges : Rd (Value.int .i64) w bes des es) :
    Calls Try.prog 53 #[.agg #[.int .i64 R, .slice aks ks.length cks, .slice acs cs.length ccs, .slice aes es.length ces], .agg #[.int .i64 R, .slice bks ks.length dks, .slice bcs cs.length dcs, .slice bes es.length des]] w fun e w' => e = .returned (.bool true) ∧ Below w.heap.size w w' := by
  have B0 : Below w.heap.size w ((w.alloc (.cells #[.int .i64 R, .slice aks ks.length cks, .slice acs cs.length ccs, .slice aes es.length ces] 26)).alloc (.cells #[.int .i64 R, .slice bks ks.length dks, .slice bcs cs.length dcs, .slice bes es.length des] 26)) := ((Below.refl _ _).alloc (Nat.le_refl _) _).alloc (by simp) _
  have I0 : Blk ((w.alloc (.cells #[.int .i64 R, .slice aks ks.length cks, .slice acs cs.length ccs, .slice aes es.length ces] 26)).alloc (.cells #[.int .i64 R, .slice bks ks.length dks, .slice bcs cs.length dcs, .slice bes es.length des] 26)) w.heap.size #[.int .i64 R, .slice aks ks.length cks, .slice acs cs.length ccs, .slice aes es.length ces] 26 := (Blk.new _ _ _).alloc _
  have J0 : Blk ((w.alloc (.cells #[.int .i64 R, .slice aks ks.length cks, .slice acs cs.length ccs, .slice aes es.length ces] 26)).alloc (.cells #[.int .i64 R, .slice bks ks.length dks, .slice bcs cs.length dcs, .slice bes es.length des] 26)) (w.heap.size + 1) #[.int .i64 R, .slice bks ks.length dks, .slice bcs cs.length dcs, .slice bes es.length des] 26 := Blk.new' (by simp)
  have H0 := Lib.hid (And.intro B0 (And.intro I0 J0))
  have hdR : (R != R) = false := by simp
  clear B0 I0 J0
  go_enter Try.func53, Try.ntmps53
  go_wp2_with fail
  generalize ((w.alloc (.cells #[.int .i64 R, .slice aks ks.length cks, .slice acs cs.length ccs, .slice aes es.length ces] 26)).alloc (.cells #[.int .i64 R, .slice bks ks.length dks, .slice bcs cs.length dcs, .slice bes es.length des] 26)) = W0 at H0 ⊢
  have B0 := Lib.hid H0.out.1
  have I0 := Lib.hid H0.out.2.1
  have J0 := Lib.hid H0.out.2.2
  clear H0
  refine (eqI_any (hks.below B0.out (Nat.le_refl _)) (gks.below B0.out (Nat.le_refl _))).mono ?_
  rintro e w1 ⟨rfl, hb0⟩
  rw [show decide (ks = ks) = true by simp]
  have B1 := Lib.hid (B0.out.trans (hb0.mono B0.out.size))
  have I1 := Lib.hid (I0.out.below hb0 (Nat.le_refl _))
  have J1 := Lib.hid (J0.out.below hb0 (Nat.le_refl _))
  clear hb0 B0 I0 J0
  have i1 := I1.out.cell (i := 2) (v := .slice acs cs.length ccs) rfl
  have j1 := J1.out.cell (i := 2) (v := .slice bcs cs.length dcs) rfl
  go_wp2_with fail
  refine (eqI_any (hcs.below B1.out (Nat.le_refl _)) (gcs.below B1.out (Nat.le_refl _))).mono ?_
  rintro e w2 ⟨rfl, hb1⟩
  rw [show decide (cs = cs) = true by simp]
  have B2 := Lib.hid (B1.out.trans (hb1.mono B1.out.size))
  have I2 := Lib.hid (I1.out.below hb1 (Nat.le_refl _))
  have J2 := Lib.hid (J1.out.below hb1 (Nat.le_refl _))
  clear hb1 B1 I1 J1 i1 j1
  have i2 := I2.out.cell (i := 3) (v := .slice aes es.length ces) rfl
  have j2 := J2.out.cell (i := 3) (v := .slice bes es.length des) rfl
  go_wp2_with fail
  refine (eqI_any (hes.below B2.out (Nat.le_refl _)) (ges.below B2.out (Nat.le_refl _))).mono ?_
  rintro e w3 ⟨rfl, hb2⟩
  rw [show decide (es = es) = true by simp]
  have B3 := Lib.hid (B2.out.trans (hb2.mono B2.out.size))
  have I3 := Lib.hid (I2.out.below hb2 (Nat.le_refl _))
  have J3 := Lib.hid (J2.out.below hb2 (Nat.le_refl _))
  clear hb2 B2 I2 J2 i2 j2
  go_wp2
  go_ret
  exact ⟨rfl, B3.out⟩

end Go.Proofs.Ytdpolaedfjljmaa
