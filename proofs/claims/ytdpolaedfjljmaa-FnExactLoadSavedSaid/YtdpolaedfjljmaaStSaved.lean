/- The laws' helpers on saved ones. -/
import Derived.Test.YtdpolaedfjljmaaStCells
import Derived.Test.YtdpolaedfjljmaaStTops
import Derived.IntWalk
namespace Go.Proofs.Ytdpolaedfjljmaa
open Go.RowKit

/-- A saved one in new memory. -/
def RetSaved (w : World) (nm : ByteArray) (W D S R : Int) (cs ks ts es : List Int) (en : Ending) (w' : World) : Prop :=
  ∃ pcs qcs pks qks pts qts pes qes, en = .returned (.agg #[.string nm, .int .i64 W, .int .i64 D, .int .i64 S, .slice pcs cs.length qcs, .int .i64 R, .slice pks ks.length qks, .slice pts ts.length qts, .slice pes es.length qes]) ∧ Own (Value.int .i64) 2 w' w.heap.size pcs qcs cs ∧ Own (Value.int .i64) 2 w' w.heap.size pks qks ks ∧ Own (Value.int .i64) 2 w' w.heap.size pts qts ts ∧ Own (Value.int .i64) 2 w' w.heap.size pes qes es ∧ Below w.heap.size w w'

/-- Two saved ones that are the same. -/
theorem eqSaved_same {acs bcs : Option Addr} {ccs dcs : Nat} {cs : List Int} {aks bks : Option Addr} {cks dks : Nat} {ks : List Int} {ats bts : Option Addr} {cts dts : Nat} {ts : List Int} {aes bes : Option Addr} {ces des : Nat} {es : List Int} {nm : ByteArray} {W D S R : Int} {w : World} (hcs : Rd (Value.int .i64) w acs ccs cs) (gcs : Rd (Value.int .i64) w bcs dcs cs) (hks : Rd (Value.int .i64) w aks cks ks) (gks : Rd (Value.int .i64) w bks dks ks) (hts : Rd (Value.int .i64) w ats cts ts) (gts : Rd (Value.int .i64) w bts dts ts) (hes : Rd (Value.int .i64) w aes ces es) (ges : Rd (Value.int .i64) w bes des es) :
    Calls Try.prog 13 #[.agg #[.string nm, .int .i64 W, .int .i64 D, .int .i64 S, .slice acs cs.length ccs, .int .i64 R, .slice aks ks.length cks, .slice ats ts.length cts, .slice aes es.length ces], .agg #[.string nm, .int .i64 W, .int .i64 D, .int .i64 S, .slice bcs cs.length dcs, .int .i64 R, .slice bks ks.length dks, .slice bts ts.length dts, .slice bes es.length des]] w fun e w' => e = .returned (.bool true) ∧ Below w.heap.size w w' := by
  have B0 : Below w.heap.size w ((w.alloc (.cells #[.string nm, .int .i64 W, .int .i64 D, .int .i64 S, .slice acs cs.length ccs, .int .i64 R, .slice aks ks.length cks, .slice ats ts.length cts, .slice aes es.length ces] 28)).alloc (.cells #[.string nm, .int .i64 W, .int .i64 D, .int .i64 S, .slice bcs cs.length dcs, .int .i64 R, .slice bks ks.length dks, .slice bts ts.length dts, .slice bes es.length des] 28)) := ((Below.refl _ _).alloc (Nat.le_refl _) _).alloc (by simp) _
  have I0 : Blk ((w.alloc (.cells #[.string nm, .int .i64 W, .int .i64 D, .int .i64 S, .slice acs cs.length ccs, .int .i64 R, .slice aks ks.length cks, .slice ats ts.length cts, .slice aes es.length ces] 28)).alloc (.cells #[.string nm, .int .i64 W, .int .i64 D, .int .i64 S, .slice bcs cs.length dcs, .int .i64 R, .slice bks ks.length dks, .slice bts ts.length dts, .slice bes es.length des] 28)) w.heap.size #[.string nm, .int .i64 W, .int .i64 D, .int .i64 S, .slice acs cs.length ccs, .int .i64 R, .slice aks ks.length cks, .slice ats ts.length cts, .slice aes es.length ces] 28 := (Blk.new _ _ _).alloc _
  have J0 : Blk ((w.alloc (.cells #[.string nm, .int .i64 W, .int .i64 D, .int .i64 S, .slice acs cs.length ccs, .int .i64 R, .slice aks ks.length cks, .slice ats ts.length cts, .slice aes es.length ces] 28)).alloc (.cells #[.string nm, .int .i64 W, .int .i64 D, .int .i64 S, .slice bcs cs.length dcs, .int .i64 R, .slice bks ks.length dks, .slice bts ts.length dts, .slice bes es.length des] 28)) (w.heap.size + 1) #[.string nm, .int .i64 W, .int .i64 D, .int .i64 S, .slice bcs cs.length dcs, .int .i64 R, .slice bks ks.length dks, .slice bts ts.length dts, .slice bes es.length des] 28 := Blk.new' (by simp)
  have H0 := Lib.hid (And.intro B0 (And.intro I0 J0))
  have hnn : (!(nm.toList == nm.toList)) = false := by simp
  have hnn2 : (nm.toList == nm.toList) = true := by simp
  clear B0 I0 J0
  go_enter Try.func13, Try.ntmps13
  go_wp2_with fail
  all_goals first | (go_quiet (fail); go_wp2_with fail) | skip
  generalize ((w.alloc (.cells #[.string nm, .int .i64 W, .int .i64 D, .int .i64 S, .slice acs cs.length ccs, .int .i64 R, .slice aks ks.length cks, .slice ats ts.length cts, .slice aes es.length ces] 28)).alloc (.cells #[.string nm, .int .i64 W, .int .i64 D, .int .i64 S, .slice bcs cs.length dcs, .int .i64 R, .slice bks ks.length dks, .slice bts ts.length dts, .slice bes es.length des] 28)) = w0 at H0 ⊢
  have B0 := Lib.hid H0.out.1
  have I0 := Lib.hid H0.out.2.1
  have J0 := Lib.hid H0.out.2.2
  clear H0
  refine (eqCells_same (hcs.below B0.out (Nat.le_refl _)) (gcs.below B0.out (Nat.le_refl _))).mono ?_
  rintro e w1 ⟨rfl, hb0⟩
  have B1 := Lib.hid (B0.out.trans (hb0.mono B0.out.size))
  have I1 := Lib.hid (I0.out.below hb0 (Nat.le_refl _))
  have J1 := Lib.hid (J0.out.below hb0 (Nat.le_refl _))
  clear hb0 B0 I0 J0
  have i5 := I1.out.cell (i := 5) (v := .int .i64 R) rfl
  have j5 := J1.out.cell (i := 5) (v := .int .i64 R) rfl
  have i6 := I1.out.cell (i := 6) (v := .slice aks ks.length cks) rfl
  have j6 := J1.out.cell (i := 6) (v := .slice bks ks.length dks) rfl
  have i7 := I1.out.cell (i := 7) (v := .slice ats ts.length cts) rfl
  have j7 := J1.out.cell (i := 7) (v := .slice bts ts.length dts) rfl
  have i8 := I1.out.cell (i := 8) (v := .slice aes es.length ces) rfl
  have j8 := J1.out.cell (i := 8) (v := .slice bes es.length des) rfl
  go_wp2_with fail
  refine (eqTops_same (hks.below B1.out (Nat.le_refl _)) (gks.below B1.out (Nat.le_refl _)) (hts.below B1.out (Nat.le_refl _)) (gts.below B1.out (Nat.le_refl _)) (hes.below B1.out (Nat.le_refl _)) (ges.below B1.out (Nat.le_refl _))).mono ?_
  rintro e w2 ⟨rfl, hb1⟩
  have B2 := Lib.hid (B1.out.trans (hb1.mono B1.out.size))
  have I2 := Lib.hid (I1.out.below hb1 (Nat.le_refl _))
  have J2 := Lib.hid (J1.out.below hb1 (Nat.le_refl _))
  clear hb1 B1 I1 J1 i5 j5 i6 j6 i7 j7 i8 j8
  go_wp2
  go_ret
  exact ⟨rfl, B2.out⟩

end Go.Proofs.Ytdpolaedfjljmaa
