/- The laws' helpers on Cells. -/
import Derived.Test.YtdpolaedfjljmaaToI
import Derived.Test.YtdpolaedfjljmaaLib
import Derived.Test.YtdpolaedfjljmaaSz
namespace Go.Proofs.Ytdpolaedfjljmaa
open Go.RowKit

/-- The struct in new memory. -/
def RetCells (w : World) (W D S : Int) (cs : List Int) (en : Ending) (w' : World) : Prop :=
  ∃ pcs qcs, en = .returned (.agg #[.int .i64 W, .int .i64 D, .int .i64 S, .slice pcs cs.length qcs]) ∧ Own (Value.int .i64) 2 w' w.heap.size pcs qcs cs ∧ Below w.heap.size w w'

/-- Two that are the same. -/
theorem eqCells_same {acs bcs : Option Addr} {ccs dcs : Nat} {cs : List Int} {W D S : Int} {w : World} (hcs : Rd (Value.int .i64) w acs ccs cs) (gcs : Rd (Value.int .i64) w bcs dcs cs) :
    Calls Try.prog 52 #[.agg #[.int .i64 W, .int .i64 D, .int .i64 S, .slice acs cs.length ccs], .agg #[.int .i64 W, .int .i64 D, .int .i64 S, .slice bcs cs.length dcs]] w fun e w' => e = .returned (.bool true) ∧ Below w.heap.size w w' := by
  have B0 : Below w.heap.size w ((w.alloc (.cells #[.int .i64 W, .int .i64 D, .int .i64 S, .slice acs cs.length ccs] 24)).alloc (.cells #[.int .i64 W, .int .i64 D, .int .i64 S, .slice bcs cs.length dcs] 24)) := ((Below.refl _ _).alloc (Nat.le_refl _) _).alloc (by simp) _
  have I0 : Blk ((w.alloc (.cells #[.int .i64 W, .int .i64 D, .int .i64 S, .slice acs cs.length ccs] 24)).alloc (.cells #[.int .i64 W, .int .i64 D, .int .i64 S, .slice bcs cs.length dcs] 24)) w.heap.size #[.int .i64 W, .int .i64 D, .int .i64 S, .slice acs cs.length ccs] 24 := (Blk.new _ _ _).alloc _
  have J0 : Blk ((w.alloc (.cells #[.int .i64 W, .int .i64 D, .int .i64 S, .slice acs cs.length ccs] 24)).alloc (.cells #[.int .i64 W, .int .i64 D, .int .i64 S, .slice bcs cs.length dcs] 24)) (w.heap.size + 1) #[.int .i64 W, .int .i64 D, .int .i64 S, .slice bcs cs.length dcs] 24 := Blk.new' (by simp)
  have H0 := Lib.hid (And.intro B0 (And.intro I0 J0))
  have hdW : (W != W) = false := by simp
  have hdD : (D != D) = false := by simp
  have hdS : (S != S) = false := by simp
  clear B0 I0 J0
  go_enter Try.func52, Try.ntmps52
  go_wp2_with fail
  generalize ((w.alloc (.cells #[.int .i64 W, .int .i64 D, .int .i64 S, .slice acs cs.length ccs] 24)).alloc (.cells #[.int .i64 W, .int .i64 D, .int .i64 S, .slice bcs cs.length dcs] 24)) = W0 at H0 ⊢
  have B0 := Lib.hid H0.out.1
  have I0 := Lib.hid H0.out.2.1
  have J0 := Lib.hid H0.out.2.2
  clear H0
  refine (eqI_any (hcs.below B0.out (Nat.le_refl _)) (gcs.below B0.out (Nat.le_refl _))).mono ?_
  rintro e w1 ⟨rfl, hb0⟩
  rw [show decide (cs = cs) = true by simp]
  have B1 := Lib.hid (B0.out.trans (hb0.mono B0.out.size))
  have I1 := Lib.hid (I0.out.below hb0 (Nat.le_refl _))
  have J1 := Lib.hid (J0.out.below hb0 (Nat.le_refl _))
  clear hb0 B0 I0 J0
  go_wp2
  go_ret
  exact ⟨rfl, B1.out⟩

end Go.Proofs.Ytdpolaedfjljmaa
