/- The laws' helpers on Cells. -/
import Derived.Test.YtgkmmilmdhhleaaWith
import Derived.Test.YtgkmmilmdhhleaaBlk
import Derived.Test.YtgkmmilmdhhleaaSz
namespace Go.Proofs.Ytgkmmilmdhhleaa
open Go.RowKit

/-- The struct in new memory. -/
def RetCells (w : World) (W D S : Int) (cs : List Int) (en : Ending) (w' : World) : Prop :=
  ∃ pcs qcs, en = .returned (.agg #[.int .i64 W, .int .i64 D, .int .i64 S, .slice pcs cs.length qcs]) ∧ Own (Value.int .i64) 2 w' w.heap.size pcs qcs cs ∧ Below w.heap.size w w'

set_option maxRecDepth 4000 in
set_option maxHeartbeats 1000000 in
theorem toCells_any {acs : Option Addr} {ccs : Nat} {cs : List Int} {W D S : Int} {w : World} (hcs : Rd (Value.int .i64) w acs ccs cs) (ncs : cs.length ≤ 1048576) :
    Calls Try.prog 111 #[.agg #[.int .i64 W, .int .i64 D, .int .i64 S, .slice acs cs.length ccs]] w (RetCells w W D S cs) := by
  have B0 : Below w.heap.size w (((w.alloc (.cells #[.int .i64 W, .int .i64 D, .int .i64 S, .slice acs cs.length ccs] 69)).alloc (.cells #[.int .i64 0, .int .i64 0, .int .i64 0, .slice none 0 0] 76)).alloc (.cells #[.int .i64 W, .int .i64 D, .int .i64 S, .slice none 0 0] 76)) := (((Below.refl _ _).alloc (Nat.le_refl _) _).alloc (by simp) _).alloc (by simp; omega) _
  have I0 : Blk (((w.alloc (.cells #[.int .i64 W, .int .i64 D, .int .i64 S, .slice acs cs.length ccs] 69)).alloc (.cells #[.int .i64 0, .int .i64 0, .int .i64 0, .slice none 0 0] 76)).alloc (.cells #[.int .i64 W, .int .i64 D, .int .i64 S, .slice none 0 0] 76)) w.heap.size #[.int .i64 W, .int .i64 D, .int .i64 S, .slice acs cs.length ccs] 69 := ((Blk.new _ _ _).alloc _).alloc _
  have R0 : Blk (((w.alloc (.cells #[.int .i64 W, .int .i64 D, .int .i64 S, .slice acs cs.length ccs] 69)).alloc (.cells #[.int .i64 0, .int .i64 0, .int .i64 0, .slice none 0 0] 76)).alloc (.cells #[.int .i64 W, .int .i64 D, .int .i64 S, .slice none 0 0] 76)) (w.heap.size + 1) #[.int .i64 0, .int .i64 0, .int .i64 0, .slice none 0 0] 76 := (Blk.new' (by simp)).alloc _
  have U0 : Blk (((w.alloc (.cells #[.int .i64 W, .int .i64 D, .int .i64 S, .slice acs cs.length ccs] 69)).alloc (.cells #[.int .i64 0, .int .i64 0, .int .i64 0, .slice none 0 0] 76)).alloc (.cells #[.int .i64 W, .int .i64 D, .int .i64 S, .slice none 0 0] 76)) (w.heap.size + 1 + 1) #[.int .i64 W, .int .i64 D, .int .i64 S, .slice none 0 0] 76 := Blk.new' (by simp)
  have H0 := Lib.hid (And.intro B0 (And.intro I0 (And.intro R0 U0)))
  clear B0 I0 R0 U0
  go_enter Try.func111, Try.ntmps111
  go_wp2_with fail
  generalize (((w.alloc (.cells #[.int .i64 W, .int .i64 D, .int .i64 S, .slice acs cs.length ccs] 69)).alloc (.cells #[.int .i64 0, .int .i64 0, .int .i64 0, .slice none 0 0] 76)).alloc (.cells #[.int .i64 W, .int .i64 D, .int .i64 S, .slice none 0 0] 76)) = W0 at H0 ⊢
  have B0 := Lib.hid H0.out.1
  have I0 := Lib.hid H0.out.2.1
  have R0 := Lib.hid H0.out.2.2.1
  have U0 := Lib.hid H0.out.2.2.2
  have z0 : w.heap.size + 1 + 1 < W0.heap.size := U0.out.lt
  clear H0
  refine (toI_any (hcs.below B0.out (Nat.le_refl _)) ncs).mono ?_
  rintro e w1 ⟨pcs, qcs, rfl, ocs, hb0⟩
  have I0' := I0.out.below hb0 (Nat.le_refl _)
  have R0' := R0.out.below hb0 (Nat.le_refl _)
  have U0' := U0.out.below hb0 (Nat.le_refl _)
  have B0' := B0.out.trans (hb0.mono B0.out.size)
  have Ocs := Lib.hid (ocs.mono (b' := w.heap.size + 1 + 1 + 1) z0)
  clear ocs hb0 I0 R0 U0 B0 z0
  have u0 := U0'.cell (i := 0) (v := .int .i64 W) rfl
  have r0 := R0'.cell (i := 0) (v := .int .i64 0) rfl
  have rf0 := R0'.free 0
  have u1 := U0'.cell (i := 1) (v := .int .i64 D) rfl
  have r1 := R0'.cell (i := 1) (v := .int .i64 0) rfl
  have rf1 := R0'.free 1
  have u2 := U0'.cell (i := 2) (v := .int .i64 S) rfl
  have r2 := R0'.cell (i := 2) (v := .int .i64 0) rfl
  have rf2 := R0'.free 2
  have u3 := U0'.cell (i := 3) (v := .slice none 0 0) rfl
  have r3 := R0'.cell (i := 3) (v := .slice none 0 0) rfl
  have rf3 := R0'.free 3
  have uf := U0'.free 3
  have BB := Lib.hid B0'
  clear I0' R0' U0' B0'
  go_wp2
  refine bodyPost_ret (v := .agg #[.int .i64 W, .int .i64 D, .int .i64 S, .slice pcs cs.length qcs]) (by simp [results, Try.results111, go_sem, r0, u0, r1, u1, r2, u2, r3, u3]) rfl ⟨pcs, qcs, rfl, ?_, (((((BB.out.setCell (by simp; omega) _).setCell (by simp) _).setCell (by simp) _).setCell (by simp) _).setCell (by simp) _)⟩
  · exact (((((Ocs.out.setFar _ _ (by simp)).setFar _ _ (by simp)).setFar _ _ (by simp)).setFar _ _ (by simp)).setFar _ _ (by simp)).mono (by omega)

/-- Two that are the same. -/
theorem eqCells_same {acs bcs : Option Addr} {ccs dcs : Nat} {cs : List Int} {W D S : Int} {w : World} (hcs : Rd (Value.int .i64) w acs ccs cs) (gcs : Rd (Value.int .i64) w bcs dcs cs) :
    Calls Try.prog 117 #[.agg #[.int .i64 W, .int .i64 D, .int .i64 S, .slice acs cs.length ccs], .agg #[.int .i64 W, .int .i64 D, .int .i64 S, .slice bcs cs.length dcs]] w fun e w' => e = .returned (.bool true) ∧ Below w.heap.size w w' := by
  have B0 : Below w.heap.size w ((w.alloc (.cells #[.int .i64 W, .int .i64 D, .int .i64 S, .slice acs cs.length ccs] 76)).alloc (.cells #[.int .i64 W, .int .i64 D, .int .i64 S, .slice bcs cs.length dcs] 76)) := ((Below.refl _ _).alloc (Nat.le_refl _) _).alloc (by simp) _
  have I0 : Blk ((w.alloc (.cells #[.int .i64 W, .int .i64 D, .int .i64 S, .slice acs cs.length ccs] 76)).alloc (.cells #[.int .i64 W, .int .i64 D, .int .i64 S, .slice bcs cs.length dcs] 76)) w.heap.size #[.int .i64 W, .int .i64 D, .int .i64 S, .slice acs cs.length ccs] 76 := (Blk.new _ _ _).alloc _
  have J0 : Blk ((w.alloc (.cells #[.int .i64 W, .int .i64 D, .int .i64 S, .slice acs cs.length ccs] 76)).alloc (.cells #[.int .i64 W, .int .i64 D, .int .i64 S, .slice bcs cs.length dcs] 76)) (w.heap.size + 1) #[.int .i64 W, .int .i64 D, .int .i64 S, .slice bcs cs.length dcs] 76 := Blk.new' (by simp)
  have H0 := Lib.hid (And.intro B0 (And.intro I0 J0))
  have hdW : (W != W) = false := by simp
  have hdD : (D != D) = false := by simp
  have hdS : (S != S) = false := by simp
  clear B0 I0 J0
  go_enter Try.func117, Try.ntmps117
  go_wp2_with fail
  generalize ((w.alloc (.cells #[.int .i64 W, .int .i64 D, .int .i64 S, .slice acs cs.length ccs] 76)).alloc (.cells #[.int .i64 W, .int .i64 D, .int .i64 S, .slice bcs cs.length dcs] 76)) = W0 at H0 ⊢
  have B0 := Lib.hid H0.out.1
  have I0 := Lib.hid H0.out.2.1
  have J0 := Lib.hid H0.out.2.2
  clear H0
  refine (eqI_any (hcs.below B0.out (Nat.le_refl _)) (gcs.below B0.out (Nat.le_refl _))).mono ?_
  rintro e w1 ⟨rfl, hb0⟩
  rw [show decide (cs = cs) = true by simp]
  have B1 := Lib.hid (B0.out.trans (hb0.mono B0.out.size))
  have I1 := Lib.hid (I0.out.below hb0 (Nat.le_refl _))
  have J1 := Lib.hid (J0.out.below hb0 (Nat.le_refl _))
  clear hb0 B0 I0 J0
  go_wp2
  go_ret
  exact ⟨rfl, B1.out⟩

/-- The room that is left, or -1. -/
theorem szCells_any {acs : Option Addr} {ccs : Nat} {cs : List Int} {W D S : Int} {l : Int} {w : World} (hcs : Rd (Value.int .i64) w acs ccs cs) (l0 : 0 ≤ l) (l1 : l ≤ 1048576) :
    Calls Try.prog 108 #[.agg #[.int .i64 W, .int .i64 D, .int .i64 S, .slice acs cs.length ccs], .int .i64 l] w fun e w' => e = .returned (.int .i64 (room l ((cs.length : Int)))) ∧ Below w.heap.size w w' := by
  have hlcs := hcs.len
  have B0 : Below w.heap.size w (w.alloc (.cells #[.int .i64 W, .int .i64 D, .int .i64 S, .slice acs cs.length ccs] 69)) := (Below.refl _ _).alloc (Nat.le_refl _) _
  have Hcs := Lib.hid (hcs.below B0 (Nat.le_refl _))
  have HB := Lib.hid B0
  clear B0
  by_cases g0 : l < cs.length
  · have e0 := Lib.hid (room_no g0)
    have et := Lib.hid (room_no (l := l) (s := (cs.length : Int)) (by omega))
    rw [et.out]
    go_enter Try.func108, Try.ntmps108
    go_wp2_with fail
    refine (szI_any Hcs.out (by omega) (by omega)).mono ?_
    rintro e w1 ⟨rfl, rfl⟩
    rw [e0.out]
    go_wp2
    go_ret
    exact ⟨rfl, HB.out⟩
  have e0 := Lib.hid (room_yes g0)
  have et := Lib.hid (room_yes (l := l) (s := (cs.length : Int)) (by omega))
  have ef : (l - cs.length) = l - ((cs.length : Int)) := by omega
  rw [et.out, ← ef]
  clear ef
  go_enter Try.func108, Try.ntmps108
  go_wp2_with fail
  refine (szI_any Hcs.out (by omega) (by omega)).mono ?_
  rintro e w1 ⟨rfl, rfl⟩
  rw [e0.out]
  go_wp2
  go_ret
  exact ⟨rfl, HB.out⟩

end Go.Proofs.Ytgkmmilmdhhleaa
