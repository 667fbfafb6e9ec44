/- The laws' helpers on Zeros. -/
import Derived.Test.YtockifchghllhaaDoorWith
import Derived.Test.YtockifchghllhaaDoorBlk
import Derived.Test.YtockifchghllhaaDoorSz
namespace Go.Proofs.YtockifchghllhaaDoor
open Go.RowKit

/-- The struct in new memory. -/
def RetZeros (w : World) (S : Int) (cs : List Int) (en : Ending) (w' : World) : Prop :=
  ∃ pcs qcs, en = .returned (.agg #[.int .i64 S, .slice pcs cs.length qcs]) ∧ Own (Value.int .i64) 2 w' w.heap.size pcs qcs cs ∧ Below w.heap.size w w'

set_option maxRecDepth 4000 in
set_option maxHeartbeats 1000000 in
theorem toZeros_any {acs : Option Addr} {ccs : Nat} {cs : List Int} {S : Int} {w : World} (hcs : Rd (Value.int .i64) w acs ccs cs) (ncs : cs.length ≤ 1048576) :
    Calls Tryd.prog 26 #[.agg #[.int .i64 S, .slice acs cs.length ccs]] w (RetZeros w S cs) := by
  have B0 : Below w.heap.size w (((w.alloc (.cells #[.int .i64 S, .slice acs cs.length ccs] 43)).alloc (.cells #[.int .i64 0, .slice none 0 0] 46)).alloc (.cells #[.int .i64 S, .slice none 0 0] 46)) := (((Below.refl _ _).alloc (Nat.le_refl _) _).alloc (by simp) _).alloc (by simp; omega) _
  have I0 : Blk (((w.alloc (.cells #[.int .i64 S, .slice acs cs.length ccs] 43)).alloc (.cells #[.int .i64 0, .slice none 0 0] 46)).alloc (.cells #[.int .i64 S, .slice none 0 0] 46)) w.heap.size #[.int .i64 S, .slice acs cs.length ccs] 43 := ((Blk.new _ _ _).alloc _).alloc _
  have R0 : Blk (((w.alloc (.cells #[.int .i64 S, .slice acs cs.length ccs] 43)).alloc (.cells #[.int .i64 0, .slice none 0 0] 46)).alloc (.cells #[.int .i64 S, .slice none 0 0] 46)) (w.heap.size + 1) #[.int .i64 0, .slice none 0 0] 46 := (Blk.new' (by simp)).alloc _
  have U0 : Blk (((w.alloc (.cells #[.int .i64 S, .slice acs cs.length ccs] 43)).alloc (.cells #[.int .i64 0, .slice none 0 0] 46)).alloc (.cells #[.int .i64 S, .slice none 0 0] 46)) (w.heap.size + 1 + 1) #[.int .i64 S, .slice none 0 0] 46 := Blk.new' (by simp)
  have H0 := Lib.hid (And.intro B0 (And.intro I0 (And.intro R0 U0)))
  clear B0 I0 R0 U0
  go_enter Tryd.func26, Tryd.ntmps26
  go_wp2_with fail
  generalize (((w.alloc (.cells #[.int .i64 S, .slice acs cs.length ccs] 43)).alloc (.cells #[.int .i64 0, .slice none 0 0] 46)).alloc (.cells #[.int .i64 S, .slice none 0 0] 46)) = W0 at H0 ⊢
  have B0 := Lib.hid H0.out.1
  have I0 := Lib.hid H0.out.2.1
  have R0 := Lib.hid H0.out.2.2.1
  have U0 := Lib.hid H0.out.2.2.2
  have z0 : w.heap.size + 1 + 1 < W0.heap.size := U0.out.lt
  clear H0
  refine (toI_any (hcs.below B0.out (Nat.le_refl _)) ncs).mono ?_
  rintro e w1 ⟨pcs, qcs, rfl, ocs, hb0⟩
  have I0' := I0.out.below hb0 (Nat.le_refl _)
  have R0' := R0.out.below hb0 (Nat.le_refl _)
  have U0' := U0.out.below hb0 (Nat.le_refl _)
  have B0' := B0.out.trans (hb0.mono B0.out.size)
  have Ocs := Lib.hid (ocs.mono (b' := w.heap.size + 1 + 1 + 1) z0)
  clear ocs hb0 I0 R0 U0 B0 z0
  have u0 := U0'.cell (i := 0) (v := .int .i64 S) rfl
  have r0 := R0'.cell (i := 0) (v := .int .i64 0) rfl
  have rf0 := R0'.free 0
  have u1 := U0'.cell (i := 1) (v := .slice none 0 0) rfl
  have r1 := R0'.cell (i := 1) (v := .slice none 0 0) rfl
  have rf1 := R0'.free 1
  have uf := U0'.free 1
  have BB := Lib.hid B0'
  clear I0' R0' U0' B0'
  go_wp2
  refine bodyPost_ret (v := .agg #[.int .i64 S, .slice pcs cs.length qcs]) (by simp [results, Tryd.results26, go_sem, r0, u0, r1, u1]) rfl ⟨pcs, qcs, rfl, ?_, (((BB.out.setCell (by simp; omega) _).setCell (by simp) _).setCell (by simp) _)⟩
  · exact (((Ocs.out.setFar _ _ (by simp)).setFar _ _ (by simp)).setFar _ _ (by simp)).mono (by omega)

/-- Two that are the same. -/
theorem eqZeros_same {acs bcs : Option Addr} {ccs dcs : Nat} {cs : List Int} {S : Int} {w : World} (hcs : Rd (Value.int .i64) w acs ccs cs) (gcs : Rd (Value.int .i64) w bcs dcs cs) :
    Calls Tryd.prog 28 #[.agg #[.int .i64 S, .slice acs cs.length ccs], .agg #[.int .i64 S, .slice bcs cs.length dcs]] w fun e w' => e = .returned (.bool true) ∧ Below w.heap.size w w' := by
  have B0 : Below w.heap.size w ((w.alloc (.cells #[.int .i64 S, .slice acs cs.length ccs] 46)).alloc (.cells #[.int .i64 S, .slice bcs cs.length dcs] 46)) := ((Below.refl _ _).alloc (Nat.le_refl _) _).alloc (by simp) _
  have I0 : Blk ((w.alloc (.cells #[.int .i64 S, .slice acs cs.length ccs] 46)).alloc (.cells #[.int .i64 S, .slice bcs cs.length dcs] 46)) w.heap.size #[.int .i64 S, .slice acs cs.length ccs] 46 := (Blk.new _ _ _).alloc _
  have J0 : Blk ((w.alloc (.cells #[.int .i64 S, .slice acs cs.length ccs] 46)).alloc (.cells #[.int .i64 S, .slice bcs cs.length dcs] 46)) (w.heap.size + 1) #[.int .i64 S, .slice bcs cs.length dcs] 46 := Blk.new' (by simp)
  have H0 := Lib.hid (And.intro B0 (And.intro I0 J0))
  have hdS : (S != S) = false := by simp
  clear B0 I0 J0
  go_enter Tryd.func28, Tryd.ntmps28
  go_wp2_with fail
  generalize ((w.alloc (.cells #[.int .i64 S, .slice acs cs.length ccs] 46)).alloc (.cells #[.int .i64 S, .slice bcs cs.length dcs] 46)) = W0 at H0 ⊢
  have B0 := Lib.hid H0.out.1
  have I0 := Lib.hid H0.out.2.1
  have J0 := Lib.hid H0.out.2.2
  clear H0
  refine (eqI_any (hcs.below B0.out (Nat.le_refl _)) (gcs.below B0.out (Nat.le_refl _))).mono ?_
  rintro e w1 ⟨rfl, hb0⟩
  rw [show decide (cs = cs) = true by simp]
  have B1 := Lib.hid (B0.out.trans (hb0.mono B0.out.size))
  have I1 := Lib.hid (I0.out.below hb0 (Nat.le_refl _))
  have J1 := Lib.hid (J0.out.below hb0 (Nat.le_refl _))
  clear hb0 B0 I0 J0
  go_wp2
  go_ret
  exact ⟨rfl, B1.out⟩

/-- The room that is left, or -1. -/
theorem szZeros_any {acs : Option Addr} {ccs : Nat} {cs : List Int} {S : Int} {l : Int} {w : World} (hcs : Rd (Value.int .i64) w acs ccs cs) (l0 : 0 ≤ l) (l1 : l ≤ 1048576) :
    Calls Tryd.prog 24 #[.agg #[.int .i64 S, .slice acs cs.length ccs], .int .i64 l] w fun e w' => e = .returned (.int .i64 (room l ((cs.length : Int)))) ∧ Below w.heap.size w w' := by
  have hlcs := hcs.len
  have B0 : Below w.heap.size w (w.alloc (.cells #[.int .i64 S, .slice acs cs.length ccs] 43)) := (Below.refl _ _).alloc (Nat.le_refl _) _
  have Hcs := Lib.hid (hcs.below B0 (Nat.le_refl _))
  have HB := Lib.hid B0
  clear B0
  by_cases g0 : l < cs.length
  · have e0 := Lib.hid (room_no g0)
    have et := Lib.hid (room_no (l := l) (s := (cs.length : Int)) (by omega))
    rw [et.out]
    go_enter Tryd.func24, Tryd.ntmps24
    go_wp2_with fail
    refine (szI_any Hcs.out (by omega) (by omega)).mono ?_
    rintro e w1 ⟨rfl, rfl⟩
    rw [e0.out]
    go_wp2
    go_ret
    exact ⟨rfl, HB.out⟩
  have e0 := Lib.hid (room_yes g0)
  have et := Lib.hid (room_yes (l := l) (s := (cs.length : Int)) (by omega))
  have ef : (l - cs.length) = l - ((cs.length : Int)) := by omega
  rw [et.out, ← ef]
  clear ef
  go_enter Tryd.func24, Tryd.ntmps24
  go_wp2_with fail
  refine (szI_any Hcs.out (by omega) (by omega)).mono ?_
  rintro e w1 ⟨rfl, rfl⟩
  rw [e0.out]
  go_wp2
  go_ret
  exact ⟨rfl, HB.out⟩

end Go.Proofs.YtockifchghllhaaDoor
