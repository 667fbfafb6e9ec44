/- Are two the same: Cells. -/
import Derived.Test.YtdpolaedfjljmaaSeqL00
import Derived.Test.YtdpolaedfjljmaaSeqSlI
import Derived.Test.YtdpolaedfjljmaaLib
import Derived.Test.YtdpolaedfjljmaaCalm
namespace Go.Proofs.Ytdpolaedfjljmaa
open Go.RowKit

def sameCells (W1 W2 : Int) (D1 D2 : Int) (S1 S2 : Int) (cs1 cs2 : List Int) : Bool := decide (W1 = W2) && decide (D1 = D2) && decide (S1 = S2) && decide (cs1 = cs2)

set_option maxHeartbeats 1000000 in
theorem sameCellsI_any {acs1 : Option Addr} {ccs1 : Nat} {cs1 : List Int} {acs2 : Option Addr} {ccs2 : Nat} {cs2 : List Int} {W1 W2 D1 D2 S1 S2 : Int} {w : World} (hcs1 : Rd (Value.int .i64) w acs1 ccs1 cs1) (hcs2 : Rd (Value.int .i64) w acs2 ccs2 cs2) :
    Calls Try.prog 76 #[.agg #[.int .i64 W1, .int .i64 D1, .int .i64 S1, .slice acs1 cs1.length ccs1], .agg #[.int .i64 W2, .int .i64 D2, .int .i64 S2, .slice acs2 cs2.length ccs2]] w fun e w' => e = .returned (.bool (sameCells W1 W2 D1 D2 S1 S2 cs1 cs2)) ∧ Below w.heap.size w w' := by
  have B0 : Below w.heap.size w ((w.alloc (.cells #[.int .i64 W1, .int .i64 D1, .int .i64 S1, .slice acs1 cs1.length ccs1] 24)).alloc (.cells #[.int .i64 W2, .int .i64 D2, .int .i64 S2, .slice acs2 cs2.length ccs2] 24)) := ((Below.refl _ _).alloc (Nat.le_refl _) _).alloc (by simp) _
  have I0 : Blk ((w.alloc (.cells #[.int .i64 W1, .int .i64 D1, .int .i64 S1, .slice acs1 cs1.length ccs1] 24)).alloc (.cells #[.int .i64 W2, .int .i64 D2, .int .i64 S2, .slice acs2 cs2.length ccs2] 24)) w.heap.size #[.int .i64 W1, .int .i64 D1, .int .i64 S1, .slice acs1 cs1.length ccs1] 24 := (Blk.new _ _ _).alloc _
  have J0 : Blk ((w.alloc (.cells #[.int .i64 W1, .int .i64 D1, .int .i64 S1, .slice acs1 cs1.length ccs1] 24)).alloc (.cells #[.int .i64 W2, .int .i64 D2, .int .i64 S2, .slice acs2 cs2.length ccs2] 24)) (w.heap.size + 1) #[.int .i64 W2, .int .i64 D2, .int .i64 S2, .slice acs2 cs2.length ccs2] 24 := Blk.new' (by simp)
  have H0 := Lib.hid (And.intro B0 (And.intro I0 J0))
  clear B0 I0 J0
  by_cases g0 : W1 = W2
  case neg =>
    have hd0 : (W1 == W2) = false := by simpa using g0
    have E0 : Hid (¬ W1 = W2) := g0
    clear g0
    go_enter Try.func76, Try.ntmps76
    go_wp2
    go_ret
    exact ⟨ret_bool (by simp [sameCells, E0.out]), H0.out.1⟩
  have hd0 : (W1 == W2) = true := by simpa using g0
  have E0 : Hid (W1 = W2) := g0
  clear g0
  by_cases g1 : D1 = D2
  case neg =>
    have hd1 : (D1 == D2) = false := by simpa using g1
    have E1 : Hid (¬ D1 = D2) := g1
    clear g1
    go_enter Try.func76, Try.ntmps76
    go_wp2
    go_ret
    exact ⟨ret_bool (by simp [sameCells, E0.out, E1.out]), H0.out.1⟩
  have hd1 : (D1 == D2) = true := by simpa using g1
  have E1 : Hid (D1 = D2) := g1
  clear g1
  by_cases g2 : S1 = S2
  case neg =>
    have hd2 : (S1 == S2) = false := by simpa using g2
    have E2 : Hid (¬ S1 = S2) := g2
    clear g2
    go_enter Try.func76, Try.ntmps76
    go_wp2
    go_ret
    exact ⟨ret_bool (by simp [sameCells, E0.out, E1.out, E2.out]), H0.out.1⟩
  have hd2 : (S1 == S2) = true := by simpa using g2
  have E2 : Hid (S1 = S2) := g2
  clear g2
  go_enter Try.func76, Try.ntmps76
  go_wp2_with fail
  generalize ((w.alloc (.cells #[.int .i64 W1, .int .i64 D1, .int .i64 S1, .slice acs1 cs1.length ccs1] 24)).alloc (.cells #[.int .i64 W2, .int .i64 D2, .int .i64 S2, .slice acs2 cs2.length ccs2] 24)) = W0 at H0 ⊢
  have B0 := Lib.hid H0.out.1
  have I0 := Lib.hid H0.out.2.1
  have J0 := Lib.hid H0.out.2.2
  clear H0
  refine (seqSlI_any (hcs1.below B0.out (Nat.le_refl _)) (hcs2.below B0.out (Nat.le_refl _))).mono ?_
  rintro e w1 ⟨rfl, n0, rfl⟩
  have hb0 := below_of_drewN W0 n0 W0.heap.size
  have B1 := Lib.hid (B0.out.trans (hb0.mono B0.out.size))
  have I1 := Lib.hid (I0.out.below hb0 (Nat.le_refl _))
  have J1 := Lib.hid (J0.out.below hb0 (Nat.le_refl _))
  clear hb0 B0 I0 J0
  generalize W0.drewN n0 = w1' at B1 I1 J1 ⊢
  go_wp2
  go_ret
  exact ⟨ret_bool (by have q0 : decide (W1 = W2) = true := (by simpa using E0.out); have q1 : decide (D1 = D2) = true := (by simpa using E1.out); have q2 : decide (S1 = S2) = true := (by simpa using E2.out); simp only [sameCells, q0, q1, q2]; simp), B1.out⟩

end Go.Proofs.Ytdpolaedfjljmaa
