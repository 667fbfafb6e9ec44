/- The walk of the law FnExactEdgeIn. -/
import Derived.Test.YtiplibbicefaiaaEdgeIn
namespace Go.Proofs.Ytiplibbicefaiaa
open Go.RowKit

set_option maxRecDepth 100000 in
set_option maxHeartbeats 2000000 in
theorem lawEdgeIn_walk (a0 : Option Addr) (c0 : Nat) (x0 : List Int) (v1 : Int) (w : World) (r0 : Rd (Value.int .i64) w a0 c0 x0) (n0 : x0.length ≤ 1048576) (bl1 : -9223372036854775808 ≤ v1) (bh1 : v1 ≤ 9223372036854775807) :
    Calls Try.prog 5 #[.slice a0 x0.length c0, (Value.int .i64 v1)] w fun e w' => e = .returned (.bool true) ∧ Below w.heap.size w w' := by
  go_enter Try.func5, Try.ntmps5
  go_wp2_with fail
  refine (toI_any r0 n0).mono ?_
  rintro e w1 ⟨adt1, cat1, rfl, t1, hb1⟩
  have s1 : w.heap.size ≤ w1.heap.size := hb1.size
  have B1 : Below w.heap.size w w1 := hb1
  clear hb1
  have lt1 := t1.blk
  go_wp2_with fail
  refine (specEdgeIn_t t1.rd).mono ?_
  rintro e w2 ⟨rfl, hb2⟩
  replace t1 := t1.below hb2 (Nat.le_refl _)
  have s2 : w1.heap.size ≤ w2.heap.size := hb2.size
  have B2 : Below w.heap.size w w2 := B1.trans (hb2.mono B1.size)
  clear B1 hb2
  clear t1 lt1
  go_wp2_with fail
  refine (toI_any (r0.below B2 (Nat.le_refl _)) n0).mono ?_
  rintro e w3 ⟨adx0, cax0, rfl, ox0, hb3⟩
  have s3 : w2.heap.size ≤ w3.heap.size := hb3.size
  have B3 : Below w.heap.size w w3 := B2.trans (hb3.mono B2.size)
  clear B2 hb3
  have lox0 := ox0.blk
  go_wp2_with fail
  refine (implEdgeIn_t ox0.rd).mono ?_
  rintro e w4 ⟨rfl, hb4⟩
  replace ox0 := ox0.below hb4 (Nat.le_refl _)
  have s4 : w3.heap.size ≤ w4.heap.size := hb4.size
  have B4 : Below w.heap.size w w4 := B3.trans (hb4.mono B3.size)
  clear B3 hb4
  go_wp2_with fail
  refine (toI_any (r0.below B4 (Nat.le_refl _)) n0).mono ?_
  rintro e w5 ⟨adt2, cat2, rfl, t2, hb5⟩
  replace ox0 := ox0.below hb5 (Nat.le_refl _)
  have s5 : w4.heap.size ≤ w5.heap.size := hb5.size
  have B5 : Below w.heap.size w w5 := B4.trans (hb5.mono B4.size)
  clear B4 hb5
  have lt2 := t2.blk
  go_wp2_with fail
  refine (eqI_any ox0.rd t2.rd).mono ?_
  rintro e w6 ⟨rfl, hb6⟩
  replace ox0 := ox0.below hb6 (Nat.le_refl _)
  replace t2 := t2.below hb6 (Nat.le_refl _)
  have s6 : w5.heap.size ≤ w6.heap.size := hb6.size
  have B6 : Below w.heap.size w w6 := B5.trans (hb6.mono B5.size)
  clear B5 hb6
  clear t2 lt2
  go_wp2
  go_ret
  exact ⟨rfl, B6⟩

theorem lawEdgeIn_any {a0 : Option Addr} {c0 : Nat} {x0 : List Int} {w : World} (r0 : Rd (Value.int .i64) w a0 c0 x0) (g0 : ∀ y ∈ x0, (Lit.int .i64 y).wf = true) (v1 : Int) (g1 : (Lit.int .i64 v1).wf = true) :
    Calls Try.prog 5 #[.slice a0 x0.length c0, (Value.int .i64 v1)] w fun e w' => e = .returned (.bool true) ∧ Below w.heap.size w w' := by
  by_cases n0 : x0.length ≤ 1048576
  case neg =>
    have big : 1048576 < x0.length := by omega
    have lm := r0.len
    clear n0
    go_enter Try.func5, Try.ntmps5
    go_wp2
    go_ret
    exact ⟨rfl, Below.refl _ _⟩
  exact lawEdgeIn_walk a0 c0 x0 v1 w r0 n0 (bd_i64 g1).1 (bd_i64 g1).2

end Go.Proofs.Ytiplibbicefaiaa
