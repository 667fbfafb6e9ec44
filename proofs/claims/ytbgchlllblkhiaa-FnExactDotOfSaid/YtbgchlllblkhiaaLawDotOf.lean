/- The walk of the law FnExactDotOf. -/
import Derived.Test.YtbgchlllblkhiaaDotOf
namespace Go.Proofs.Ytbgchlllblkhiaa
open Go.RowKit

set_option maxRecDepth 100000 in
set_option maxHeartbeats 2000000 in
theorem lawDotOf_walk (a0 : Option Addr) (c0 : Nat) (x0 : List Nat) (a1 : Option Addr) (c1 : Nat) (x1 : List Nat) (w : World) (r0 : Rd (Value.float .f32) w a0 c0 x0) (n0 : x0.length ≤ 1048576) (r1 : Rd (Value.float .f32) w a1 c1 x1) (n1 : x1.length ≤ 1048576) :
    Calls Try.prog 3 #[.slice a0 x0.length c0, .slice a1 x1.length c1] w fun e w' => e = .returned (.bool true) ∧ Below w.heap.size w w' := by
  go_enter Try.func3, Try.ntmps3
  go_wp2_with fail
  refine (toF_any r0 n0).mono ?_
  rintro e w1 ⟨adt1, cat1, rfl, t1, hb1⟩
  have s1 : w.heap.size ≤ w1.heap.size := hb1.size
  have B1 : Below w.heap.size w w1 := hb1
  clear hb1
  have lt1 := t1.blk
  go_wp2_with fail
  refine (toF_any (r1.below B1 (Nat.le_refl _)) n1).mono ?_
  rintro e w2 ⟨adt2, cat2, rfl, t2, hb2⟩
  replace t1 := t1.below hb2 (Nat.le_refl _)
  have s2 : w1.heap.size ≤ w2.heap.size := hb2.size
  have B2 : Below w.heap.size w w2 := B1.trans (hb2.mono B1.size)
  clear B1 hb2
  have lt2 := t2.blk
  go_wp2_with fail
  refine (specDotOf_any t1.rd t2.rd).mono ?_
  rintro e w3 ⟨vw0, rfl, hw0, hb3⟩
  replace t1 := t1.below hb3 (Nat.le_refl _)
  replace t2 := t2.below hb3 (Nat.le_refl _)
  have s3 : w2.heap.size ≤ w3.heap.size := hb3.size
  have B3 : Below w.heap.size w w3 := B2.trans (hb3.mono B2.size)
  clear B2 hb3
  clear t1 lt1
  clear t2 lt2
  go_wp2_with fail
  refine (toF_any (r0.below B3 (Nat.le_refl _)) n0).mono ?_
  rintro e w4 ⟨adx0, cax0, rfl, ox0, hb4⟩
  have s4 : w3.heap.size ≤ w4.heap.size := hb4.size
  have B4 : Below w.heap.size w w4 := B3.trans (hb4.mono B3.size)
  clear B3 hb4
  have lox0 := ox0.blk
  go_wp2_with fail
  refine (toF_any (r1.below B4 (Nat.le_refl _)) n1).mono ?_
  rintro e w5 ⟨adx1, cax1, rfl, ox1, hb5⟩
  replace ox0 := ox0.below hb5 (Nat.le_refl _)
  have s5 : w4.heap.size ≤ w5.heap.size := hb5.size
  have B5 : Below w.heap.size w w5 := B4.trans (hb5.mono B4.size)
  clear B4 hb5
  have lox1 := ox1.blk
  go_wp2_with fail
  refine (implDotOf_any ox0.rd ox1.rd).mono ?_
  rintro e w6 ⟨vg0, rfl, hg0, hb6⟩
  replace ox0 := ox0.below hb6 (Nat.le_refl _)
  replace ox1 := ox1.below hb6 (Nat.le_refl _)
  have s6 : w5.heap.size ≤ w6.heap.size := hb6.size
  have B6 : Below w.heap.size w w6 := B5.trans (hb6.mono B5.size)
  clear B5 hb6
  go_wp2_with (refine wpl_widen rfl _ _ _ rfl und_f32 und_f64 _ rfl ?_; rintro q3 w' ⟨n, rfl⟩ hq3)
  refine (sameFloat_any (by simp only [*])).mono ?_
  rintro e w7 ⟨rfl, hc7⟩
  have hb7 : Below w6.heap.size w6 w7 := Below.trans (below_of_drewN _ _ _) hc7
  clear hc7
  replace ox0 := ox0.below hb7 (Nat.le_refl _)
  replace ox1 := ox1.below hb7 (Nat.le_refl _)
  have s7 : w6.heap.size ≤ w7.heap.size := hb7.size
  have B7 : Below w.heap.size w w7 := B6.trans (hb7.mono B6.size)
  clear B6 hb7
  go_wp2_with fail
  refine (toF_any (r0.below B7 (Nat.le_refl _)) n0).mono ?_
  rintro e w8 ⟨adt4, cat4, rfl, t4, hb8⟩
  replace ox0 := ox0.below hb8 (Nat.le_refl _)
  replace ox1 := ox1.below hb8 (Nat.le_refl _)
  have s8 : w7.heap.size ≤ w8.heap.size := hb8.size
  have B8 : Below w.heap.size w w8 := B7.trans (hb8.mono B7.size)
  clear B7 hb8
  have lt4 := t4.blk
  go_wp2_with fail
  refine (eqF_any ox0.rd t4.rd rfl).mono ?_
  rintro e w9 ⟨rfl, hb9⟩
  replace ox0 := ox0.below hb9 (Nat.le_refl _)
  replace ox1 := ox1.below hb9 (Nat.le_refl _)
  replace t4 := t4.below hb9 (Nat.le_refl _)
  have s9 : w8.heap.size ≤ w9.heap.size := hb9.size
  have B9 : Below w.heap.size w w9 := B8.trans (hb9.mono B8.size)
  clear B8 hb9
  clear t4 lt4
  go_wp2_with fail
  refine (toF_any (r1.below B9 (Nat.le_refl _)) n1).mono ?_
  rintro e w10 ⟨adt5, cat5, rfl, t5, hb10⟩
  replace ox0 := ox0.below hb10 (Nat.le_refl _)
  replace ox1 := ox1.below hb10 (Nat.le_refl _)
  have s10 : w9.heap.size ≤ w10.heap.size := hb10.size
  have B10 : Below w.heap.size w w10 := B9.trans (hb10.mono B9.size)
  clear B9 hb10
  have lt5 := t5.blk
  go_wp2_with fail
  refine (eqF_any ox1.rd t5.rd rfl).mono ?_
  rintro e w11 ⟨rfl, hb11⟩
  replace ox0 := ox0.below hb11 (Nat.le_refl _)
  replace ox1 := ox1.below hb11 (Nat.le_refl _)
  replace t5 := t5.below hb11 (Nat.le_refl _)
  have s11 : w10.heap.size ≤ w11.heap.size := hb11.size
  have B11 : Below w.heap.size w w11 := B10.trans (hb11.mono B10.size)
  clear B10 hb11
  clear t5 lt5
  go_wp2
  go_ret
  exact ⟨rfl, B11⟩

theorem lawDotOf_any {a0 : Option Addr} {c0 : Nat} {x0 : List Nat} {a1 : Option Addr} {c1 : Nat} {x1 : List Nat} {w : World} (r0 : Rd (Value.float .f32) w a0 c0 x0) (g0 : ∀ y ∈ x0, (Lit.float .f32 y).wf = true) (r1 : Rd (Value.float .f32) w a1 c1 x1) (g1 : ∀ y ∈ x1, (Lit.float .f32 y).wf = true) :
    Calls Try.prog 3 #[.slice a0 x0.length c0, .slice a1 x1.length c1] w fun e w' => e = .returned (.bool true) ∧ Below w.heap.size w w' := by
  by_cases n0 : x0.length ≤ 1048576
  case neg =>
    have big : 1048576 < x0.length := by omega
    have lm := r0.len
    clear n0
    go_enter Try.func3, Try.ntmps3
    go_wp2
    go_ret
    exact ⟨rfl, Below.refl _ _⟩
  by_cases n1 : x1.length ≤ 1048576
  case neg =>
    have big : 1048576 < x1.length := by omega
    have lm := r1.len
    clear n1
    go_enter Try.func3, Try.ntmps3
    go_wp2
    go_ret
    exact ⟨rfl, Below.refl _ _⟩
  exact lawDotOf_walk a0 c0 x0 a1 c1 x1 w r0 n0 r1 n1

end Go.Proofs.Ytbgchlllblkhiaa
