/- The walk of the law FnExactEdgeSketch. -/
import Derived.Test.YtgkmmilmdhhleaaSketchOf
namespace Go.Proofs.Ytgkmmilmdhhleaa
open Go.RowKit

set_option maxRecDepth 100000 in
set_option maxHeartbeats 2000000 in
theorem lawEdgeSketch_walk (v0 : Int) (a1 : Option Addr) (c1 : Nat) (x1 : List Int) (v2 : Int) (v3 : Int) (w : World) (bl0 : -9223372036854775808 ≤ v0) (bh0 : v0 ≤ 9223372036854775807) (r1 : Rd (Value.int .i64) w a1 c1 x1) (n1 : x1.length ≤ 1048576) (bl2 : -9223372036854775808 ≤ v2) (bh2 : v2 ≤ 9223372036854775807) (bl3 : -9223372036854775808 ≤ v3) (bh3 : v3 ≤ 9223372036854775807) :
    Calls Try.prog 4 #[(Value.int .i64 v0), .slice a1 x1.length c1, (Value.int .i64 v2), (Value.int .i64 v3)] w fun e w' => e = .returned (.bool true) ∧ Below w.heap.size w w' := by
  have hjl : (eskR v0 x1 v2 v3).length ≤ 48 := eskR_len v0 x1 v2 v3
  go_enter Try.func4, Try.ntmps4
  go_wp2_with fail
  refine (toI_any r1 n1).mono ?_
  rintro e w1 ⟨adt1, cat1, rfl, t1, hb1⟩
  have s1 : w.heap.size ≤ w1.heap.size := hb1.size
  have B1 : Below w.heap.size w w1 := hb1
  clear hb1
  have lt1 := t1.blk
  go_wp2_with fail
  refine (specSketch_any t1.rd).mono ?_
  rintro e w2 ⟨adw0, caw0, rfl, ow0, hb2⟩
  replace t1 := t1.below hb2 (Nat.le_refl _)
  have s2 : w1.heap.size ≤ w2.heap.size := hb2.size
  have B2 : Below w.heap.size w w2 := B1.trans (hb2.mono B1.size)
  clear B1 hb2
  have low0 := ow0.blk
  clear t1 lt1
  go_wp2_with fail
  refine (toI_any (r1.below B2 (Nat.le_refl _)) n1).mono ?_
  rintro e w3 ⟨adx1, cax1, rfl, ox1, hb3⟩
  replace ow0 := ow0.below hb3 (Nat.le_refl _)
  have s3 : w2.heap.size ≤ w3.heap.size := hb3.size
  have B3 : Below w.heap.size w w3 := B2.trans (hb3.mono B2.size)
  clear B2 hb3
  have lox1 := ox1.blk
  go_wp2_with fail
  refine (implSketch_any ox1.rd).mono ?_
  rintro e w4 ⟨adg0, cag0, rfl, og0, hb4⟩
  replace ow0 := ow0.below hb4 (Nat.le_refl _)
  replace ox1 := ox1.below hb4 (Nat.le_refl _)
  have s4 : w3.heap.size ≤ w4.heap.size := hb4.size
  have B4 : Below w.heap.size w w4 := B3.trans (hb4.mono B3.size)
  clear B3 hb4
  have log0 := og0.blk
  go_wp2_with fail
  refine (eqI_any og0.rd ow0.rd).mono ?_
  rintro e w5 ⟨rfl, hb5⟩
  replace ow0 := ow0.below hb5 (Nat.le_refl _)
  replace ox1 := ox1.below hb5 (Nat.le_refl _)
  replace og0 := og0.below hb5 (Nat.le_refl _)
  have s5 : w4.heap.size ≤ w5.heap.size := hb5.size
  have B5 : Below w.heap.size w w5 := B4.trans (hb5.mono B4.size)
  clear B4 hb5
  go_wp2_with fail
  refine (toI_any (r1.below B5 (Nat.le_refl _)) n1).mono ?_
  rintro e w6 ⟨adt2, cat2, rfl, t2, hb6⟩
  replace ow0 := ow0.below hb6 (Nat.le_refl _)
  replace ox1 := ox1.below hb6 (Nat.le_refl _)
  replace og0 := og0.below hb6 (Nat.le_refl _)
  have s6 : w5.heap.size ≤ w6.heap.size := hb6.size
  have B6 : Below w.heap.size w w6 := B5.trans (hb6.mono B5.size)
  clear B5 hb6
  have lt2 := t2.blk
  go_wp2_with fail
  refine (eqI_any ox1.rd t2.rd).mono ?_
  rintro e w7 ⟨rfl, hb7⟩
  replace ow0 := ow0.below hb7 (Nat.le_refl _)
  replace ox1 := ox1.below hb7 (Nat.le_refl _)
  replace og0 := og0.below hb7 (Nat.le_refl _)
  replace t2 := t2.below hb7 (Nat.le_refl _)
  have s7 : w6.heap.size ≤ w7.heap.size := hb7.size
  have B7 : Below w.heap.size w w7 := B6.trans (hb7.mono B6.size)
  clear B6 hb7
  clear t2 lt2
  go_wp2_with fail
  refine (markI_any (k0 := 1) ox1 (by omega)).mono ?_
  rintro e w8 ⟨rfl, om8, hg8⟩
  have s8 : w7.heap.size ≤ w8.heap.size := hg8.size
  have B8 : Below w.heap.size w w8 := B7.trans (grown_belowOwn ox1 hg8 (by omega) (by omega))
  replace ow0 := ow0.keptBlk hg8 low0 lox1 (by omega)
  replace og0 := og0.keptBlk hg8 log0 lox1 (by omega)
  replace ox1 := om8
  clear B7 om8 hg8
  go_wp2_with fail
  refine (eqI_any og0.rd ow0.rd).mono ?_
  rintro e w9 ⟨rfl, hb9⟩
  replace ow0 := ow0.below hb9 (Nat.le_refl _)
  replace ox1 := ox1.below hb9 (Nat.le_refl _)
  replace og0 := og0.below hb9 (Nat.le_refl _)
  have s9 : w8.heap.size ≤ w9.heap.size := hb9.size
  have B9 : Below w.heap.size w w9 := B8.trans (hb9.mono B8.size)
  clear B8 hb9
  go_wp2_with fail
  refine (markI_any (k0 := 1) og0 (by omega)).mono ?_
  rintro e w10 ⟨rfl, om10, hg10⟩
  have s10 : w9.heap.size ≤ w10.heap.size := hg10.size
  have B10 : Below w.heap.size w w10 := B9.trans (grown_belowOwn og0 hg10 (by omega) (by omega))
  replace ow0 := ow0.keptBlk hg10 low0 log0 (by omega)
  replace ox1 := ox1.keptBlk hg10 lox1 log0 (by omega)
  replace og0 := om10
  clear B9 om10 hg10
  go_wp2_with fail
  refine (heldI_any (k0 := 1) og0.rd (by omega)).mono ?_
  rintro e w11 ⟨rfl, hb11⟩
  replace ow0 := ow0.below hb11 (Nat.le_refl _)
  replace ox1 := ox1.below hb11 (Nat.le_refl _)
  replace og0 := og0.below hb11 (Nat.le_refl _)
  have s11 : w10.heap.size ≤ w11.heap.size := hb11.size
  have B11 : Below w.heap.size w w11 := B10.trans (hb11.mono B10.size)
  clear B10 hb11
  go_wp2_with fail
  refine (toI_any (r1.below B11 (Nat.le_refl _)) n1).mono ?_
  rintro e w12 ⟨adt3, cat3, rfl, t3, hb12⟩
  replace ow0 := ow0.below hb12 (Nat.le_refl _)
  replace ox1 := ox1.below hb12 (Nat.le_refl _)
  replace og0 := og0.below hb12 (Nat.le_refl _)
  have s12 : w11.heap.size ≤ w12.heap.size := hb12.size
  have B12 : Below w.heap.size w w12 := B11.trans (hb12.mono B11.size)
  clear B11 hb12
  have lt3 := t3.blk
  go_wp2_with fail
  refine (implSketch_any t3.rd).mono ?_
  rintro e w13 ⟨adh0, cah0, rfl, oh0, hb13⟩
  replace ow0 := ow0.below hb13 (Nat.le_refl _)
  replace ox1 := ox1.below hb13 (Nat.le_refl _)
  replace og0 := og0.below hb13 (Nat.le_refl _)
  replace t3 := t3.below hb13 (Nat.le_refl _)
  have s13 : w12.heap.size ≤ w13.heap.size := hb13.size
  have B13 : Below w.heap.size w w13 := B12.trans (hb13.mono B12.size)
  clear B12 hb13
  have loh0 := oh0.blk
  clear t3 lt3
  go_wp2_with fail
  refine (eqI_any oh0.rd ow0.rd).mono ?_
  rintro e w14 ⟨rfl, hb14⟩
  replace ow0 := ow0.below hb14 (Nat.le_refl _)
  replace ox1 := ox1.below hb14 (Nat.le_refl _)
  replace og0 := og0.below hb14 (Nat.le_refl _)
  replace oh0 := oh0.below hb14 (Nat.le_refl _)
  have s14 : w13.heap.size ≤ w14.heap.size := hb14.size
  have B14 : Below w.heap.size w w14 := B13.trans (hb14.mono B13.size)
  clear B13 hb14
  go_wp2_with fail
  refine (heldI_any (k0 := 1) og0.rd (by omega)).mono ?_
  rintro e w15 ⟨rfl, hb15⟩
  replace ow0 := ow0.below hb15 (Nat.le_refl _)
  replace ox1 := ox1.below hb15 (Nat.le_refl _)
  replace og0 := og0.below hb15 (Nat.le_refl _)
  replace oh0 := oh0.below hb15 (Nat.le_refl _)
  have s15 : w14.heap.size ≤ w15.heap.size := hb15.size
  have B15 : Below w.heap.size w w15 := B14.trans (hb15.mono B14.size)
  clear B14 hb15
  go_wp2
  go_ret
  exact ⟨rfl, B15⟩

theorem lawEdgeSketch_any {a1 : Option Addr} {c1 : Nat} {x1 : List Int} {w : World} (v0 : Int) (g0 : (Lit.int .i64 v0).wf = true) (r1 : Rd (Value.int .i64) w a1 c1 x1) (g1 : ∀ y ∈ x1, (Lit.int .i64 y).wf = true) (v2 : Int) (g2 : (Lit.int .i64 v2).wf = true) (v3 : Int) (g3 : (Lit.int .i64 v3).wf = true) :
    Calls Try.prog 4 #[(Value.int .i64 v0), .slice a1 x1.length c1, (Value.int .i64 v2), (Value.int .i64 v3)] w fun e w' => e = .returned (.bool true) ∧ Below w.heap.size w w' := by
  by_cases n1 : x1.length ≤ 1048576
  case neg =>
    have big : 1048576 < x1.length := by omega
    have lm := r1.len
    clear n1
    go_enter Try.func4, Try.ntmps4
    go_wp2
    go_ret
    exact ⟨rfl, Below.refl _ _⟩
  exact lawEdgeSketch_walk v0 a1 c1 x1 v2 v3 w (bd_i64 g0).1 (bd_i64 g0).2 r1 n1 (bd_i64 g2).1 (bd_i64 g2).2 (bd_i64 g3).1 (bd_i64 g3).2

end Go.Proofs.Ytgkmmilmdhhleaa
