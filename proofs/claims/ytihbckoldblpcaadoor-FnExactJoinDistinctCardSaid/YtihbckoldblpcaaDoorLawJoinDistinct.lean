/- The walk of the law FnExactJoinDistinct. -/
import Derived.Test.YtihbckoldblpcaaDoorJdst
namespace Go.Proofs.YtihbckoldblpcaaDoor
open Go.RowKit

set_option maxRecDepth 100000 in
set_option maxHeartbeats 4000000 in
theorem lawJoinDistinct_walk (v0 : Int) (a1 : Option Addr) (c1 : Nat) (x1 : List Int) (v2 : Int) (a3 : Option Addr) (c3 : Nat) (x3 : List Int) (v4 : Int) (v5 : Int) (w : World) (bl0 : -9223372036854775808 ≤ v0) (bh0 : v0 ≤ 9223372036854775807) (r1 : Rd (Value.int .i64) w a1 c1 x1) (n1 : x1.length ≤ 1048576) (bl2 : -9223372036854775808 ≤ v2) (bh2 : v2 ≤ 9223372036854775807) (r3 : Rd (Value.int .i64) w a3 c3 x3) (n3 : x3.length ≤ 1048576) (bl4 : -9223372036854775808 ≤ v4) (bh4 : v4 ≤ 9223372036854775807) (bl5 : -9223372036854775808 ≤ v5) (bh5 : v5 ≤ 9223372036854775807) (hT : Tab w) :
    Calls Tryd.prog 4 #[(Value.int .i64 v0), .slice a1 x1.length c1, (Value.int .i64 v2), .slice a3 x3.length c3, (Value.int .i64 v4), (Value.int .i64 v5)] w fun e w' => e = .returned (.bool true) ∧ Below w.heap.size w w' := by
  have hjl : (jdL v0 x1 v2 x3 v4 v5).length ≤ 256 := jdL_len v0 x1 v2 x3 v4 v5
  go_enter Tryd.func4, Tryd.ntmps4
  go_wp2_with fail
  refine (toI_any r1 n1).mono ?_
  rintro e w1 ⟨adt1, cat1, rfl, t1, hb1⟩
  have s1 : w.heap.size ≤ w1.heap.size := hb1.size
  have B1 : Below w.heap.size w w1 := hb1
  clear hb1
  have lt1 := t1.blk
  go_wp2_with fail
  refine (toI_any (r3.below B1 (Nat.le_refl _)) n3).mono ?_
  rintro e w2 ⟨adt2, cat2, rfl, t2, hb2⟩
  replace t1 := t1.below hb2 (Nat.le_refl _)
  have s2 : w1.heap.size ≤ w2.heap.size := hb2.size
  have B2 : Below w.heap.size w w2 := B1.trans (hb2.mono B1.size)
  clear B1 hb2
  have lt2 := t2.blk
  go_wp2_with fail
  refine (specJd_any t1.rd t2.rd).mono ?_
  rintro e w3 ⟨adw1, caw1, rfl, ow1, hb3⟩
  replace t1 := t1.below hb3 (Nat.le_refl _)
  replace t2 := t2.below hb3 (Nat.le_refl _)
  have s3 : w2.heap.size ≤ w3.heap.size := hb3.size
  have B3 : Below w.heap.size w w3 := B2.trans (hb3.mono B2.size)
  clear B2 hb3
  have low1 := ow1.blk
  clear t1 lt1
  clear t2 lt2
  go_wp2_with fail
  refine (toI_any (r1.below B3 (Nat.le_refl _)) n1).mono ?_
  rintro e w4 ⟨adx1, cax1, rfl, ox1, hb4⟩
  replace ow1 := ow1.below hb4 (Nat.le_refl _)
  have s4 : w3.heap.size ≤ w4.heap.size := hb4.size
  have B4 : Below w.heap.size w w4 := B3.trans (hb4.mono B3.size)
  clear B3 hb4
  have lox1 := ox1.blk
  go_wp2_with fail
  refine (toI_any (r3.below B4 (Nat.le_refl _)) n3).mono ?_
  rintro e w5 ⟨adx3, cax3, rfl, ox3, hb5⟩
  replace ow1 := ow1.below hb5 (Nat.le_refl _)
  replace ox1 := ox1.below hb5 (Nat.le_refl _)
  have s5 : w4.heap.size ≤ w5.heap.size := hb5.size
  have B5 : Below w.heap.size w w5 := B4.trans (hb5.mono B4.size)
  clear B4 hb5
  have lox3 := ox3.blk
  go_wp2_with fail
  refine (implJd_any ox1.rd ox3.rd  (hT.below B5)).mono ?_
  rintro e w6 ⟨adg1, cag1, rfl, og1, hb6⟩
  replace ow1 := ow1.below hb6 (Nat.le_refl _)
  replace ox1 := ox1.below hb6 (Nat.le_refl _)
  replace ox3 := ox3.below hb6 (Nat.le_refl _)
  have s6 : w5.heap.size ≤ w6.heap.size := hb6.size
  have B6 : Below w.heap.size w w6 := B5.trans (hb6.mono B5.size)
  clear B5 hb6
  have log1 := og1.blk
  go_wp2_with fail
  refine (eqI_any og1.rd ow1.rd).mono ?_
  rintro e w7 ⟨rfl, hb7⟩
  replace ow1 := ow1.below hb7 (Nat.le_refl _)
  replace ox1 := ox1.below hb7 (Nat.le_refl _)
  replace ox3 := ox3.below hb7 (Nat.le_refl _)
  replace og1 := og1.below hb7 (Nat.le_refl _)
  have s7 : w6.heap.size ≤ w7.heap.size := hb7.size
  have B7 : Below w.heap.size w w7 := B6.trans (hb7.mono B6.size)
  clear B6 hb7
  go_wp2_with fail
  refine (toI_any (r1.below B7 (Nat.le_refl _)) n1).mono ?_
  rintro e w8 ⟨adt3, cat3, rfl, t3, hb8⟩
  replace ow1 := ow1.below hb8 (Nat.le_refl _)
  replace ox1 := ox1.below hb8 (Nat.le_refl _)
  replace ox3 := ox3.below hb8 (Nat.le_refl _)
  replace og1 := og1.below hb8 (Nat.le_refl _)
  have s8 : w7.heap.size ≤ w8.heap.size := hb8.size
  have B8 : Below w.heap.size w w8 := B7.trans (hb8.mono B7.size)
  clear B7 hb8
  have lt3 := t3.blk
  go_wp2_with fail
  refine (eqI_any ox1.rd t3.rd).mono ?_
  rintro e w9 ⟨rfl, hb9⟩
  replace ow1 := ow1.below hb9 (Nat.le_refl _)
  replace ox1 := ox1.below hb9 (Nat.le_refl _)
  replace ox3 := ox3.below hb9 (Nat.le_refl _)
  replace og1 := og1.below hb9 (Nat.le_refl _)
  replace t3 := t3.below hb9 (Nat.le_refl _)
  have s9 : w8.heap.size ≤ w9.heap.size := hb9.size
  have B9 : Below w.heap.size w w9 := B8.trans (hb9.mono B8.size)
  clear B8 hb9
  clear t3 lt3
  go_wp2_with fail
  refine (toI_any (r3.below B9 (Nat.le_refl _)) n3).mono ?_
  rintro e w10 ⟨adt4, cat4, rfl, t4, hb10⟩
  replace ow1 := ow1.below hb10 (Nat.le_refl _)
  replace ox1 := ox1.below hb10 (Nat.le_refl _)
  replace ox3 := ox3.below hb10 (Nat.le_refl _)
  replace og1 := og1.below hb10 (Nat.le_refl _)
  have s10 : w9.heap.size ≤ w10.heap.size := hb10.size
  have B10 : Below w.heap.size w w10 := B9.trans (hb10.mono B9.size)
  clear B9 hb10
  have lt4 := t4.blk
  go_wp2_with fail
  refine (eqI_any ox3.rd t4.rd).mono ?_
  rintro e w11 ⟨rfl, hb11⟩
  replace ow1 := ow1.below hb11 (Nat.le_refl _)
  replace ox1 := ox1.below hb11 (Nat.le_refl _)
  replace ox3 := ox3.below hb11 (Nat.le_refl _)
  replace og1 := og1.below hb11 (Nat.le_refl _)
  replace t4 := t4.below hb11 (Nat.le_refl _)
  have s11 : w10.heap.size ≤ w11.heap.size := hb11.size
  have B11 : Below w.heap.size w w11 := B10.trans (hb11.mono B10.size)
  clear B10 hb11
  clear t4 lt4
  go_wp2_with fail
  refine (markI_any (k0 := 1) ox1 (by omega)).mono ?_
  rintro e w12 ⟨rfl, om12, hg12⟩
  have s12 : w11.heap.size ≤ w12.heap.size := hg12.size
  have B12 : Below w.heap.size w w12 := B11.trans (grown_belowOwn ox1 hg12 (by omega) (by omega))
  replace ow1 := ow1.keptBlk hg12 low1 lox1 (by omega)
  replace ox3 := ox3.keptBlk hg12 lox3 lox1 (by omega)
  replace og1 := og1.keptBlk hg12 log1 lox1 (by omega)
  replace ox1 := om12
  clear B11 om12 hg12
  go_wp2_with fail
  refine (markI_any (k0 := (1 + (x1).length)) ox3 (by omega)).mono ?_
  rintro e w13 ⟨rfl, om13, hg13⟩
  have s13 : w12.heap.size ≤ w13.heap.size := hg13.size
  have B13 : Below w.heap.size w w13 := B12.trans (grown_belowOwn ox3 hg13 (by omega) (by omega))
  replace ow1 := ow1.keptBlk hg13 low1 lox3 (by omega)
  replace ox1 := ox1.keptBlk hg13 lox1 lox3 (by omega)
  replace og1 := og1.keptBlk hg13 log1 lox3 (by omega)
  replace ox3 := om13
  clear B12 om13 hg13
  go_wp2_with fail
  refine (eqI_any og1.rd ow1.rd).mono ?_
  rintro e w14 ⟨rfl, hb14⟩
  replace ow1 := ow1.below hb14 (Nat.le_refl _)
  replace ox1 := ox1.below hb14 (Nat.le_refl _)
  replace ox3 := ox3.below hb14 (Nat.le_refl _)
  replace og1 := og1.below hb14 (Nat.le_refl _)
  have s14 : w13.heap.size ≤ w14.heap.size := hb14.size
  have B14 : Below w.heap.size w w14 := B13.trans (hb14.mono B13.size)
  clear B13 hb14
  go_wp2_with fail
  refine (markI_any (k0 := 1) og1 (by omega)).mono ?_
  rintro e w15 ⟨rfl, om15, hg15⟩
  have s15 : w14.heap.size ≤ w15.heap.size := hg15.size
  have B15 : Below w.heap.size w w15 := B14.trans (grown_belowOwn og1 hg15 (by omega) (by omega))
  replace ow1 := ow1.keptBlk hg15 low1 log1 (by omega)
  replace ox1 := ox1.keptBlk hg15 lox1 log1 (by omega)
  replace ox3 := ox3.keptBlk hg15 lox3 log1 (by omega)
  replace og1 := om15
  clear B14 om15 hg15
  go_wp2_with fail
  refine (heldI_any (k0 := 1) og1.rd (by omega)).mono ?_
  rintro e w16 ⟨rfl, hb16⟩
  replace ow1 := ow1.below hb16 (Nat.le_refl _)
  replace ox1 := ox1.below hb16 (Nat.le_refl _)
  replace ox3 := ox3.below hb16 (Nat.le_refl _)
  replace og1 := og1.below hb16 (Nat.le_refl _)
  have s16 : w15.heap.size ≤ w16.heap.size := hb16.size
  have B16 : Below w.heap.size w w16 := B15.trans (hb16.mono B15.size)
  clear B15 hb16
  go_wp2_with fail
  refine (toI_any (r1.below B16 (Nat.le_refl _)) n1).mono ?_
  rintro e w17 ⟨adt5, cat5, rfl, t5, hb17⟩
  replace ow1 := ow1.below hb17 (Nat.le_refl _)
  replace ox1 := ox1.below hb17 (Nat.le_refl _)
  replace ox3 := ox3.below hb17 (Nat.le_refl _)
  replace og1 := og1.below hb17 (Nat.le_refl _)
  have s17 : w16.heap.size ≤ w17.heap.size := hb17.size
  have B17 : Below w.heap.size w w17 := B16.trans (hb17.mono B16.size)
  clear B16 hb17
  have lt5 := t5.blk
  go_wp2_with fail
  refine (toI_any (r3.below B17 (Nat.le_refl _)) n3).mono ?_
  rintro e w18 ⟨adt6, cat6, rfl, t6, hb18⟩
  replace ow1 := ow1.below hb18 (Nat.le_refl _)
  replace ox1 := ox1.below hb18 (Nat.le_refl _)
  replace ox3 := ox3.below hb18 (Nat.le_refl _)
  replace og1 := og1.below hb18 (Nat.le_refl _)
  replace t5 := t5.below hb18 (Nat.le_refl _)
  have s18 : w17.heap.size ≤ w18.heap.size := hb18.size
  have B18 : Below w.heap.size w w18 := B17.trans (hb18.mono B17.size)
  clear B17 hb18
  have lt6 := t6.blk
  go_wp2_with fail
  refine (implJd_any t5.rd t6.rd  (hT.below B18)).mono ?_
  rintro e w19 ⟨adh1, cah1, rfl, oh1, hb19⟩
  replace ow1 := ow1.below hb19 (Nat.le_refl _)
  replace ox1 := ox1.below hb19 (Nat.le_refl _)
  replace ox3 := ox3.below hb19 (Nat.le_refl _)
  replace og1 := og1.below hb19 (Nat.le_refl _)
  replace t5 := t5.below hb19 (Nat.le_refl _)
  replace t6 := t6.below hb19 (Nat.le_refl _)
  have s19 : w18.heap.size ≤ w19.heap.size := hb19.size
  have B19 : Below w.heap.size w w19 := B18.trans (hb19.mono B18.size)
  clear B18 hb19
  have loh1 := oh1.blk
  clear t5 lt5
  clear t6 lt6
  go_wp2_with fail
  refine (eqI_any oh1.rd ow1.rd).mono ?_
  rintro e w20 ⟨rfl, hb20⟩
  replace ow1 := ow1.below hb20 (Nat.le_refl _)
  replace ox1 := ox1.below hb20 (Nat.le_refl _)
  replace ox3 := ox3.below hb20 (Nat.le_refl _)
  replace og1 := og1.below hb20 (Nat.le_refl _)
  replace oh1 := oh1.below hb20 (Nat.le_refl _)
  have s20 : w19.heap.size ≤ w20.heap.size := hb20.size
  have B20 : Below w.heap.size w w20 := B19.trans (hb20.mono B19.size)
  clear B19 hb20
  go_wp2_with fail
  refine (heldI_any (k0 := 1) og1.rd (by omega)).mono ?_
  rintro e w21 ⟨rfl, hb21⟩
  replace ow1 := ow1.below hb21 (Nat.le_refl _)
  replace ox1 := ox1.below hb21 (Nat.le_refl _)
  replace ox3 := ox3.below hb21 (Nat.le_refl _)
  replace og1 := og1.below hb21 (Nat.le_refl _)
  replace oh1 := oh1.below hb21 (Nat.le_refl _)
  have s21 : w20.heap.size ≤ w21.heap.size := hb21.size
  have B21 : Below w.heap.size w w21 := B20.trans (hb21.mono B20.size)
  clear B20 hb21
  go_wp2
  go_ret
  exact ⟨rfl, B21⟩

theorem lawJoinDistinct_any {a1 : Option Addr} {c1 : Nat} {x1 : List Int} {a3 : Option Addr} {c3 : Nat} {x3 : List Int} {w : World} (hT : Tab w) (v0 : Int) (g0 : (Lit.int .i64 v0).wf = true) (r1 : Rd (Value.int .i64) w a1 c1 x1) (g1 : ∀ y ∈ x1, (Lit.int .i64 y).wf = true) (v2 : Int) (g2 : (Lit.int .i64 v2).wf = true) (r3 : Rd (Value.int .i64) w a3 c3 x3) (g3 : ∀ y ∈ x3, (Lit.int .i64 y).wf = true) (v4 : Int) (g4 : (Lit.int .i64 v4).wf = true) (v5 : Int) (g5 : (Lit.int .i64 v5).wf = true) :
    Calls Tryd.prog 4 #[(Value.int .i64 v0), .slice a1 x1.length c1, (Value.int .i64 v2), .slice a3 x3.length c3, (Value.int .i64 v4), (Value.int .i64 v5)] w fun e w' => e = .returned (.bool true) ∧ Below w.heap.size w w' := by
  by_cases n1 : x1.length ≤ 1048576
  case neg =>
    have big : 1048576 < x1.length := by omega
    have lm := r1.len
    clear n1
    go_enter Tryd.func4, Tryd.ntmps4
    go_wp2
    go_ret
    exact ⟨rfl, Below.refl _ _⟩
  by_cases n3 : x3.length ≤ 1048576
  case neg =>
    have big : 1048576 < x3.length := by omega
    have lm := r3.len
    clear n3
    go_enter Tryd.func4, Tryd.ntmps4
    go_wp2
    go_ret
    exact ⟨rfl, Below.refl _ _⟩
  exact lawJoinDistinct_walk v0 a1 c1 x1 v2 a3 c3 x3 v4 v5 w (bd_i64 g0).1 (bd_i64 g0).2 r1 n1 (bd_i64 g2).1 (bd_i64 g2).2 r3 n3 (bd_i64 g4).1 (bd_i64 g4).2 (bd_i64 g5).1 (bd_i64 g5).2 hT

end Go.Proofs.YtihbckoldblpcaaDoor
