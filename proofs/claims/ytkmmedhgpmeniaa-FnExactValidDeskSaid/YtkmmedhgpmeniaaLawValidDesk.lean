/- The walk of the law FnExactValidDesk. -/
import Derived.Test.YtkmmedhgpmeniaaValD
import Derived.Test.YtkmmedhgpmeniaaStDesk
import Derived.Deep.DrawnRows
namespace Go.Proofs.Ytkmmedhgpmeniaa
open Go.RowKit
attribute [local go_sem ↓] Go.wp_at_zero Go.wp_at_succ

set_option maxRecDepth 100000 in
set_option maxHeartbeats 8000000 in
theorem lawValidDesk_walk {abs1 : Option Addr} {cbs1 : Nat} {bs1 : List Bool} {azs1 : Option Addr} {czs1 : Nat} {zs1 : List Int} {ats1 : Option Addr} {cts1 : Nat} {ts1 : List Int} {ass1 : Option Addr} {css1 : Nat} {ss1 : List Int} {aks1 : Option Addr} {cks1 : Nat} {ks1 : List Int} {R1 S1 Z1 L1 P1 : Int} {w : World} (hbs1 : Rd (Value.bool) w abs1 cbs1 bs1) (hzs1 : Rd (Value.int .i64) w azs1 czs1 zs1) (hts1 : Rd (Value.int .i64) w ats1 cts1 ts1) (hss1 : Rd (Value.int .i64) w ass1 css1 ss1) (hks1 : Rd (Value.int .i64) w aks1 cks1 ks1) :
    Calls Try.prog 8 #[.agg #[.int .i64 R1, .int .i64 S1, .slice abs1 bs1.length cbs1, .int .i64 Z1, .slice azs1 zs1.length czs1, .int .i64 L1, .int .i64 P1, .slice ats1 ts1.length cts1, .slice ass1 ss1.length css1, .slice aks1 ks1.length cks1]] w fun e w' => e = .returned (.bool true) ∧ Below w.heap.size w w' := by
  have B0 : Below w.heap.size w (w.alloc (.cells #[.int .i64 R1, .int .i64 S1, .slice abs1 bs1.length cbs1, .int .i64 Z1, .slice azs1 zs1.length czs1, .int .i64 L1, .int .i64 P1, .slice ats1 ts1.length cts1, .slice ass1 ss1.length css1, .slice aks1 ks1.length cks1] 64)) := (Below.refl _ _).alloc (Nat.le_refl _) _
  have I0 : Blk (w.alloc (.cells #[.int .i64 R1, .int .i64 S1, .slice abs1 bs1.length cbs1, .int .i64 Z1, .slice azs1 zs1.length czs1, .int .i64 L1, .int .i64 P1, .slice ats1 ts1.length cts1, .slice ass1 ss1.length css1, .slice aks1 ks1.length cks1] 64)) w.heap.size #[.int .i64 R1, .int .i64 S1, .slice abs1 bs1.length cbs1, .int .i64 Z1, .slice azs1 zs1.length czs1, .int .i64 L1, .int .i64 P1, .slice ats1 ts1.length cts1, .slice ass1 ss1.length css1, .slice aks1 ks1.length cks1] 64 := Blk.new _ _ _
  have H0 := Lib.hid (And.intro B0 I0)
  clear B0 I0
  obtain ⟨bb, hbb⟩ : ∃ z, deskB R1 S1 bs1 Z1 zs1 L1 P1 ts1 ss1 ks1 = z := ⟨_, rfl⟩
  have HBB := Lib.hid hbb
  clear hbb
  have hnb : (bb ^^ bb) = false := by simp
  have hnb2 : (bb != bb) = false := by simp
  go_enter Try.func8, Try.ntmps8
  go_wp2_with fail
  generalize w.alloc (.cells #[.int .i64 R1, .int .i64 S1, .slice abs1 bs1.length cbs1, .int .i64 Z1, .slice azs1 zs1.length czs1, .int .i64 L1, .int .i64 P1, .slice ats1 ts1.length cts1, .slice ass1 ss1.length css1, .slice aks1 ks1.length cks1] 64) = w0 at H0 ⊢
  have B0 := Lib.hid H0.out.1
  have I0 := Lib.hid H0.out.2
  clear H0
  refine (szDesk_any (hbs1.below B0.out (Nat.le_refl _)) (hzs1.below B0.out (Nat.le_refl _)) (hts1.below B0.out (Nat.le_refl _)) (hss1.below B0.out (Nat.le_refl _)) (hks1.below B0.out (Nat.le_refl _)) (by omega) (by omega)).mono ?_
  rintro e w1 ⟨rfl, hb0⟩
  have B1 := Lib.hid (B0.out.trans (hb0.mono B0.out.size))
  have I1 := Lib.hid (I0.out.below hb0 (Nat.le_refl _))
  clear hb0 B0 I0
  by_cases g1 : (1048576 : Int) < (bs1.length : Int) + (zs1.length : Int) + ((ts1.length : Int) + ss1.length) + (ks1.length : Int)
  · rw [room_no g1]
    go_wp2
    go_ret
    exact ⟨rfl, B1.out⟩
  rw [room_yes g1]
  have nbs1 : bs1.length ≤ 1048576 := by omega
  have nzs1 : zs1.length ≤ 1048576 := by omega
  have nts1 : ts1.length ≤ 1048576 := by omega
  have nss1 : ss1.length ≤ 1048576 := by omega
  have nks1 : ks1.length ≤ 1048576 := by omega
  have i0 := I1.out.cell (i := 0) (v := .int .i64 R1) rfl
  have i1 := I1.out.cell (i := 1) (v := .int .i64 S1) rfl
  have i2 := I1.out.cell (i := 2) (v := .slice abs1 bs1.length cbs1) rfl
  have i3 := I1.out.cell (i := 3) (v := .int .i64 Z1) rfl
  have i4 := I1.out.cell (i := 4) (v := .slice azs1 zs1.length czs1) rfl
  have i5 := I1.out.cell (i := 5) (v := .int .i64 L1) rfl
  have i6 := I1.out.cell (i := 6) (v := .int .i64 P1) rfl
  have i7 := I1.out.cell (i := 7) (v := .slice ats1 ts1.length cts1) rfl
  have i8 := I1.out.cell (i := 8) (v := .slice ass1 ss1.length css1) rfl
  have i9 := I1.out.cell (i := 9) (v := .slice aks1 ks1.length cks1) rfl
  go_wp2_with fail
  refine (toDesk_any (hbs1.below B1.out (Nat.le_refl _)) (hzs1.below B1.out (Nat.le_refl _)) (hts1.below B1.out (Nat.le_refl _)) (hss1.below B1.out (Nat.le_refl _)) (hks1.below B1.out (Nat.le_refl _)) nbs1 nzs1 nts1 nss1 nks1).mono ?_
  rintro e w2 ⟨pbs1x, qbs1x, pzs1x, qzs1x, pts1x, qts1x, pss1x, qss1x, pks1x, qks1x, rfl, obs1x, ozs1x, ots1x, oss1x, oks1x, hb2⟩
  have B2 := Lib.hid (B1.out.trans (hb2.mono B1.out.size))
  have I2 := Lib.hid (I1.out.below hb2 (Nat.le_refl _))
  clear i0 i1 i2 i3 i4 i5 i6 i7 i8 i9
  clear hb2 I1 B1
  go_wp2_with fail
  refine (specValidDesk_any obs1x.rd ozs1x.rd ots1x.rd oss1x.rd oks1x.rd).mono ?_
  rintro e w3 ⟨rfl, hb3⟩
  rw [HBB.out]
  have B3 := Lib.hid (B2.out.trans (hb3.mono B2.out.size))
  have I3 := Lib.hid (I2.out.below hb3 (Nat.le_refl _))
  clear obs1x ozs1x ots1x oss1x oks1x hb3 I2 B2
  have i0 := I3.out.cell (i := 0) (v := .int .i64 R1) rfl
  have i1 := I3.out.cell (i := 1) (v := .int .i64 S1) rfl
  have i2 := I3.out.cell (i := 2) (v := .slice abs1 bs1.length cbs1) rfl
  have i3 := I3.out.cell (i := 3) (v := .int .i64 Z1) rfl
  have i4 := I3.out.cell (i := 4) (v := .slice azs1 zs1.length czs1) rfl
  have i5 := I3.out.cell (i := 5) (v := .int .i64 L1) rfl
  have i6 := I3.out.cell (i := 6) (v := .int .i64 P1) rfl
  have i7 := I3.out.cell (i := 7) (v := .slice ats1 ts1.length cts1) rfl
  have i8 := I3.out.cell (i := 8) (v := .slice ass1 ss1.length css1) rfl
  have i9 := I3.out.cell (i := 9) (v := .slice aks1 ks1.length cks1) rfl
  go_wp2_with fail
  refine (toDesk_any (hbs1.below B3.out (Nat.le_refl _)) (hzs1.below B3.out (Nat.le_refl _)) (hts1.below B3.out (Nat.le_refl _)) (hss1.below B3.out (Nat.le_refl _)) (hks1.below B3.out (Nat.le_refl _)) nbs1 nzs1 nts1 nss1 nks1).mono ?_
  rintro e w7 ⟨pbs1y, qbs1y, pzs1y, qzs1y, pts1y, qts1y, pss1y, qss1y, pks1y, qks1y, rfl, obs1y, ozs1y, ots1y, oss1y, oks1y, hb7⟩
  have B7 := Lib.hid (B3.out.trans (hb7.mono B3.out.size))
  have I7 := Lib.hid (I3.out.below hb7 (Nat.le_refl _))
  clear i0 i1 i2 i3 i4 i5 i6 i7 i8 i9
  have X8 : Hid (Blk (w7.alloc (.cells #[.int .i64 R1, .int .i64 S1, .slice pbs1y bs1.length qbs1y, .int .i64 Z1, .slice pzs1y zs1.length qzs1y, .int .i64 L1, .int .i64 P1, .slice pts1y ts1.length qts1y, .slice pss1y ss1.length qss1y, .slice pks1y ks1.length qks1y] 43)) w7.heap.size #[.int .i64 R1, .int .i64 S1, .slice pbs1y bs1.length qbs1y, .int .i64 Z1, .slice pzs1y zs1.length qzs1y, .int .i64 L1, .int .i64 P1, .slice pts1y ts1.length qts1y, .slice pss1y ss1.length qss1y, .slice pks1y ks1.length qks1y] 43) := Blk.new _ _ _
  have B8 : Hid (Below w.heap.size w (w7.alloc (.cells #[.int .i64 R1, .int .i64 S1, .slice pbs1y bs1.length qbs1y, .int .i64 Z1, .slice pzs1y zs1.length qzs1y, .int .i64 L1, .int .i64 P1, .slice pts1y ts1.length qts1y, .slice pss1y ss1.length qss1y, .slice pks1y ks1.length qks1y] 43))) := B7.out.alloc B7.out.size _
  have I8 := Lib.hid (I7.out.alloc (.cells #[.int .i64 R1, .int .i64 S1, .slice pbs1y bs1.length qbs1y, .int .i64 Z1, .slice pzs1y zs1.length qzs1y, .int .i64 L1, .int .i64 P1, .slice pts1y ts1.length qts1y, .slice pss1y ss1.length qss1y, .slice pks1y ks1.length qks1y] 43))
  have Xbs := Lib.hid (obs1y.alloc (.cells #[.int .i64 R1, .int .i64 S1, .slice pbs1y bs1.length qbs1y, .int .i64 Z1, .slice pzs1y zs1.length qzs1y, .int .i64 L1, .int .i64 P1, .slice pts1y ts1.length qts1y, .slice pss1y ss1.length qss1y, .slice pks1y ks1.length qks1y] 43)).rd
  have Xzs := Lib.hid (ozs1y.alloc (.cells #[.int .i64 R1, .int .i64 S1, .slice pbs1y bs1.length qbs1y, .int .i64 Z1, .slice pzs1y zs1.length qzs1y, .int .i64 L1, .int .i64 P1, .slice pts1y ts1.length qts1y, .slice pss1y ss1.length qss1y, .slice pks1y ks1.length qks1y] 43)).rd
  have Xts := Lib.hid (ots1y.alloc (.cells #[.int .i64 R1, .int .i64 S1, .slice pbs1y bs1.length qbs1y, .int .i64 Z1, .slice pzs1y zs1.length qzs1y, .int .i64 L1, .int .i64 P1, .slice pts1y ts1.length qts1y, .slice pss1y ss1.length qss1y, .slice pks1y ks1.length qks1y] 43)).rd
  have Xss := Lib.hid (oss1y.alloc (.cells #[.int .i64 R1, .int .i64 S1, .slice pbs1y bs1.length qbs1y, .int .i64 Z1, .slice pzs1y zs1.length qzs1y, .int .i64 L1, .int .i64 P1, .slice pts1y ts1.length qts1y, .slice pss1y ss1.length qss1y, .slice pks1y ks1.length qks1y] 43)).rd
  have Xks := Lib.hid (oks1y.alloc (.cells #[.int .i64 R1, .int .i64 S1, .slice pbs1y bs1.length qbs1y, .int .i64 Z1, .slice pzs1y zs1.length qzs1y, .int .i64 L1, .int .i64 P1, .slice pts1y ts1.length qts1y, .slice pss1y ss1.length qss1y, .slice pks1y ks1.length qks1y] 43)).rd
  clear obs1y ozs1y ots1y oss1y oks1y hb7 I7 B7 I3 B3
  go_wp2_with fail
  generalize w7.alloc (.cells #[.int .i64 R1, .int .i64 S1, .slice pbs1y bs1.length qbs1y, .int .i64 Z1, .slice pzs1y zs1.length qzs1y, .int .i64 L1, .int .i64 P1, .slice pts1y ts1.length qts1y, .slice pss1y ss1.length qss1y, .slice pks1y ks1.length qks1y] 43) = w8 at X8 B8 I8 Xbs Xzs Xts Xss Xks ⊢
  refine (validDesk_any Xbs.out Xzs.out Xts.out Xss.out Xks.out).mono ?_
  rintro e w9 ⟨rfl, hb9⟩
  rw [HBB.out]
  have B9 := Lib.hid (B8.out.trans (hb9.mono B8.out.size))
  have I9 := Lib.hid (I8.out.below hb9 (Nat.le_refl _))
  have X9 := Lib.hid (X8.out.below hb9 (Nat.le_refl _))
  replace Xbs := Lib.hid (Xbs.out.below hb9 (Nat.le_refl _))
  replace Xzs := Lib.hid (Xzs.out.below hb9 (Nat.le_refl _))
  replace Xts := Lib.hid (Xts.out.below hb9 (Nat.le_refl _))
  replace Xss := Lib.hid (Xss.out.below hb9 (Nat.le_refl _))
  replace Xks := Lib.hid (Xks.out.below hb9 (Nat.le_refl _))
  clear hb9 I8 B8 X8
  go_wp2_with fail
  have hbd9 : Below w9.heap.size w9 w9.drew := below_of_drewN w9 1 _
  have B10 := Lib.hid (B9.out.trans (hbd9.mono B9.out.size))
  have I10 := Lib.hid I9.out.drew
  have X10 := Lib.hid X9.out.drew
  replace Xbs := Lib.hid (Xbs.out.below hbd9 (Nat.le_refl _))
  replace Xzs := Lib.hid (Xzs.out.below hbd9 (Nat.le_refl _))
  replace Xts := Lib.hid (Xts.out.below hbd9 (Nat.le_refl _))
  replace Xss := Lib.hid (Xss.out.below hbd9 (Nat.le_refl _))
  replace Xks := Lib.hid (Xks.out.below hbd9 (Nat.le_refl _))
  have k9 := Lib.hid (And.intro (I9.out.cell (i := 0) (v := .int .i64 R1) rfl) (And.intro (I9.out.cell (i := 1) (v := .int .i64 S1) rfl) (And.intro (I9.out.cell (i := 2) (v := .slice abs1 bs1.length cbs1) rfl) (And.intro (I9.out.cell (i := 3) (v := .int .i64 Z1) rfl) (And.intro (I9.out.cell (i := 4) (v := .slice azs1 zs1.length czs1) rfl) (And.intro (I9.out.cell (i := 5) (v := .int .i64 L1) rfl) (And.intro (I9.out.cell (i := 6) (v := .int .i64 P1) rfl) (And.intro (I9.out.cell (i := 7) (v := .slice ats1 ts1.length cts1) rfl) (And.intro (I9.out.cell (i := 8) (v := .slice ass1 ss1.length css1) rfl) (And.intro (I9.out.cell (i := 9) (v := .slice aks1 ks1.length cks1) rfl) (And.intro (X9.out.cell (i := 0) (v := .int .i64 R1) rfl) (And.intro (X9.out.cell (i := 1) (v := .int .i64 S1) rfl) (And.intro (X9.out.cell (i := 2) (v := .slice pbs1y bs1.length qbs1y) rfl) (And.intro (X9.out.cell (i := 3) (v := .int .i64 Z1) rfl) (And.intro (X9.out.cell (i := 4) (v := .slice pzs1y zs1.length qzs1y) rfl) (And.intro (X9.out.cell (i := 5) (v := .int .i64 L1) rfl) (And.intro (X9.out.cell (i := 6) (v := .int .i64 P1) rfl) (And.intro (X9.out.cell (i := 7) (v := .slice pts1y ts1.length qts1y) rfl) (And.intro (X9.out.cell (i := 8) (v := .slice pss1y ss1.length qss1y) rfl) (X9.out.cell (i := 9) (v := .slice pks1y ks1.length qks1y) rfl))))))))))))))))))))
  go_region_held3 (fun w' => w'.cell? ⟨w.heap.size, 0, none⟩ = some (.int .i64 R1) ∧ w'.cell? ⟨w.heap.size, 1, none⟩ = some (.int .i64 S1) ∧ w'.cell? ⟨w.heap.size, 2, none⟩ = some (.slice abs1 bs1.length cbs1) ∧ w'.cell? ⟨w.heap.size, 3, none⟩ = some (.int .i64 Z1) ∧ w'.cell? ⟨w.heap.size, 4, none⟩ = some (.slice azs1 zs1.length czs1) ∧ w'.cell? ⟨w.heap.size, 5, none⟩ = some (.int .i64 L1) ∧ w'.cell? ⟨w.heap.size, 6, none⟩ = some (.int .i64 P1) ∧ w'.cell? ⟨w.heap.size, 7, none⟩ = some (.slice ats1 ts1.length cts1) ∧ w'.cell? ⟨w.heap.size, 8, none⟩ = some (.slice ass1 ss1.length css1) ∧ w'.cell? ⟨w.heap.size, 9, none⟩ = some (.slice aks1 ks1.length cks1) ∧ w'.cell? ⟨w7.heap.size, 0, none⟩ = some (.int .i64 R1) ∧ w'.cell? ⟨w7.heap.size, 1, none⟩ = some (.int .i64 S1) ∧ w'.cell? ⟨w7.heap.size, 2, none⟩ = some (.slice pbs1y bs1.length qbs1y) ∧ w'.cell? ⟨w7.heap.size, 3, none⟩ = some (.int .i64 Z1) ∧ w'.cell? ⟨w7.heap.size, 4, none⟩ = some (.slice pzs1y zs1.length qzs1y) ∧ w'.cell? ⟨w7.heap.size, 5, none⟩ = some (.int .i64 L1) ∧ w'.cell? ⟨w7.heap.size, 6, none⟩ = some (.int .i64 P1) ∧ w'.cell? ⟨w7.heap.size, 7, none⟩ = some (.slice pts1y ts1.length qts1y) ∧ w'.cell? ⟨w7.heap.size, 8, none⟩ = some (.slice pss1y ss1.length qss1y) ∧ w'.cell? ⟨w7.heap.size, 9, none⟩ = some (.slice pks1y ks1.length qks1y))
      (first | (with_reducible exact k11.out) | (with_reducible exact k12.out) | exact k9.out)
      (first
        | (go_at_call 42; (with_reducible refine (toDesk_any (hbs1.below B10.out (Nat.le_refl _)) (hzs1.below B10.out (Nat.le_refl _)) (hts1.below B10.out (Nat.le_refl _)) (hss1.below B10.out (Nat.le_refl _)) (hks1.below B10.out (Nat.le_refl _)) nbs1 nzs1 nts1 nss1 nks1).mono ?_); rintro e w11 ⟨pbs1z, qbs1z, pzs1z, qzs1z, pts1z, qts1z, pss1z, qss1z, pks1z, qks1z, rfl, obs1z, ozs1z, ots1z, oss1z, oks1z, hb11⟩; have B11 := Lib.hid (B10.out.trans (hb11.mono B10.out.size)); have I11 := Lib.hid (I10.out.below hb11 (Nat.le_refl _)); have X11 := Lib.hid (X10.out.below hb11 (Nat.le_refl _)); have k11 := Lib.hid (And.intro (I11.out.cell (i := 0) (v := .int .i64 R1) rfl) (And.intro (I11.out.cell (i := 1) (v := .int .i64 S1) rfl) (And.intro (I11.out.cell (i := 2) (v := .slice abs1 bs1.length cbs1) rfl) (And.intro (I11.out.cell (i := 3) (v := .int .i64 Z1) rfl) (And.intro (I11.out.cell (i := 4) (v := .slice azs1 zs1.length czs1) rfl) (And.intro (I11.out.cell (i := 5) (v := .int .i64 L1) rfl) (And.intro (I11.out.cell (i := 6) (v := .int .i64 P1) rfl) (And.intro (I11.out.cell (i := 7) (v := .slice ats1 ts1.length cts1) rfl) (And.intro (I11.out.cell (i := 8) (v := .slice ass1 ss1.length css1) rfl) (And.intro (I11.out.cell (i := 9) (v := .slice aks1 ks1.length cks1) rfl) (And.intro (X11.out.cell (i := 0) (v := .int .i64 R1) rfl) (And.intro (X11.out.cell (i := 1) (v := .int .i64 S1) rfl) (And.intro (X11.out.cell (i := 2) (v := .slice pbs1y bs1.length qbs1y) rfl) (And.intro (X11.out.cell (i := 3) (v := .int .i64 Z1) rfl) (And.intro (X11.out.cell (i := 4) (v := .slice pzs1y zs1.length qzs1y) rfl) (And.intro (X11.out.cell (i := 5) (v := .int .i64 L1) rfl) (And.intro (X11.out.cell (i := 6) (v := .int .i64 P1) rfl) (And.intro (X11.out.cell (i := 7) (v := .slice pts1y ts1.length qts1y) rfl) (And.intro (X11.out.cell (i := 8) (v := .slice pss1y ss1.length qss1y) rfl) (X11.out.cell (i := 9) (v := .slice pks1y ks1.length qks1y) rfl)))))))))))))))))))))
        | (go_at_call 24; refine (eqDesk_same (Xbs.out.below hb11 (Nat.le_refl _)) obs1z.rd (Xzs.out.below hb11 (Nat.le_refl _)) ozs1z.rd (Xts.out.below hb11 (Nat.le_refl _)) ots1z.rd (Xss.out.below hb11 (Nat.le_refl _)) oss1z.rd (Xks.out.below hb11 (Nat.le_refl _)) oks1z.rd).mono ?_; rintro e w12 ⟨rfl, hb12⟩; have B12 := Lib.hid (B11.out.trans (hb12.mono B11.out.size)); have I12 := Lib.hid (I11.out.below hb12 (Nat.le_refl _)); have X12 := Lib.hid (X11.out.below hb12 (Nat.le_refl _)); have k12 := Lib.hid (And.intro (I12.out.cell (i := 0) (v := .int .i64 R1) rfl) (And.intro (I12.out.cell (i := 1) (v := .int .i64 S1) rfl) (And.intro (I12.out.cell (i := 2) (v := .slice abs1 bs1.length cbs1) rfl) (And.intro (I12.out.cell (i := 3) (v := .int .i64 Z1) rfl) (And.intro (I12.out.cell (i := 4) (v := .slice azs1 zs1.length czs1) rfl) (And.intro (I12.out.cell (i := 5) (v := .int .i64 L1) rfl) (And.intro (I12.out.cell (i := 6) (v := .int .i64 P1) rfl) (And.intro (I12.out.cell (i := 7) (v := .slice ats1 ts1.length cts1) rfl) (And.intro (I12.out.cell (i := 8) (v := .slice ass1 ss1.length css1) rfl) (And.intro (I12.out.cell (i := 9) (v := .slice aks1 ks1.length cks1) rfl) (And.intro (X12.out.cell (i := 0) (v := .int .i64 R1) rfl) (And.intro (X12.out.cell (i := 1) (v := .int .i64 S1) rfl) (And.intro (X12.out.cell (i := 2) (v := .slice pbs1y bs1.length qbs1y) rfl) (And.intro (X12.out.cell (i := 3) (v := .int .i64 Z1) rfl) (And.intro (X12.out.cell (i := 4) (v := .slice pzs1y zs1.length qzs1y) rfl) (And.intro (X12.out.cell (i := 5) (v := .int .i64 L1) rfl) (And.intro (X12.out.cell (i := 6) (v := .int .i64 P1) rfl) (And.intro (X12.out.cell (i := 7) (v := .slice pts1y ts1.length qts1y) rfl) (And.intro (X12.out.cell (i := 8) (v := .slice pss1y ss1.length qss1y) rfl) (X12.out.cell (i := 9) (v := .slice pks1y ks1.length qks1y) rfl))))))))))))))))))))))
  go_wp2
  go_ret
  exact ⟨rfl, B12.out⟩

end Go.Proofs.Ytkmmedhgpmeniaa
