/- The walk of the law FnExactWindowText. -/
import Derived.Test.YtockifchghllhaaDoorTxtW
import Derived.Test.YtockifchghllhaaDoorWinG
import Derived.Deep.DrawnRows
namespace Go.Proofs.YtockifchghllhaaDoor
open Go.RowKit
attribute [local go_sem ↓] Go.wp_at_zero Go.wp_at_succ

set_option maxRecDepth 100000 in
set_option maxHeartbeats 8000000 in
theorem lawWindowText_walk {ats1 : Option Addr} {cts1 : Nat} {ts1 : List Int} {ass1 : Option Addr} {css1 : Nat} {ss1 : List Int} {L1 P1 : Int} {w : World} (hT : PTab w) (hts1 : Rd (Value.int .i64) w ats1 cts1 ts1) (hss1 : Rd (Value.int .i64) w ass1 css1 ss1) :
    Calls Tryd.prog 8 #[.agg #[.int .i64 L1, .int .i64 P1, .slice ats1 ts1.length cts1, .slice ass1 ss1.length css1]] w fun e w' => e = .returned (.bool true) ∧ Below w.heap.size w w' := by
  have HT := Lib.hid hT
  clear hT
  have B0 : Below w.heap.size w (w.alloc (.cells #[.int .i64 L1, .int .i64 P1, .slice ats1 ts1.length cts1, .slice ass1 ss1.length css1] 53)) := (Below.refl _ _).alloc (Nat.le_refl _) _
  have I0 : Blk (w.alloc (.cells #[.int .i64 L1, .int .i64 P1, .slice ats1 ts1.length cts1, .slice ass1 ss1.length css1] 53)) w.heap.size #[.int .i64 L1, .int .i64 P1, .slice ats1 ts1.length cts1, .slice ass1 ss1.length css1] 53 := Blk.new _ _ _
  have H0 := Lib.hid (And.intro B0 I0)
  clear B0 I0
  obtain ⟨bb, hbb⟩ : ∃ z, winTV L1 P1 ts1 ss1 = z := ⟨_, rfl⟩
  have HBB := Lib.hid hbb
  clear hbb
  obtain ⟨tt, htt⟩ : ∃ z, winT L1 P1 ts1 ss1 = z := ⟨_, rfl⟩
  have HTT := Lib.hid htt
  clear htt
  have hnb : (bb ^^ bb) = false := by simp
  have hnb2 : (bb != bb) = false := by simp
  have hnt : (tt.toList == tt.toList) = true := by simp
  have hnt2 : (tt.toList != tt.toList) = false := by simp
  go_enter Tryd.func8, Tryd.ntmps8
  go_wp2_with fail
  generalize w.alloc (.cells #[.int .i64 L1, .int .i64 P1, .slice ats1 ts1.length cts1, .slice ass1 ss1.length css1] 53) = w0 at H0 ⊢
  have B0 := Lib.hid H0.out.1
  have I0 := Lib.hid H0.out.2
  clear H0
  refine (szWindow_any (hts1.below B0.out (Nat.le_refl _)) (hss1.below B0.out (Nat.le_refl _)) (by omega) (by omega)).mono ?_
  rintro e w1 ⟨rfl, hb0⟩
  have B1 := Lib.hid (B0.out.trans (hb0.mono B0.out.size))
  have I1 := Lib.hid (I0.out.below hb0 (Nat.le_refl _))
  clear hb0 B0 I0
  by_cases g1 : (1048576 : Int) < (ts1.length : Int) + (ss1.length : Int)
  · rw [if_pos g1]
    go_wp2
    go_ret
    exact ⟨rfl, B1.out⟩
  rw [if_neg g1]
  have nts1 : ts1.length ≤ 1048576 := by omega
  have nss1 : ss1.length ≤ 1048576 := by omega
  have i0 := I1.out.cell (i := 0) (v := .int .i64 L1) rfl
  have i1 := I1.out.cell (i := 1) (v := .int .i64 P1) rfl
  have i2 := I1.out.cell (i := 2) (v := .slice ats1 ts1.length cts1) rfl
  have i3 := I1.out.cell (i := 3) (v := .slice ass1 ss1.length css1) rfl
  go_wp2_with fail
  refine (toWindow_any (hts1.below B1.out (Nat.le_refl _)) (hss1.below B1.out (Nat.le_refl _)) nts1 nss1).mono ?_
  rintro e w2 ⟨pts1x, qts1x, pss1x, qss1x, rfl, ots1x, oss1x, hb2⟩
  have B2 := Lib.hid (B1.out.trans (hb2.mono B1.out.size))
  have I2 := Lib.hid (I1.out.below hb2 (Nat.le_refl _))
  clear i0 i1 i2 i3
  clear hb2 I1 B1
  go_wp2_with fail
  refine (specWindowText_any ots1x.rd oss1x.rd).mono ?_
  rintro e w3 ⟨rfl, hb3⟩
  rw [HBB.out, HTT.out]
  have B3 := Lib.hid (B2.out.trans (hb3.mono B2.out.size))
  have I3 := Lib.hid (I2.out.below hb3 (Nat.le_refl _))
  clear ots1x oss1x hb3 I2 B2
  have i0 := I3.out.cell (i := 0) (v := .int .i64 L1) rfl
  have i1 := I3.out.cell (i := 1) (v := .int .i64 P1) rfl
  have i2 := I3.out.cell (i := 2) (v := .slice ats1 ts1.length cts1) rfl
  have i3 := I3.out.cell (i := 3) (v := .slice ass1 ss1.length css1) rfl
  go_wp2_with fail
  refine (toWindow_any (hts1.below B3.out (Nat.le_refl _)) (hss1.below B3.out (Nat.le_refl _)) nts1 nss1).mono ?_
  rintro e w7 ⟨pts1y, qts1y, pss1y, qss1y, rfl, ots1y, oss1y, hb7⟩
  have B7 := Lib.hid (B3.out.trans (hb7.mono B3.out.size))
  have I7 := Lib.hid (I3.out.below hb7 (Nat.le_refl _))
  clear i0 i1 i2 i3
  have X8 : Hid (Blk (w7.alloc (.cells #[.int .i64 L1, .int .i64 P1, .slice pts1y ts1.length qts1y, .slice pss1y ss1.length qss1y] 56)) w7.heap.size #[.int .i64 L1, .int .i64 P1, .slice pts1y ts1.length qts1y, .slice pss1y ss1.length qss1y] 56) := Blk.new _ _ _
  have B8 : Hid (Below w.heap.size w (w7.alloc (.cells #[.int .i64 L1, .int .i64 P1, .slice pts1y ts1.length qts1y, .slice pss1y ss1.length qss1y] 56))) := B7.out.alloc B7.out.size _
  have I8 := Lib.hid (I7.out.alloc (.cells #[.int .i64 L1, .int .i64 P1, .slice pts1y ts1.length qts1y, .slice pss1y ss1.length qss1y] 56))
  have Xts := Lib.hid (ots1y.alloc (.cells #[.int .i64 L1, .int .i64 P1, .slice pts1y ts1.length qts1y, .slice pss1y ss1.length qss1y] 56)).rd
  have Xss := Lib.hid (oss1y.alloc (.cells #[.int .i64 L1, .int .i64 P1, .slice pts1y ts1.length qts1y, .slice pss1y ss1.length qss1y] 56)).rd
  clear ots1y oss1y hb7 I7 B7 I3 B3
  go_wp2_with fail
  generalize w7.alloc (.cells #[.int .i64 L1, .int .i64 P1, .slice pts1y ts1.length qts1y, .slice pss1y ss1.length qss1y] 56) = w8 at X8 B8 I8 Xts Xss ⊢
  refine (windowText_any (HT.out.below B8.out (Nat.le_refl _)) Xts.out Xss.out).mono ?_
  rintro e w9 ⟨rfl, hb9⟩
  rw [HBB.out, HTT.out]
  have B9 := Lib.hid (B8.out.trans (hb9.mono B8.out.size))
  have I9 := Lib.hid (I8.out.below hb9 (Nat.le_refl _))
  have X9 := Lib.hid (X8.out.below hb9 (Nat.le_refl _))
  replace Xts := Lib.hid (Xts.out.below hb9 (Nat.le_refl _))
  replace Xss := Lib.hid (Xss.out.below hb9 (Nat.le_refl _))
  clear hb9 I8 B8 X8
  go_wp2_with fail
  have hbd9 : Below w9.heap.size w9 w9.drew := below_of_drewN w9 1 _
  have B10 := Lib.hid (B9.out.trans (hbd9.mono B9.out.size))
  have I10 := Lib.hid I9.out.drew
  have X10 := Lib.hid X9.out.drew
  replace Xts := Lib.hid (Xts.out.below hbd9 (Nat.le_refl _))
  replace Xss := Lib.hid (Xss.out.below hbd9 (Nat.le_refl _))
  have k9 := Lib.hid (And.intro (I9.out.cell (i := 0) (v := .int .i64 L1) rfl) (And.intro (I9.out.cell (i := 1) (v := .int .i64 P1) rfl) (And.intro (I9.out.cell (i := 2) (v := .slice ats1 ts1.length cts1) rfl) (And.intro (I9.out.cell (i := 3) (v := .slice ass1 ss1.length css1) rfl) (And.intro (X9.out.cell (i := 0) (v := .int .i64 L1) rfl) (And.intro (X9.out.cell (i := 1) (v := .int .i64 P1) rfl) (And.intro (X9.out.cell (i := 2) (v := .slice pts1y ts1.length qts1y) rfl) (X9.out.cell (i := 3) (v := .slice pss1y ss1.length qss1y) rfl))))))))
  go_region_held3 (fun w' => w'.cell? ⟨w.heap.size, 0, none⟩ = some (.int .i64 L1) ∧ w'.cell? ⟨w.heap.size, 1, none⟩ = some (.int .i64 P1) ∧ w'.cell? ⟨w.heap.size, 2, none⟩ = some (.slice ats1 ts1.length cts1) ∧ w'.cell? ⟨w.heap.size, 3, none⟩ = some (.slice ass1 ss1.length css1) ∧ w'.cell? ⟨w7.heap.size, 0, none⟩ = some (.int .i64 L1) ∧ w'.cell? ⟨w7.heap.size, 1, none⟩ = some (.int .i64 P1) ∧ w'.cell? ⟨w7.heap.size, 2, none⟩ = some (.slice pts1y ts1.length qts1y) ∧ w'.cell? ⟨w7.heap.size, 3, none⟩ = some (.slice pss1y ss1.length qss1y))
      (first | (with_reducible exact k11.out) | (with_reducible exact k12.out) | exact k9.out)
      (first
        | (go_at_call 35; (with_reducible refine (toWindow_any (hts1.below B10.out (Nat.le_refl _)) (hss1.below B10.out (Nat.le_refl _)) nts1 nss1).mono ?_); rintro e w11 ⟨pts1z, qts1z, pss1z, qss1z, rfl, ots1z, oss1z, hb11⟩; have B11 := Lib.hid (B10.out.trans (hb11.mono B10.out.size)); have I11 := Lib.hid (I10.out.below hb11 (Nat.le_refl _)); have X11 := Lib.hid (X10.out.below hb11 (Nat.le_refl _)); have k11 := Lib.hid (And.intro (I11.out.cell (i := 0) (v := .int .i64 L1) rfl) (And.intro (I11.out.cell (i := 1) (v := .int .i64 P1) rfl) (And.intro (I11.out.cell (i := 2) (v := .slice ats1 ts1.length cts1) rfl) (And.intro (I11.out.cell (i := 3) (v := .slice ass1 ss1.length css1) rfl) (And.intro (X11.out.cell (i := 0) (v := .int .i64 L1) rfl) (And.intro (X11.out.cell (i := 1) (v := .int .i64 P1) rfl) (And.intro (X11.out.cell (i := 2) (v := .slice pts1y ts1.length qts1y) rfl) (X11.out.cell (i := 3) (v := .slice pss1y ss1.length qss1y) rfl)))))))))
        | (go_at_call 37; refine (eqWindow_same (Xts.out.below hb11 (Nat.le_refl _)) (Xss.out.below hb11 (Nat.le_refl _)) ots1z.rd oss1z.rd).mono ?_; rintro e w12 ⟨rfl, hb12⟩; have B12 := Lib.hid (B11.out.trans (hb12.mono B11.out.size)); have I12 := Lib.hid (I11.out.below hb12 (Nat.le_refl _)); have X12 := Lib.hid (X11.out.below hb12 (Nat.le_refl _)); have k12 := Lib.hid (And.intro (I12.out.cell (i := 0) (v := .int .i64 L1) rfl) (And.intro (I12.out.cell (i := 1) (v := .int .i64 P1) rfl) (And.intro (I12.out.cell (i := 2) (v := .slice ats1 ts1.length cts1) rfl) (And.intro (I12.out.cell (i := 3) (v := .slice ass1 ss1.length css1) rfl) (And.intro (X12.out.cell (i := 0) (v := .int .i64 L1) rfl) (And.intro (X12.out.cell (i := 1) (v := .int .i64 P1) rfl) (And.intro (X12.out.cell (i := 2) (v := .slice pts1y ts1.length qts1y) rfl) (X12.out.cell (i := 3) (v := .slice pss1y ss1.length qss1y) rfl))))))))))
  go_wp2
  go_ret
  exact ⟨rfl, B12.out⟩

end Go.Proofs.YtockifchghllhaaDoor
