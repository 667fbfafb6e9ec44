/- The walk of the law FnExactStoreSaved. -/
import Derived.Test.YtgkmmilmdhhleaaStoC
import Derived.Test.YtgkmmilmdhhleaaStSaved
import Derived.Deep.DrawnRows
namespace Go.Proofs.Ytgkmmilmdhhleaa
open Go.RowKit
attribute [local go_sem ↓] Go.wp_at_zero Go.wp_at_succ

set_option maxRecDepth 100000 in
set_option maxHeartbeats 8000000 in
theorem lawStoreSaved_walk {acs1 : Option Addr} {ccs1 : Nat} {cs1 : List Int} {aks1 : Option Addr} {cks1 : Nat} {ks1 : List Int} {ats1 : Option Addr} {cts1 : Nat} {ts1 : List Int} {aes1 : Option Addr} {ces1 : Nat} {es1 : List Int} {nm1 : ByteArray} {W1 D1 S1 R1 : Int} {w : World} (hcs1 : Rd (Value.int .i64) w acs1 ccs1 cs1) (hks1 : Rd (Value.int .i64) w aks1 cks1 ks1) (hts1 : Rd (Value.int .i64) w ats1 cts1 ts1) (hes1 : Rd (Value.int .i64) w aes1 ces1 es1) (hnm : nm1.size ≤ 9223372036854775807) :
    Calls Try.prog 10 #[.agg #[.string nm1, .int .i64 W1, .int .i64 D1, .int .i64 S1, .slice acs1 cs1.length ccs1, .int .i64 R1, .slice aks1 ks1.length cks1, .slice ats1 ts1.length cts1, .slice aes1 es1.length ces1]] w fun e w' => e = .returned (.bool true) ∧ Below w.heap.size w w' := by
  have B0 : Below w.heap.size w (w.alloc (.cells #[.string nm1, .int .i64 W1, .int .i64 D1, .int .i64 S1, .slice acs1 cs1.length ccs1, .int .i64 R1, .slice aks1 ks1.length cks1, .slice ats1 ts1.length cts1, .slice aes1 es1.length ces1] 73)) := (Below.refl _ _).alloc (Nat.le_refl _) _
  have I0 : Blk (w.alloc (.cells #[.string nm1, .int .i64 W1, .int .i64 D1, .int .i64 S1, .slice acs1 cs1.length ccs1, .int .i64 R1, .slice aks1 ks1.length cks1, .slice ats1 ts1.length cts1, .slice aes1 es1.length ces1] 73)) w.heap.size #[.string nm1, .int .i64 W1, .int .i64 D1, .int .i64 S1, .slice acs1 cs1.length ccs1, .int .i64 R1, .slice aks1 ks1.length cks1, .slice ats1 ts1.length cts1, .slice aes1 es1.length ces1] 73 := Blk.new _ _ _
  have H0 := Lib.hid (And.intro B0 I0)
  clear B0 I0
  obtain ⟨bb, hbb⟩ : ∃ z, savedV (⟨nm1, W1, D1, S1, cs1, R1, ks1, ts1, es1⟩ : Sv) = z := ⟨_, rfl⟩
  obtain ⟨tt, htt⟩ : ∃ z, stoT (⟨nm1, W1, D1, S1, cs1, R1, ks1, ts1, es1⟩ : Sv) = z := ⟨_, rfl⟩
  have HTT := Lib.hid htt
  clear htt
  have hnt : (tt.toList == tt.toList) = true := by simp
  have hnt2 : (tt.toList != tt.toList) = false := by simp
  have HBB := Lib.hid hbb
  clear hbb
  have hnb : (bb ^^ bb) = false := by simp
  have hnb2 : (bb != bb) = false := by simp
  go_enter Try.func10, Try.ntmps10
  go_wp2_with fail
  generalize w.alloc (.cells #[.string nm1, .int .i64 W1, .int .i64 D1, .int .i64 S1, .slice acs1 cs1.length ccs1, .int .i64 R1, .slice aks1 ks1.length cks1, .slice ats1 ts1.length cts1, .slice aes1 es1.length ces1] 73) = w0 at H0 ⊢
  have B0 := Lib.hid H0.out.1
  have I0 := Lib.hid H0.out.2
  clear H0
  refine (szSaved_any (hcs1.below B0.out (Nat.le_refl _)) (hks1.below B0.out (Nat.le_refl _)) (hts1.below B0.out (Nat.le_refl _)) (hes1.below B0.out (Nat.le_refl _)) hnm (by omega) (by omega)).mono ?_
  rintro e w1 ⟨rfl, hb0⟩
  have B1 := Lib.hid (B0.out.trans (hb0.mono B0.out.size))
  have I1 := Lib.hid (I0.out.below hb0 (Nat.le_refl _))
  clear hb0 B0 I0
  by_cases g1 : (1048576 : Int) < (nm1.size : Int) + ((cs1.length : Int)) + ((ks1.length : Int) + (ts1.length : Int) + (es1.length : Int))
  · rw [room_no g1]
    go_wp2
    go_ret
    exact ⟨rfl, B1.out⟩
  rw [room_yes g1]
  have ncs1 : cs1.length ≤ 1048576 := by omega
  have nks1 : ks1.length ≤ 1048576 := by omega
  have nts1 : ts1.length ≤ 1048576 := by omega
  have nes1 : es1.length ≤ 1048576 := by omega
  have i0 := I1.out.cell (i := 0) (v := .string nm1) rfl
  have i1 := I1.out.cell (i := 1) (v := .int .i64 W1) rfl
  have i2 := I1.out.cell (i := 2) (v := .int .i64 D1) rfl
  have i3 := I1.out.cell (i := 3) (v := .int .i64 S1) rfl
  have i4 := I1.out.cell (i := 4) (v := .slice acs1 cs1.length ccs1) rfl
  have i5 := I1.out.cell (i := 5) (v := .int .i64 R1) rfl
  have i6 := I1.out.cell (i := 6) (v := .slice aks1 ks1.length cks1) rfl
  have i7 := I1.out.cell (i := 7) (v := .slice ats1 ts1.length cts1) rfl
  have i8 := I1.out.cell (i := 8) (v := .slice aes1 es1.length ces1) rfl
  go_wp2_with fail
  refine (toSaved_any (hcs1.below B1.out (Nat.le_refl _)) (hks1.below B1.out (Nat.le_refl _)) (hts1.below B1.out (Nat.le_refl _)) (hes1.below B1.out (Nat.le_refl _)) ncs1 nks1 nts1 nes1).mono ?_
  rintro e w2 ⟨pcs1x, qcs1x, pks1x, qks1x, pts1x, qts1x, pes1x, qes1x, rfl, ocs1x, oks1x, ots1x, oes1x, hb2⟩
  have B2 := Lib.hid (B1.out.trans (hb2.mono B1.out.size))
  have I2 := Lib.hid (I1.out.below hb2 (Nat.le_refl _))
  clear i0 i1 i2 i3 i4 i5 i6 i7 i8
  clear hb2 I1 B1
  go_wp2_with fail
  refine (specStoreSaved_any (h := ⟨pcs1x, qcs1x, pks1x, qks1x, pts1x, qts1x, pes1x, qes1x⟩) (s := (⟨nm1, W1, D1, S1, cs1, R1, ks1, ts1, es1⟩ : Sv)) ⟨hnm, ocs1x.rd, oks1x.rd, ots1x.rd, oes1x.rd⟩).mono ?_
  rintro e w3 ⟨rfl, hb3⟩
  rw [HBB.out, HTT.out]
  have B3 := Lib.hid (B2.out.trans (hb3.mono B2.out.size))
  have I3 := Lib.hid (I2.out.below hb3 (Nat.le_refl _))
  clear ocs1x oks1x ots1x oes1x hb3 I2 B2
  have i0 := I3.out.cell (i := 0) (v := .string nm1) rfl
  have i1 := I3.out.cell (i := 1) (v := .int .i64 W1) rfl
  have i2 := I3.out.cell (i := 2) (v := .int .i64 D1) rfl
  have i3 := I3.out.cell (i := 3) (v := .int .i64 S1) rfl
  have i4 := I3.out.cell (i := 4) (v := .slice acs1 cs1.length ccs1) rfl
  have i5 := I3.out.cell (i := 5) (v := .int .i64 R1) rfl
  have i6 := I3.out.cell (i := 6) (v := .slice aks1 ks1.length cks1) rfl
  have i7 := I3.out.cell (i := 7) (v := .slice ats1 ts1.length cts1) rfl
  have i8 := I3.out.cell (i := 8) (v := .slice aes1 es1.length ces1) rfl
  go_wp2_with fail
  refine (toSaved_any (hcs1.below B3.out (Nat.le_refl _)) (hks1.below B3.out (Nat.le_refl _)) (hts1.below B3.out (Nat.le_refl _)) (hes1.below B3.out (Nat.le_refl _)) ncs1 nks1 nts1 nes1).mono ?_
  rintro e w7 ⟨pcs1y, qcs1y, pks1y, qks1y, pts1y, qts1y, pes1y, qes1y, rfl, ocs1y, oks1y, ots1y, oes1y, hb7⟩
  have B7 := Lib.hid (B3.out.trans (hb7.mono B3.out.size))
  have I7 := Lib.hid (I3.out.below hb7 (Nat.le_refl _))
  clear i0 i1 i2 i3 i4 i5 i6 i7 i8
  have X8 : Hid (Blk (w7.alloc (.cells #[.string nm1, .int .i64 W1, .int .i64 D1, .int .i64 S1, .slice pcs1y cs1.length qcs1y, .int .i64 R1, .slice pks1y ks1.length qks1y, .slice pts1y ts1.length qts1y, .slice pes1y es1.length qes1y] 79)) w7.heap.size #[.string nm1, .int .i64 W1, .int .i64 D1, .int .i64 S1, .slice pcs1y cs1.length qcs1y, .int .i64 R1, .slice pks1y ks1.length qks1y, .slice pts1y ts1.length qts1y, .slice pes1y es1.length qes1y] 79) := Blk.new _ _ _
  have B8 : Hid (Below w.heap.size w (w7.alloc (.cells #[.string nm1, .int .i64 W1, .int .i64 D1, .int .i64 S1, .slice pcs1y cs1.length qcs1y, .int .i64 R1, .slice pks1y ks1.length qks1y, .slice pts1y ts1.length qts1y, .slice pes1y es1.length qes1y] 79))) := B7.out.alloc B7.out.size _
  have I8 := Lib.hid (I7.out.alloc (.cells #[.string nm1, .int .i64 W1, .int .i64 D1, .int .i64 S1, .slice pcs1y cs1.length qcs1y, .int .i64 R1, .slice pks1y ks1.length qks1y, .slice pts1y ts1.length qts1y, .slice pes1y es1.length qes1y] 79))
  have Xcs := Lib.hid (ocs1y.alloc (.cells #[.string nm1, .int .i64 W1, .int .i64 D1, .int .i64 S1, .slice pcs1y cs1.length qcs1y, .int .i64 R1, .slice pks1y ks1.length qks1y, .slice pts1y ts1.length qts1y, .slice pes1y es1.length qes1y] 79)).rd
  have Xks := Lib.hid (oks1y.alloc (.cells #[.string nm1, .int .i64 W1, .int .i64 D1, .int .i64 S1, .slice pcs1y cs1.length qcs1y, .int .i64 R1, .slice pks1y ks1.length qks1y, .slice pts1y ts1.length qts1y, .slice pes1y es1.length qes1y] 79)).rd
  have Xts := Lib.hid (ots1y.alloc (.cells #[.string nm1, .int .i64 W1, .int .i64 D1, .int .i64 S1, .slice pcs1y cs1.length qcs1y, .int .i64 R1, .slice pks1y ks1.length qks1y, .slice pts1y ts1.length qts1y, .slice pes1y es1.length qes1y] 79)).rd
  have Xes := Lib.hid (oes1y.alloc (.cells #[.string nm1, .int .i64 W1, .int .i64 D1, .int .i64 S1, .slice pcs1y cs1.length qcs1y, .int .i64 R1, .slice pks1y ks1.length qks1y, .slice pts1y ts1.length qts1y, .slice pes1y es1.length qes1y] 79)).rd
  clear ocs1y oks1y ots1y oes1y hb7 I7 B7 I3 B3
  go_wp2_with fail
  generalize w7.alloc (.cells #[.string nm1, .int .i64 W1, .int .i64 D1, .int .i64 S1, .slice pcs1y cs1.length qcs1y, .int .i64 R1, .slice pks1y ks1.length qks1y, .slice pts1y ts1.length qts1y, .slice pes1y es1.length qes1y] 79) = w8 at X8 B8 I8 Xcs Xks Xts Xes ⊢
  refine (storeSaved_any (h := ⟨pcs1y, qcs1y, pks1y, qks1y, pts1y, qts1y, pes1y, qes1y⟩) (s := (⟨nm1, W1, D1, S1, cs1, R1, ks1, ts1, es1⟩ : Sv)) ⟨hnm, Xcs.out, Xks.out, Xts.out, Xes.out⟩ nks1).mono ?_
  rintro e w9 ⟨rfl, hb9⟩
  rw [HBB.out, HTT.out]
  have B9 := Lib.hid (B8.out.trans (hb9.mono B8.out.size))
  have I9 := Lib.hid (I8.out.below hb9 (Nat.le_refl _))
  have X9 := Lib.hid (X8.out.below hb9 (Nat.le_refl _))
  replace Xcs := Lib.hid (Xcs.out.below hb9 (Nat.le_refl _))
  replace Xks := Lib.hid (Xks.out.below hb9 (Nat.le_refl _))
  replace Xts := Lib.hid (Xts.out.below hb9 (Nat.le_refl _))
  replace Xes := Lib.hid (Xes.out.below hb9 (Nat.le_refl _))
  clear hb9 I8 B8 X8
  go_wp2_with fail
  have hbd9 : Below w9.heap.size w9 w9.drew := below_of_drewN w9 1 _
  have B10 := Lib.hid (B9.out.trans (hbd9.mono B9.out.size))
  have I10 := Lib.hid I9.out.drew
  have X10 := Lib.hid X9.out.drew
  replace Xcs := Lib.hid (Xcs.out.below hbd9 (Nat.le_refl _))
  replace Xks := Lib.hid (Xks.out.below hbd9 (Nat.le_refl _))
  replace Xts := Lib.hid (Xts.out.below hbd9 (Nat.le_refl _))
  replace Xes := Lib.hid (Xes.out.below hbd9 (Nat.le_refl _))
  have k9 := Lib.hid (And.intro (I9.out.cell (i := 0) (v := .string nm1) rfl) (And.intro (I9.out.cell (i := 1) (v := .int .i64 W1) rfl) (And.intro (I9.out.cell (i := 2) (v := .int .i64 D1) rfl) (And.intro (I9.out.cell (i := 3) (v := .int .i64 S1) rfl) (And.intro (I9.out.cell (i := 4) (v := .slice acs1 cs1.length ccs1) rfl) (And.intro (I9.out.cell (i := 5) (v := .int .i64 R1) rfl) (And.intro (I9.out.cell (i := 6) (v := .slice aks1 ks1.length cks1) rfl) (And.intro (I9.out.cell (i := 7) (v := .slice ats1 ts1.length cts1) rfl) (And.intro (I9.out.cell (i := 8) (v := .slice aes1 es1.length ces1) rfl) (And.intro (X9.out.cell (i := 0) (v := .string nm1) rfl) (And.intro (X9.out.cell (i := 1) (v := .int .i64 W1) rfl) (And.intro (X9.out.cell (i := 2) (v := .int .i64 D1) rfl) (And.intro (X9.out.cell (i := 3) (v := .int .i64 S1) rfl) (And.intro (X9.out.cell (i := 4) (v := .slice pcs1y cs1.length qcs1y) rfl) (And.intro (X9.out.cell (i := 5) (v := .int .i64 R1) rfl) (And.intro (X9.out.cell (i := 6) (v := .slice pks1y ks1.length qks1y) rfl) (And.intro (X9.out.cell (i := 7) (v := .slice pts1y ts1.length qts1y) rfl) (X9.out.cell (i := 8) (v := .slice pes1y es1.length qes1y) rfl))))))))))))))))))
  go_region_held3 (fun w' => w'.cell? ⟨w.heap.size, 0, none⟩ = some (.string nm1) ∧ w'.cell? ⟨w.heap.size, 1, none⟩ = some (.int .i64 W1) ∧ w'.cell? ⟨w.heap.size, 2, none⟩ = some (.int .i64 D1) ∧ w'.cell? ⟨w.heap.size, 3, none⟩ = some (.int .i64 S1) ∧ w'.cell? ⟨w.heap.size, 4, none⟩ = some (.slice acs1 cs1.length ccs1) ∧ w'.cell? ⟨w.heap.size, 5, none⟩ = some (.int .i64 R1) ∧ w'.cell? ⟨w.heap.size, 6, none⟩ = some (.slice aks1 ks1.length cks1) ∧ w'.cell? ⟨w.heap.size, 7, none⟩ = some (.slice ats1 ts1.length cts1) ∧ w'.cell? ⟨w.heap.size, 8, none⟩ = some (.slice aes1 es1.length ces1) ∧ w'.cell? ⟨w7.heap.size, 0, none⟩ = some (.string nm1) ∧ w'.cell? ⟨w7.heap.size, 1, none⟩ = some (.int .i64 W1) ∧ w'.cell? ⟨w7.heap.size, 2, none⟩ = some (.int .i64 D1) ∧ w'.cell? ⟨w7.heap.size, 3, none⟩ = some (.int .i64 S1) ∧ w'.cell? ⟨w7.heap.size, 4, none⟩ = some (.slice pcs1y cs1.length qcs1y) ∧ w'.cell? ⟨w7.heap.size, 5, none⟩ = some (.int .i64 R1) ∧ w'.cell? ⟨w7.heap.size, 6, none⟩ = some (.slice pks1y ks1.length qks1y) ∧ w'.cell? ⟨w7.heap.size, 7, none⟩ = some (.slice pts1y ts1.length qts1y) ∧ w'.cell? ⟨w7.heap.size, 8, none⟩ = some (.slice pes1y es1.length qes1y))
      (first | (with_reducible exact k11.out) | (with_reducible exact k12.out) | exact k9.out)
      (first
        | (go_at_call 49; (with_reducible refine (toSaved_any (hcs1.below B10.out (Nat.le_refl _)) (hks1.below B10.out (Nat.le_refl _)) (hts1.below B10.out (Nat.le_refl _)) (hes1.below B10.out (Nat.le_refl _)) ncs1 nks1 nts1 nes1).mono ?_); rintro e w11 ⟨pcs1z, qcs1z, pks1z, qks1z, pts1z, qts1z, pes1z, qes1z, rfl, ocs1z, oks1z, ots1z, oes1z, hb11⟩; have B11 := Lib.hid (B10.out.trans (hb11.mono B10.out.size)); have I11 := Lib.hid (I10.out.below hb11 (Nat.le_refl _)); have X11 := Lib.hid (X10.out.below hb11 (Nat.le_refl _)); have k11 := Lib.hid (And.intro (I11.out.cell (i := 0) (v := .string nm1) rfl) (And.intro (I11.out.cell (i := 1) (v := .int .i64 W1) rfl) (And.intro (I11.out.cell (i := 2) (v := .int .i64 D1) rfl) (And.intro (I11.out.cell (i := 3) (v := .int .i64 S1) rfl) (And.intro (I11.out.cell (i := 4) (v := .slice acs1 cs1.length ccs1) rfl) (And.intro (I11.out.cell (i := 5) (v := .int .i64 R1) rfl) (And.intro (I11.out.cell (i := 6) (v := .slice aks1 ks1.length cks1) rfl) (And.intro (I11.out.cell (i := 7) (v := .slice ats1 ts1.length cts1) rfl) (And.intro (I11.out.cell (i := 8) (v := .slice aes1 es1.length ces1) rfl) (And.intro (X11.out.cell (i := 0) (v := .string nm1) rfl) (And.intro (X11.out.cell (i := 1) (v := .int .i64 W1) rfl) (And.intro (X11.out.cell (i := 2) (v := .int .i64 D1) rfl) (And.intro (X11.out.cell (i := 3) (v := .int .i64 S1) rfl) (And.intro (X11.out.cell (i := 4) (v := .slice pcs1y cs1.length qcs1y) rfl) (And.intro (X11.out.cell (i := 5) (v := .int .i64 R1) rfl) (And.intro (X11.out.cell (i := 6) (v := .slice pks1y ks1.length qks1y) rfl) (And.intro (X11.out.cell (i := 7) (v := .slice pts1y ts1.length qts1y) rfl) (X11.out.cell (i := 8) (v := .slice pes1y es1.length qes1y) rfl)))))))))))))))))))
        | (go_at_call 51; refine (eqSaved_same (Xcs.out.below hb11 (Nat.le_refl _)) ocs1z.rd (Xks.out.below hb11 (Nat.le_refl _)) oks1z.rd (Xts.out.below hb11 (Nat.le_refl _)) ots1z.rd (Xes.out.below hb11 (Nat.le_refl _)) oes1z.rd).mono ?_; rintro e w12 ⟨rfl, hb12⟩; have B12 := Lib.hid (B11.out.trans (hb12.mono B11.out.size)); have I12 := Lib.hid (I11.out.below hb12 (Nat.le_refl _)); have X12 := Lib.hid (X11.out.below hb12 (Nat.le_refl _)); have k12 := Lib.hid (And.intro (I12.out.cell (i := 0) (v := .string nm1) rfl) (And.intro (I12.out.cell (i := 1) (v := .int .i64 W1) rfl) (And.intro (I12.out.cell (i := 2) (v := .int .i64 D1) rfl) (And.intro (I12.out.cell (i := 3) (v := .int .i64 S1) rfl) (And.intro (I12.out.cell (i := 4) (v := .slice acs1 cs1.length ccs1) rfl) (And.intro (I12.out.cell (i := 5) (v := .int .i64 R1) rfl) (And.intro (I12.out.cell (i := 6) (v := .slice aks1 ks1.length cks1) rfl) (And.intro (I12.out.cell (i := 7) (v := .slice ats1 ts1.length cts1) rfl) (And.intro (I12.out.cell (i := 8) (v := .slice aes1 es1.length ces1) rfl) (And.intro (X12.out.cell (i := 0) (v := .string nm1) rfl) (And.intro (X12.out.cell (i := 1) (v := .int .i64 W1) rfl) (And.intro (X12.out.cell (i := 2) (v := .int .i64 D1) rfl) (And.intro (X12.out.cell (i := 3) (v := .int .i64 S1) rfl) (And.intro (X12.out.cell (i := 4) (v := .slice pcs1y cs1.length qcs1y) rfl) (And.intro (X12.out.cell (i := 5) (v := .int .i64 R1) rfl) (And.intro (X12.out.cell (i := 6) (v := .slice pks1y ks1.length qks1y) rfl) (And.intro (X12.out.cell (i := 7) (v := .slice pts1y ts1.length qts1y) rfl) (X12.out.cell (i := 8) (v := .slice pes1y es1.length qes1y) rfl))))))))))))))))))))
  go_wp2
  go_ret
  exact ⟨rfl, B12.out⟩

end Go.Proofs.Ytgkmmilmdhhleaa
