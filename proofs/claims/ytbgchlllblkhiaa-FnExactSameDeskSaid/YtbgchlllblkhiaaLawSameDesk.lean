/- The walk of the law FnExactSameDesk. -/
import Derived.Test.YtbgchlllblkhiaaSameDesk
import Derived.Test.YtbgchlllblkhiaaStDesk
import Derived.Deep.DrawnRows
namespace Go.Proofs.Ytbgchlllblkhiaa
open Go.RowKit
attribute [local go_sem ↓] Go.wp_at_zero Go.wp_at_succ

set_option maxRecDepth 100000 in
set_option maxHeartbeats 8000000 in
theorem lawSameDesk_walk {abs1 : Option Addr} {cbs1 : Nat} {bs1 : List Bool} {abs2 : Option Addr} {cbs2 : Nat} {bs2 : List Bool} {azs1 : Option Addr} {czs1 : Nat} {zs1 : List Int} {azs2 : Option Addr} {czs2 : Nat} {zs2 : List Int} {ats1 : Option Addr} {cts1 : Nat} {ts1 : List Int} {ats2 : Option Addr} {cts2 : Nat} {ts2 : List Int} {ass1 : Option Addr} {css1 : Nat} {ss1 : List Int} {ass2 : Option Addr} {css2 : Nat} {ss2 : List Int} {aks1 : Option Addr} {cks1 : Nat} {ks1 : List Int} {aks2 : Option Addr} {cks2 : Nat} {ks2 : List Int} {R1 R2 S1 S2 Z1 Z2 L1 L2 P1 P2 : Int} {w : World} (hbs1 : Rd (Value.bool) w abs1 cbs1 bs1) (hbs2 : Rd (Value.bool) w abs2 cbs2 bs2) (hzs1 : Rd (Value.int .i64) w azs1 czs1 zs1) (hzs2 : Rd (Value.int .i64) w azs2 czs2 zs2) (hts1 : Rd (Value.int .i64) w ats1 cts1 ts1) (hts2 : Rd (Value.int .i64) w ats2 cts2 ts2) (hss1 : Rd (Value.int .i64) w ass1 css1 ss1) (hss2 : Rd (Value.int .i64) w ass2 css2 ss2) (hks1 : Rd (Value.int .i64) w aks1 cks1 ks1) (hks2 : Rd (Value.int .i64) w aks2 cks2 ks2) :
    Calls Try.prog 14 #[.agg #[.int .i64 R1, .int .i64 S1, .slice abs1 bs1.length cbs1, .int .i64 Z1, .slice azs1 zs1.length czs1, .int .i64 L1, .int .i64 P1, .slice ats1 ts1.length cts1, .slice ass1 ss1.length css1, .slice aks1 ks1.length cks1], .agg #[.int .i64 R2, .int .i64 S2, .slice abs2 bs2.length cbs2, .int .i64 Z2, .slice azs2 zs2.length czs2, .int .i64 L2, .int .i64 P2, .slice ats2 ts2.length cts2, .slice ass2 ss2.length css2, .slice aks2 ks2.length cks2]] w fun e w' => e = .returned (.bool true) ∧ Below w.heap.size w w' := by
  have B0 : Below w.heap.size w ((w.alloc (.cells #[.int .i64 R1, .int .i64 S1, .slice abs1 bs1.length cbs1, .int .i64 Z1, .slice azs1 zs1.length czs1, .int .i64 L1, .int .i64 P1, .slice ats1 ts1.length cts1, .slice ass1 ss1.length css1, .slice aks1 ks1.length cks1] 85)).alloc (.cells #[.int .i64 R2, .int .i64 S2, .slice abs2 bs2.length cbs2, .int .i64 Z2, .slice azs2 zs2.length czs2, .int .i64 L2, .int .i64 P2, .slice ats2 ts2.length cts2, .slice ass2 ss2.length css2, .slice aks2 ks2.length cks2] 85)) := ((Below.refl _ _).alloc (Nat.le_refl _) _).alloc (by simp) _
  have I0 : Blk ((w.alloc (.cells #[.int .i64 R1, .int .i64 S1, .slice abs1 bs1.length cbs1, .int .i64 Z1, .slice azs1 zs1.length czs1, .int .i64 L1, .int .i64 P1, .slice ats1 ts1.length cts1, .slice ass1 ss1.length css1, .slice aks1 ks1.length cks1] 85)).alloc (.cells #[.int .i64 R2, .int .i64 S2, .slice abs2 bs2.length cbs2, .int .i64 Z2, .slice azs2 zs2.length czs2, .int .i64 L2, .int .i64 P2, .slice ats2 ts2.length cts2, .slice ass2 ss2.length css2, .slice aks2 ks2.length cks2] 85)) w.heap.size #[.int .i64 R1, .int .i64 S1, .slice abs1 bs1.length cbs1, .int .i64 Z1, .slice azs1 zs1.length czs1, .int .i64 L1, .int .i64 P1, .slice ats1 ts1.length cts1, .slice ass1 ss1.length css1, .slice aks1 ks1.length cks1] 85 := (Blk.new _ _ _).alloc _
  have J0 : Blk ((w.alloc (.cells #[.int .i64 R1, .int .i64 S1, .slice abs1 bs1.length cbs1, .int .i64 Z1, .slice azs1 zs1.length czs1, .int .i64 L1, .int .i64 P1, .slice ats1 ts1.length cts1, .slice ass1 ss1.length css1, .slice aks1 ks1.length cks1] 85)).alloc (.cells #[.int .i64 R2, .int .i64 S2, .slice abs2 bs2.length cbs2, .int .i64 Z2, .slice azs2 zs2.length czs2, .int .i64 L2, .int .i64 P2, .slice ats2 ts2.length cts2, .slice ass2 ss2.length css2, .slice aks2 ks2.length cks2] 85)) (w.heap.size + 1) #[.int .i64 R2, .int .i64 S2, .slice abs2 bs2.length cbs2, .int .i64 Z2, .slice azs2 zs2.length czs2, .int .i64 L2, .int .i64 P2, .slice ats2 ts2.length cts2, .slice ass2 ss2.length css2, .slice aks2 ks2.length cks2] 85 := Blk.new' (by simp)
  have H0 := Lib.hid (And.intro B0 (And.intro I0 J0))
  clear B0 I0 J0
  obtain ⟨bb, hbb⟩ : ∃ z, sameDesk R1 R2 S1 S2 bs1 bs2 Z1 Z2 zs1 zs2 L1 L2 P1 P2 ts1 ts2 ss1 ss2 ks1 ks2 = z := ⟨_, rfl⟩
  have HBB := Lib.hid hbb
  clear hbb
  have hnb : (bb ^^ bb) = false := by simp
  have hnb2 : (bb != bb) = false := by simp
  go_enter Try.func14, Try.ntmps14
  go_wp2_with fail
  generalize (w.alloc (.cells #[.int .i64 R1, .int .i64 S1, .slice abs1 bs1.length cbs1, .int .i64 Z1, .slice azs1 zs1.length czs1, .int .i64 L1, .int .i64 P1, .slice ats1 ts1.length cts1, .slice ass1 ss1.length css1, .slice aks1 ks1.length cks1] 85)).alloc (.cells #[.int .i64 R2, .int .i64 S2, .slice abs2 bs2.length cbs2, .int .i64 Z2, .slice azs2 zs2.length czs2, .int .i64 L2, .int .i64 P2, .slice ats2 ts2.length cts2, .slice ass2 ss2.length css2, .slice aks2 ks2.length cks2] 85) = w0 at H0 ⊢
  have B0 := Lib.hid H0.out.1
  have I0 := Lib.hid H0.out.2.1
  have J0 := Lib.hid H0.out.2.2
  clear H0
  refine (szDesk_any (hbs1.below B0.out (Nat.le_refl _)) (hzs1.below B0.out (Nat.le_refl _)) (hts1.below B0.out (Nat.le_refl _)) (hss1.below B0.out (Nat.le_refl _)) (hks1.below B0.out (Nat.le_refl _)) (by omega) (by omega)).mono ?_
  rintro e w1 ⟨rfl, hb0⟩
  have B1 := Lib.hid (B0.out.trans (hb0.mono B0.out.size))
  have I1 := Lib.hid (I0.out.below hb0 (Nat.le_refl _))
  have J1 := Lib.hid (J0.out.below hb0 (Nat.le_refl _))
  clear hb0 B0 I0 J0
  by_cases g1 : (1048576 : Int) < (bs1.length : Int) + (zs1.length : Int) + ((ts1.length : Int) + ss1.length) + (ks1.length : Int)
  · rw [room_no g1]
    go_wp2
    go_ret
    exact ⟨rfl, B1.out⟩
  rw [room_yes g1]
  have j0 := J1.out.cell (i := 0) (v := .int .i64 R2) rfl
  have j1 := J1.out.cell (i := 1) (v := .int .i64 S2) rfl
  have j2 := J1.out.cell (i := 2) (v := .slice abs2 bs2.length cbs2) rfl
  have j3 := J1.out.cell (i := 3) (v := .int .i64 Z2) rfl
  have j4 := J1.out.cell (i := 4) (v := .slice azs2 zs2.length czs2) rfl
  have j5 := J1.out.cell (i := 5) (v := .int .i64 L2) rfl
  have j6 := J1.out.cell (i := 6) (v := .int .i64 P2) rfl
  have j7 := J1.out.cell (i := 7) (v := .slice ats2 ts2.length cts2) rfl
  have j8 := J1.out.cell (i := 8) (v := .slice ass2 ss2.length css2) rfl
  have j9 := J1.out.cell (i := 9) (v := .slice aks2 ks2.length cks2) rfl
  go_wp2_with fail
  refine (szDesk_any (hbs2.below B1.out (Nat.le_refl _)) (hzs2.below B1.out (Nat.le_refl _)) (hts2.below B1.out (Nat.le_refl _)) (hss2.below B1.out (Nat.le_refl _)) (hks2.below B1.out (Nat.le_refl _)) (by omega) (by omega)).mono ?_
  rintro e w2 ⟨rfl, hb1⟩
  have B2 := Lib.hid (B1.out.trans (hb1.mono B1.out.size))
  have I2 := Lib.hid (I1.out.below hb1 (Nat.le_refl _))
  have J2 := Lib.hid (J1.out.below hb1 (Nat.le_refl _))
  clear hb1 B1 I1 J1
  clear j0 j1 j2 j3 j4 j5 j6 j7 j8 j9
  by_cases g2 : 1048576 - ((bs1.length : Int) + (zs1.length : Int) + ((ts1.length : Int) + ss1.length) + (ks1.length : Int)) < (bs2.length : Int) + (zs2.length : Int) + ((ts2.length : Int) + ss2.length) + (ks2.length : Int)
  · rw [room_no g2]
    go_wp2
    go_ret
    exact ⟨rfl, B2.out⟩
  rw [room_yes g2]
  have nbs1 : bs1.length ≤ 1048576 := by omega
  have nzs1 : zs1.length ≤ 1048576 := by omega
  have nts1 : ts1.length ≤ 1048576 := by omega
  have nss1 : ss1.length ≤ 1048576 := by omega
  have nks1 : ks1.length ≤ 1048576 := by omega
  have nbs2 : bs2.length ≤ 1048576 := by omega
  have nzs2 : zs2.length ≤ 1048576 := by omega
  have nts2 : ts2.length ≤ 1048576 := by omega
  have nss2 : ss2.length ≤ 1048576 := by omega
  have nks2 : ks2.length ≤ 1048576 := by omega
  go_wp2_with fail
  have hbd2 : Below w2.heap.size w2 w2.drew := below_of_drewN w2 1 _
  have B3 := Lib.hid (B2.out.trans (hbd2.mono B2.out.size))
  have I3 := Lib.hid I2.out.drew
  have J3 := Lib.hid J2.out.drew
  have k0 := Lib.hid (And.intro (I2.out.cell (i := 0) (v := .int .i64 R1) rfl) (And.intro (I2.out.cell (i := 1) (v := .int .i64 S1) rfl) (And.intro (I2.out.cell (i := 2) (v := .slice abs1 bs1.length cbs1) rfl) (And.intro (I2.out.cell (i := 3) (v := .int .i64 Z1) rfl) (And.intro (I2.out.cell (i := 4) (v := .slice azs1 zs1.length czs1) rfl) (And.intro (I2.out.cell (i := 5) (v := .int .i64 L1) rfl) (And.intro (I2.out.cell (i := 6) (v := .int .i64 P1) rfl) (And.intro (I2.out.cell (i := 7) (v := .slice ats1 ts1.length cts1) rfl) (And.intro (I2.out.cell (i := 8) (v := .slice ass1 ss1.length css1) rfl) (And.intro (I2.out.cell (i := 9) (v := .slice aks1 ks1.length cks1) rfl) (And.intro (J2.out.cell (i := 0) (v := .int .i64 R2) rfl) (And.intro (J2.out.cell (i := 1) (v := .int .i64 S2) rfl) (And.intro (J2.out.cell (i := 2) (v := .slice abs2 bs2.length cbs2) rfl) (And.intro (J2.out.cell (i := 3) (v := .int .i64 Z2) rfl) (And.intro (J2.out.cell (i := 4) (v := .slice azs2 zs2.length czs2) rfl) (And.intro (J2.out.cell (i := 5) (v := .int .i64 L2) rfl) (And.intro (J2.out.cell (i := 6) (v := .int .i64 P2) rfl) (And.intro (J2.out.cell (i := 7) (v := .slice ats2 ts2.length cts2) rfl) (And.intro (J2.out.cell (i := 8) (v := .slice ass2 ss2.length css2) rfl) (J2.out.cell (i := 9) (v := .slice aks2 ks2.length cks2) rfl))))))))))))))))))))
  go_region_held3 (fun w' => w'.cell? ⟨w.heap.size, 0, none⟩ = some (.int .i64 R1) ∧ w'.cell? ⟨w.heap.size, 1, none⟩ = some (.int .i64 S1) ∧ w'.cell? ⟨w.heap.size, 2, none⟩ = some (.slice abs1 bs1.length cbs1) ∧ w'.cell? ⟨w.heap.size, 3, none⟩ = some (.int .i64 Z1) ∧ w'.cell? ⟨w.heap.size, 4, none⟩ = some (.slice azs1 zs1.length czs1) ∧ w'.cell? ⟨w.heap.size, 5, none⟩ = some (.int .i64 L1) ∧ w'.cell? ⟨w.heap.size, 6, none⟩ = some (.int .i64 P1) ∧ w'.cell? ⟨w.heap.size, 7, none⟩ = some (.slice ats1 ts1.length cts1) ∧ w'.cell? ⟨w.heap.size, 8, none⟩ = some (.slice ass1 ss1.length css1) ∧ w'.cell? ⟨w.heap.size, 9, none⟩ = some (.slice aks1 ks1.length cks1) ∧ w'.cell? ⟨w.heap.size + 1, 0, none⟩ = some (.int .i64 R2) ∧ w'.cell? ⟨w.heap.size + 1, 1, none⟩ = some (.int .i64 S2) ∧ w'.cell? ⟨w.heap.size + 1, 2, none⟩ = some (.slice abs2 bs2.length cbs2) ∧ w'.cell? ⟨w.heap.size + 1, 3, none⟩ = some (.int .i64 Z2) ∧ w'.cell? ⟨w.heap.size + 1, 4, none⟩ = some (.slice azs2 zs2.length czs2) ∧ w'.cell? ⟨w.heap.size + 1, 5, none⟩ = some (.int .i64 L2) ∧ w'.cell? ⟨w.heap.size + 1, 6, none⟩ = some (.int .i64 P2) ∧ w'.cell? ⟨w.heap.size + 1, 7, none⟩ = some (.slice ats2 ts2.length cts2) ∧ w'.cell? ⟨w.heap.size + 1, 8, none⟩ = some (.slice ass2 ss2.length css2) ∧ w'.cell? ⟨w.heap.size + 1, 9, none⟩ = some (.slice aks2 ks2.length cks2))
      (first | (with_reducible exact k4.out) | (with_reducible exact k5.out) | (with_reducible exact k6.out) | exact k0.out)
      (first
        | (go_at_call 60; (with_reducible refine (toDesk_any (hbs1.below B3.out (Nat.le_refl _)) (hzs1.below B3.out (Nat.le_refl _)) (hts1.below B3.out (Nat.le_refl _)) (hss1.below B3.out (Nat.le_refl _)) (hks1.below B3.out (Nat.le_refl _)) nbs1 nzs1 nts1 nss1 nks1).mono ?_); rintro e w4 ⟨pbs1x, qbs1x, pzs1x, qzs1x, pts1x, qts1x, pss1x, qss1x, pks1x, qks1x, rfl, obs1x, ozs1x, ots1x, oss1x, oks1x, hb4⟩; have B4 := Lib.hid (B3.out.trans (hb4.mono B3.out.size)); have I4 := Lib.hid (I3.out.below hb4 (Nat.le_refl _)); have J4 := Lib.hid (J3.out.below hb4 (Nat.le_refl _)); have k4 := Lib.hid (And.intro (I4.out.cell (i := 0) (v := .int .i64 R1) rfl) (And.intro (I4.out.cell (i := 1) (v := .int .i64 S1) rfl) (And.intro (I4.out.cell (i := 2) (v := .slice abs1 bs1.length cbs1) rfl) (And.intro (I4.out.cell (i := 3) (v := .int .i64 Z1) rfl) (And.intro (I4.out.cell (i := 4) (v := .slice azs1 zs1.length czs1) rfl) (And.intro (I4.out.cell (i := 5) (v := .int .i64 L1) rfl) (And.intro (I4.out.cell (i := 6) (v := .int .i64 P1) rfl) (And.intro (I4.out.cell (i := 7) (v := .slice ats1 ts1.length cts1) rfl) (And.intro (I4.out.cell (i := 8) (v := .slice ass1 ss1.length css1) rfl) (And.intro (I4.out.cell (i := 9) (v := .slice aks1 ks1.length cks1) rfl) (And.intro (J4.out.cell (i := 0) (v := .int .i64 R2) rfl) (And.intro (J4.out.cell (i := 1) (v := .int .i64 S2) rfl) (And.intro (J4.out.cell (i := 2) (v := .slice abs2 bs2.length cbs2) rfl) (And.intro (J4.out.cell (i := 3) (v := .int .i64 Z2) rfl) (And.intro (J4.out.cell (i := 4) (v := .slice azs2 zs2.length czs2) rfl) (And.intro (J4.out.cell (i := 5) (v := .int .i64 L2) rfl) (And.intro (J4.out.cell (i := 6) (v := .int .i64 P2) rfl) (And.intro (J4.out.cell (i := 7) (v := .slice ats2 ts2.length cts2) rfl) (And.intro (J4.out.cell (i := 8) (v := .slice ass2 ss2.length css2) rfl) (J4.out.cell (i := 9) (v := .slice aks2 ks2.length cks2) rfl)))))))))))))))))))))
        | (go_at_call 60; (with_reducible refine (toDesk_any (hbs2.below B4.out (Nat.le_refl _)) (hzs2.below B4.out (Nat.le_refl _)) (hts2.below B4.out (Nat.le_refl _)) (hss2.below B4.out (Nat.le_refl _)) (hks2.below B4.out (Nat.le_refl _)) nbs2 nzs2 nts2 nss2 nks2).mono ?_); rintro e w5 ⟨pbs2x, qbs2x, pzs2x, qzs2x, pts2x, qts2x, pss2x, qss2x, pks2x, qks2x, rfl, obs2x, ozs2x, ots2x, oss2x, oks2x, hb5⟩; have B5 := Lib.hid (B4.out.trans (hb5.mono B4.out.size)); have I5 := Lib.hid (I4.out.below hb5 (Nat.le_refl _)); have J5 := Lib.hid (J4.out.below hb5 (Nat.le_refl _)); have k5 := Lib.hid (And.intro (I5.out.cell (i := 0) (v := .int .i64 R1) rfl) (And.intro (I5.out.cell (i := 1) (v := .int .i64 S1) rfl) (And.intro (I5.out.cell (i := 2) (v := .slice abs1 bs1.length cbs1) rfl) (And.intro (I5.out.cell (i := 3) (v := .int .i64 Z1) rfl) (And.intro (I5.out.cell (i := 4) (v := .slice azs1 zs1.length czs1) rfl) (And.intro (I5.out.cell (i := 5) (v := .int .i64 L1) rfl) (And.intro (I5.out.cell (i := 6) (v := .int .i64 P1) rfl) (And.intro (I5.out.cell (i := 7) (v := .slice ats1 ts1.length cts1) rfl) (And.intro (I5.out.cell (i := 8) (v := .slice ass1 ss1.length css1) rfl) (And.intro (I5.out.cell (i := 9) (v := .slice aks1 ks1.length cks1) rfl) (And.intro (J5.out.cell (i := 0) (v := .int .i64 R2) rfl) (And.intro (J5.out.cell (i := 1) (v := .int .i64 S2) rfl) (And.intro (J5.out.cell (i := 2) (v := .slice abs2 bs2.length cbs2) rfl) (And.intro (J5.out.cell (i := 3) (v := .int .i64 Z2) rfl) (And.intro (J5.out.cell (i := 4) (v := .slice azs2 zs2.length czs2) rfl) (And.intro (J5.out.cell (i := 5) (v := .int .i64 L2) rfl) (And.intro (J5.out.cell (i := 6) (v := .int .i64 P2) rfl) (And.intro (J5.out.cell (i := 7) (v := .slice ats2 ts2.length cts2) rfl) (And.intro (J5.out.cell (i := 8) (v := .slice ass2 ss2.length css2) rfl) (J5.out.cell (i := 9) (v := .slice aks2 ks2.length cks2) rfl)))))))))))))))))))))
        | (go_at_call 59; refine (specSameDesk_any (obs1x.rd.below hb5 (Nat.le_refl _)) obs2x.rd (ozs1x.rd.below hb5 (Nat.le_refl _)) ozs2x.rd (ots1x.rd.below hb5 (Nat.le_refl _)) ots2x.rd (oss1x.rd.below hb5 (Nat.le_refl _)) oss2x.rd (oks1x.rd.below hb5 (Nat.le_refl _)) oks2x.rd).mono ?_; rintro e w6 ⟨rfl, hb6⟩; have B6 := Lib.hid (B5.out.trans (hb6.mono B5.out.size)); have I6 := Lib.hid (I5.out.below hb6 (Nat.le_refl _)); have J6 := Lib.hid (J5.out.below hb6 (Nat.le_refl _)); have k6 := Lib.hid (And.intro (I6.out.cell (i := 0) (v := .int .i64 R1) rfl) (And.intro (I6.out.cell (i := 1) (v := .int .i64 S1) rfl) (And.intro (I6.out.cell (i := 2) (v := .slice abs1 bs1.length cbs1) rfl) (And.intro (I6.out.cell (i := 3) (v := .int .i64 Z1) rfl) (And.intro (I6.out.cell (i := 4) (v := .slice azs1 zs1.length czs1) rfl) (And.intro (I6.out.cell (i := 5) (v := .int .i64 L1) rfl) (And.intro (I6.out.cell (i := 6) (v := .int .i64 P1) rfl) (And.intro (I6.out.cell (i := 7) (v := .slice ats1 ts1.length cts1) rfl) (And.intro (I6.out.cell (i := 8) (v := .slice ass1 ss1.length css1) rfl) (And.intro (I6.out.cell (i := 9) (v := .slice aks1 ks1.length cks1) rfl) (And.intro (J6.out.cell (i := 0) (v := .int .i64 R2) rfl) (And.intro (J6.out.cell (i := 1) (v := .int .i64 S2) rfl) (And.intro (J6.out.cell (i := 2) (v := .slice abs2 bs2.length cbs2) rfl) (And.intro (J6.out.cell (i := 3) (v := .int .i64 Z2) rfl) (And.intro (J6.out.cell (i := 4) (v := .slice azs2 zs2.length czs2) rfl) (And.intro (J6.out.cell (i := 5) (v := .int .i64 L2) rfl) (And.intro (J6.out.cell (i := 6) (v := .int .i64 P2) rfl) (And.intro (J6.out.cell (i := 7) (v := .slice ats2 ts2.length cts2) rfl) (And.intro (J6.out.cell (i := 8) (v := .slice ass2 ss2.length css2) rfl) (J6.out.cell (i := 9) (v := .slice aks2 ks2.length cks2) rfl))))))))))))))))))))))
  clear obs1x obs2x ozs1x ozs2x ots1x ots2x oss1x oss2x oks1x oks2x hb4 hb5 hb6 k0 k4 k5 k6 I2 J2 B2 hbd2 I3 J3 B3 I4 J4 B4 I5 J5 B5
  rw [HBB.out]
  have i0 := I6.out.cell (i := 0) (v := .int .i64 R1) rfl
  have i1 := I6.out.cell (i := 1) (v := .int .i64 S1) rfl
  have i2 := I6.out.cell (i := 2) (v := .slice abs1 bs1.length cbs1) rfl
  have i3 := I6.out.cell (i := 3) (v := .int .i64 Z1) rfl
  have i4 := I6.out.cell (i := 4) (v := .slice azs1 zs1.length czs1) rfl
  have i5 := I6.out.cell (i := 5) (v := .int .i64 L1) rfl
  have i6 := I6.out.cell (i := 6) (v := .int .i64 P1) rfl
  have i7 := I6.out.cell (i := 7) (v := .slice ats1 ts1.length cts1) rfl
  have i8 := I6.out.cell (i := 8) (v := .slice ass1 ss1.length css1) rfl
  have i9 := I6.out.cell (i := 9) (v := .slice aks1 ks1.length cks1) rfl
  go_wp2_with fail
  refine (toDesk_any (hbs1.below B6.out (Nat.le_refl _)) (hzs1.below B6.out (Nat.le_refl _)) (hts1.below B6.out (Nat.le_refl _)) (hss1.below B6.out (Nat.le_refl _)) (hks1.below B6.out (Nat.le_refl _)) nbs1 nzs1 nts1 nss1 nks1).mono ?_
  rintro e w7 ⟨pbs1y, qbs1y, pzs1y, qzs1y, pts1y, qts1y, pss1y, qss1y, pks1y, qks1y, rfl, obs1y, ozs1y, ots1y, oss1y, oks1y, hb7⟩
  have B7 := Lib.hid (B6.out.trans (hb7.mono B6.out.size))
  have I7 := Lib.hid (I6.out.below hb7 (Nat.le_refl _))
  have J7 := Lib.hid (J6.out.below hb7 (Nat.le_refl _))
  clear i0 i1 i2 i3 i4 i5 i6 i7 i8 i9
  have X8 : Hid (Blk (w7.alloc (.cells #[.int .i64 R1, .int .i64 S1, .slice pbs1y bs1.length qbs1y, .int .i64 Z1, .slice pzs1y zs1.length qzs1y, .int .i64 L1, .int .i64 P1, .slice pts1y ts1.length qts1y, .slice pss1y ss1.length qss1y, .slice pks1y ks1.length qks1y] 91)) w7.heap.size #[.int .i64 R1, .int .i64 S1, .slice pbs1y bs1.length qbs1y, .int .i64 Z1, .slice pzs1y zs1.length qzs1y, .int .i64 L1, .int .i64 P1, .slice pts1y ts1.length qts1y, .slice pss1y ss1.length qss1y, .slice pks1y ks1.length qks1y] 91) := Blk.new _ _ _
  have B8 : Hid (Below w.heap.size w (w7.alloc (.cells #[.int .i64 R1, .int .i64 S1, .slice pbs1y bs1.length qbs1y, .int .i64 Z1, .slice pzs1y zs1.length qzs1y, .int .i64 L1, .int .i64 P1, .slice pts1y ts1.length qts1y, .slice pss1y ss1.length qss1y, .slice pks1y ks1.length qks1y] 91))) := B7.out.alloc B7.out.size _
  have I8 := Lib.hid (I7.out.alloc (.cells #[.int .i64 R1, .int .i64 S1, .slice pbs1y bs1.length qbs1y, .int .i64 Z1, .slice pzs1y zs1.length qzs1y, .int .i64 L1, .int .i64 P1, .slice pts1y ts1.length qts1y, .slice pss1y ss1.length qss1y, .slice pks1y ks1.length qks1y] 91))
  have J8 := Lib.hid (J7.out.alloc (.cells #[.int .i64 R1, .int .i64 S1, .slice pbs1y bs1.length qbs1y, .int .i64 Z1, .slice pzs1y zs1.length qzs1y, .int .i64 L1, .int .i64 P1, .slice pts1y ts1.length qts1y, .slice pss1y ss1.length qss1y, .slice pks1y ks1.length qks1y] 91))
  have Xbs := Lib.hid (obs1y.alloc (.cells #[.int .i64 R1, .int .i64 S1, .slice pbs1y bs1.length qbs1y, .int .i64 Z1, .slice pzs1y zs1.length qzs1y, .int .i64 L1, .int .i64 P1, .slice pts1y ts1.length qts1y, .slice pss1y ss1.length qss1y, .slice pks1y ks1.length qks1y] 91)).rd
  have Xzs := Lib.hid (ozs1y.alloc (.cells #[.int .i64 R1, .int .i64 S1, .slice pbs1y bs1.length qbs1y, .int .i64 Z1, .slice pzs1y zs1.length qzs1y, .int .i64 L1, .int .i64 P1, .slice pts1y ts1.length qts1y, .slice pss1y ss1.length qss1y, .slice pks1y ks1.length qks1y] 91)).rd
  have Xts := Lib.hid (ots1y.alloc (.cells #[.int .i64 R1, .int .i64 S1, .slice pbs1y bs1.length qbs1y, .int .i64 Z1, .slice pzs1y zs1.length qzs1y, .int .i64 L1, .int .i64 P1, .slice pts1y ts1.length qts1y, .slice pss1y ss1.length qss1y, .slice pks1y ks1.length qks1y] 91)).rd
  have Xss := Lib.hid (oss1y.alloc (.cells #[.int .i64 R1, .int .i64 S1, .slice pbs1y bs1.length qbs1y, .int .i64 Z1, .slice pzs1y zs1.length qzs1y, .int .i64 L1, .int .i64 P1, .slice pts1y ts1.length qts1y, .slice pss1y ss1.length qss1y, .slice pks1y ks1.length qks1y] 91)).rd
  have Xks := Lib.hid (oks1y.alloc (.cells #[.int .i64 R1, .int .i64 S1, .slice pbs1y bs1.length qbs1y, .int .i64 Z1, .slice pzs1y zs1.length qzs1y, .int .i64 L1, .int .i64 P1, .slice pts1y ts1.length qts1y, .slice pss1y ss1.length qss1y, .slice pks1y ks1.length qks1y] 91)).rd
  have j0 := J8.out.cell (i := 0) (v := .int .i64 R2) rfl
  have j1 := J8.out.cell (i := 1) (v := .int .i64 S2) rfl
  have j2 := J8.out.cell (i := 2) (v := .slice abs2 bs2.length cbs2) rfl
  have j3 := J8.out.cell (i := 3) (v := .int .i64 Z2) rfl
  have j4 := J8.out.cell (i := 4) (v := .slice azs2 zs2.length czs2) rfl
  have j5 := J8.out.cell (i := 5) (v := .int .i64 L2) rfl
  have j6 := J8.out.cell (i := 6) (v := .int .i64 P2) rfl
  have j7 := J8.out.cell (i := 7) (v := .slice ats2 ts2.length cts2) rfl
  have j8 := J8.out.cell (i := 8) (v := .slice ass2 ss2.length css2) rfl
  have j9 := J8.out.cell (i := 9) (v := .slice aks2 ks2.length cks2) rfl
  clear obs1y ozs1y ots1y oss1y oks1y hb7 I7 J7 B7 I6 J6 B6
  go_wp2_with fail
  generalize w7.alloc (.cells #[.int .i64 R1, .int .i64 S1, .slice pbs1y bs1.length qbs1y, .int .i64 Z1, .slice pzs1y zs1.length qzs1y, .int .i64 L1, .int .i64 P1, .slice pts1y ts1.length qts1y, .slice pss1y ss1.length qss1y, .slice pks1y ks1.length qks1y] 91) = w8 at X8 B8 I8 J8 Xbs Xzs Xts Xss Xks ⊢
  clear j0 j1 j2 j3 j4 j5 j6 j7 j8 j9
  refine (toDesk_any (hbs2.below B8.out (Nat.le_refl _)) (hzs2.below B8.out (Nat.le_refl _)) (hts2.below B8.out (Nat.le_refl _)) (hss2.below B8.out (Nat.le_refl _)) (hks2.below B8.out (Nat.le_refl _)) nbs2 nzs2 nts2 nss2 nks2).mono ?_
  rintro e w9 ⟨pbs2y, qbs2y, pzs2y, qzs2y, pts2y, qts2y, pss2y, qss2y, pks2y, qks2y, rfl, obs2y, ozs2y, ots2y, oss2y, oks2y, hb9⟩
  have B9 := Lib.hid (B8.out.trans (hb9.mono B8.out.size))
  have I9 := Lib.hid (I8.out.below hb9 (Nat.le_refl _))
  have J9 := Lib.hid (J8.out.below hb9 (Nat.le_refl _))
  have X9 := Lib.hid (X8.out.below hb9 (Nat.le_refl _))
  replace Xbs := Lib.hid (Xbs.out.below hb9 (Nat.le_refl _))
  replace Xzs := Lib.hid (Xzs.out.below hb9 (Nat.le_refl _))
  replace Xts := Lib.hid (Xts.out.below hb9 (Nat.le_refl _))
  replace Xss := Lib.hid (Xss.out.below hb9 (Nat.le_refl _))
  replace Xks := Lib.hid (Xks.out.below hb9 (Nat.le_refl _))
  have Y10 : Hid (Blk (w9.alloc (.cells #[.int .i64 R2, .int .i64 S2, .slice pbs2y bs2.length qbs2y, .int .i64 Z2, .slice pzs2y zs2.length qzs2y, .int .i64 L2, .int .i64 P2, .slice pts2y ts2.length qts2y, .slice pss2y ss2.length qss2y, .slice pks2y ks2.length qks2y] 91)) w9.heap.size #[.int .i64 R2, .int .i64 S2, .slice pbs2y bs2.length qbs2y, .int .i64 Z2, .slice pzs2y zs2.length qzs2y, .int .i64 L2, .int .i64 P2, .slice pts2y ts2.length qts2y, .slice pss2y ss2.length qss2y, .slice pks2y ks2.length qks2y] 91) := Blk.new _ _ _
  have B10 : Hid (Below w.heap.size w (w9.alloc (.cells #[.int .i64 R2, .int .i64 S2, .slice pbs2y bs2.length qbs2y, .int .i64 Z2, .slice pzs2y zs2.length qzs2y, .int .i64 L2, .int .i64 P2, .slice pts2y ts2.length qts2y, .slice pss2y ss2.length qss2y, .slice pks2y ks2.length qks2y] 91))) := B9.out.alloc B9.out.size _
  have I10 := Lib.hid (I9.out.alloc (.cells #[.int .i64 R2, .int .i64 S2, .slice pbs2y bs2.length qbs2y, .int .i64 Z2, .slice pzs2y zs2.length qzs2y, .int .i64 L2, .int .i64 P2, .slice pts2y ts2.length qts2y, .slice pss2y ss2.length qss2y, .slice pks2y ks2.length qks2y] 91))
  have J10 := Lib.hid (J9.out.alloc (.cells #[.int .i64 R2, .int .i64 S2, .slice pbs2y bs2.length qbs2y, .int .i64 Z2, .slice pzs2y zs2.length qzs2y, .int .i64 L2, .int .i64 P2, .slice pts2y ts2.length qts2y, .slice pss2y ss2.length qss2y, .slice pks2y ks2.length qks2y] 91))
  have X10 := Lib.hid (X9.out.alloc (.cells #[.int .i64 R2, .int .i64 S2, .slice pbs2y bs2.length qbs2y, .int .i64 Z2, .slice pzs2y zs2.length qzs2y, .int .i64 L2, .int .i64 P2, .slice pts2y ts2.length qts2y, .slice pss2y ss2.length qss2y, .slice pks2y ks2.length qks2y] 91))
  have Ybs := Lib.hid (obs2y.alloc (.cells #[.int .i64 R2, .int .i64 S2, .slice pbs2y bs2.length qbs2y, .int .i64 Z2, .slice pzs2y zs2.length qzs2y, .int .i64 L2, .int .i64 P2, .slice pts2y ts2.length qts2y, .slice pss2y ss2.length qss2y, .slice pks2y ks2.length qks2y] 91)).rd
  replace Xbs := Lib.hid (Xbs.out.below ((Below.refl _ _).alloc (Nat.le_refl _) (.cells #[.int .i64 R2, .int .i64 S2, .slice pbs2y bs2.length qbs2y, .int .i64 Z2, .slice pzs2y zs2.length qzs2y, .int .i64 L2, .int .i64 P2, .slice pts2y ts2.length qts2y, .slice pss2y ss2.length qss2y, .slice pks2y ks2.length qks2y] 91)) (Nat.le_refl _))
  have Yzs := Lib.hid (ozs2y.alloc (.cells #[.int .i64 R2, .int .i64 S2, .slice pbs2y bs2.length qbs2y, .int .i64 Z2, .slice pzs2y zs2.length qzs2y, .int .i64 L2, .int .i64 P2, .slice pts2y ts2.length qts2y, .slice pss2y ss2.length qss2y, .slice pks2y ks2.length qks2y] 91)).rd
  replace Xzs := Lib.hid (Xzs.out.below ((Below.refl _ _).alloc (Nat.le_refl _) (.cells #[.int .i64 R2, .int .i64 S2, .slice pbs2y bs2.length qbs2y, .int .i64 Z2, .slice pzs2y zs2.length qzs2y, .int .i64 L2, .int .i64 P2, .slice pts2y ts2.length qts2y, .slice pss2y ss2.length qss2y, .slice pks2y ks2.length qks2y] 91)) (Nat.le_refl _))
  have Yts := Lib.hid (ots2y.alloc (.cells #[.int .i64 R2, .int .i64 S2, .slice pbs2y bs2.length qbs2y, .int .i64 Z2, .slice pzs2y zs2.length qzs2y, .int .i64 L2, .int .i64 P2, .slice pts2y ts2.length qts2y, .slice pss2y ss2.length qss2y, .slice pks2y ks2.length qks2y] 91)).rd
  replace Xts := Lib.hid (Xts.out.below ((Below.refl _ _).alloc (Nat.le_refl _) (.cells #[.int .i64 R2, .int .i64 S2, .slice pbs2y bs2.length qbs2y, .int .i64 Z2, .slice pzs2y zs2.length qzs2y, .int .i64 L2, .int .i64 P2, .slice pts2y ts2.length qts2y, .slice pss2y ss2.length qss2y, .slice pks2y ks2.length qks2y] 91)) (Nat.le_refl _))
  have Yss := Lib.hid (oss2y.alloc (.cells #[.int .i64 R2, .int .i64 S2, .slice pbs2y bs2.length qbs2y, .int .i64 Z2, .slice pzs2y zs2.length qzs2y, .int .i64 L2, .int .i64 P2, .slice pts2y ts2.length qts2y, .slice pss2y ss2.length qss2y, .slice pks2y ks2.length qks2y] 91)).rd
  replace Xss := Lib.hid (Xss.out.below ((Below.refl _ _).alloc (Nat.le_refl _) (.cells #[.int .i64 R2, .int .i64 S2, .slice pbs2y bs2.length qbs2y, .int .i64 Z2, .slice pzs2y zs2.length qzs2y, .int .i64 L2, .int .i64 P2, .slice pts2y ts2.length qts2y, .slice pss2y ss2.length qss2y, .slice pks2y ks2.length qks2y] 91)) (Nat.le_refl _))
  have Yks := Lib.hid (oks2y.alloc (.cells #[.int .i64 R2, .int .i64 S2, .slice pbs2y bs2.length qbs2y, .int .i64 Z2, .slice pzs2y zs2.length qzs2y, .int .i64 L2, .int .i64 P2, .slice pts2y ts2.length qts2y, .slice pss2y ss2.length qss2y, .slice pks2y ks2.length qks2y] 91)).rd
  replace Xks := Lib.hid (Xks.out.below ((Below.refl _ _).alloc (Nat.le_refl _) (.cells #[.int .i64 R2, .int .i64 S2, .slice pbs2y bs2.length qbs2y, .int .i64 Z2, .slice pzs2y zs2.length qzs2y, .int .i64 L2, .int .i64 P2, .slice pts2y ts2.length qts2y, .slice pss2y ss2.length qss2y, .slice pks2y ks2.length qks2y] 91)) (Nat.le_refl _))
  have x0 := X10.out.cell (i := 0) (v := .int .i64 R1) rfl
  have x1 := X10.out.cell (i := 1) (v := .int .i64 S1) rfl
  have x2 := X10.out.cell (i := 2) (v := .slice pbs1y bs1.length qbs1y) rfl
  have x3 := X10.out.cell (i := 3) (v := .int .i64 Z1) rfl
  have x4 := X10.out.cell (i := 4) (v := .slice pzs1y zs1.length qzs1y) rfl
  have x5 := X10.out.cell (i := 5) (v := .int .i64 L1) rfl
  have x6 := X10.out.cell (i := 6) (v := .int .i64 P1) rfl
  have x7 := X10.out.cell (i := 7) (v := .slice pts1y ts1.length qts1y) rfl
  have x8 := X10.out.cell (i := 8) (v := .slice pss1y ss1.length qss1y) rfl
  have x9 := X10.out.cell (i := 9) (v := .slice pks1y ks1.length qks1y) rfl
  clear obs2y ozs2y ots2y oss2y oks2y hb9 I9 J9 B9 X9 I8 J8 B8 X8
  go_wp2_with fail
  generalize w9.alloc (.cells #[.int .i64 R2, .int .i64 S2, .slice pbs2y bs2.length qbs2y, .int .i64 Z2, .slice pzs2y zs2.length qzs2y, .int .i64 L2, .int .i64 P2, .slice pts2y ts2.length qts2y, .slice pss2y ss2.length qss2y, .slice pks2y ks2.length qks2y] 91) = w10 at Y10 B10 I10 J10 X10 Xbs Ybs Xzs Yzs Xts Yts Xss Yss Xks Yks ⊢
  clear x0 x1 x2 x3 x4 x5 x6 x7 x8 x9
  refine (implSameDesk_any Xbs.out Ybs.out Xzs.out Yzs.out Xts.out Yts.out Xss.out Yss.out Xks.out Yks.out).mono ?_
  rintro e w11 ⟨rfl, hb11⟩
  rw [HBB.out]
  have B11 := Lib.hid (B10.out.trans (hb11.mono B10.out.size))
  have I11 := Lib.hid (I10.out.below hb11 (Nat.le_refl _))
  have J11 := Lib.hid (J10.out.below hb11 (Nat.le_refl _))
  have X11 := Lib.hid (X10.out.below hb11 (Nat.le_refl _))
  have Y11 := Lib.hid (Y10.out.below hb11 (Nat.le_refl _))
  replace Xbs := Lib.hid (Xbs.out.below hb11 (Nat.le_refl _))
  replace Ybs := Lib.hid (Ybs.out.below hb11 (Nat.le_refl _))
  replace Xzs := Lib.hid (Xzs.out.below hb11 (Nat.le_refl _))
  replace Yzs := Lib.hid (Yzs.out.below hb11 (Nat.le_refl _))
  replace Xts := Lib.hid (Xts.out.below hb11 (Nat.le_refl _))
  replace Yts := Lib.hid (Yts.out.below hb11 (Nat.le_refl _))
  replace Xss := Lib.hid (Xss.out.below hb11 (Nat.le_refl _))
  replace Yss := Lib.hid (Yss.out.below hb11 (Nat.le_refl _))
  replace Xks := Lib.hid (Xks.out.below hb11 (Nat.le_refl _))
  replace Yks := Lib.hid (Yks.out.below hb11 (Nat.le_refl _))
  clear hb11 I10 J10 B10 X10 Y10
  go_wp2_with fail
  have hbd11 : Below w11.heap.size w11 w11.drew := below_of_drewN w11 1 _
  have B12 := Lib.hid (B11.out.trans (hbd11.mono B11.out.size))
  have I12 := Lib.hid I11.out.drew
  have J12 := Lib.hid J11.out.drew
  have X12 := Lib.hid X11.out.drew
  have Y12 := Lib.hid Y11.out.drew
  replace Xbs := Lib.hid (Xbs.out.below hbd11 (Nat.le_refl _))
  replace Ybs := Lib.hid (Ybs.out.below hbd11 (Nat.le_refl _))
  replace Xzs := Lib.hid (Xzs.out.below hbd11 (Nat.le_refl _))
  replace Yzs := Lib.hid (Yzs.out.below hbd11 (Nat.le_refl _))
  replace Xts := Lib.hid (Xts.out.below hbd11 (Nat.le_refl _))
  replace Yts := Lib.hid (Yts.out.below hbd11 (Nat.le_refl _))
  replace Xss := Lib.hid (Xss.out.below hbd11 (Nat.le_refl _))
  replace Yss := Lib.hid (Yss.out.below hbd11 (Nat.le_refl _))
  replace Xks := Lib.hid (Xks.out.below hbd11 (Nat.le_refl _))
  replace Yks := Lib.hid (Yks.out.below hbd11 (Nat.le_refl _))
  have k11 := Lib.hid (And.intro (I11.out.cell (i := 0) (v := .int .i64 R1) rfl) (And.intro (I11.out.cell (i := 1) (v := .int .i64 S1) rfl) (And.intro (I11.out.cell (i := 2) (v := .slice abs1 bs1.length cbs1) rfl) (And.intro (I11.out.cell (i := 3) (v := .int .i64 Z1) rfl) (And.intro (I11.out.cell (i := 4) (v := .slice azs1 zs1.length czs1) rfl) (And.intro (I11.out.cell (i := 5) (v := .int .i64 L1) rfl) (And.intro (I11.out.cell (i := 6) (v := .int .i64 P1) rfl) (And.intro (I11.out.cell (i := 7) (v := .slice ats1 ts1.length cts1) rfl) (And.intro (I11.out.cell (i := 8) (v := .slice ass1 ss1.length css1) rfl) (And.intro (I11.out.cell (i := 9) (v := .slice aks1 ks1.length cks1) rfl) (And.intro (X11.out.cell (i := 0) (v := .int .i64 R1) rfl) (And.intro (X11.out.cell (i := 1) (v := .int .i64 S1) rfl) (And.intro (X11.out.cell (i := 2) (v := .slice pbs1y bs1.length qbs1y) rfl) (And.intro (X11.out.cell (i := 3) (v := .int .i64 Z1) rfl) (And.intro (X11.out.cell (i := 4) (v := .slice pzs1y zs1.length qzs1y) rfl) (And.intro (X11.out.cell (i := 5) (v := .int .i64 L1) rfl) (And.intro (X11.out.cell (i := 6) (v := .int .i64 P1) rfl) (And.intro (X11.out.cell (i := 7) (v := .slice pts1y ts1.length qts1y) rfl) (And.intro (X11.out.cell (i := 8) (v := .slice pss1y ss1.length qss1y) rfl) (X11.out.cell (i := 9) (v := .slice pks1y ks1.length qks1y) rfl))))))))))))))))))))
  go_region_held3 (fun w' => w'.cell? ⟨w.heap.size, 0, none⟩ = some (.int .i64 R1) ∧ w'.cell? ⟨w.heap.size, 1, none⟩ = some (.int .i64 S1) ∧ w'.cell? ⟨w.heap.size, 2, none⟩ = some (.slice abs1 bs1.length cbs1) ∧ w'.cell? ⟨w.heap.size, 3, none⟩ = some (.int .i64 Z1) ∧ w'.cell? ⟨w.heap.size, 4, none⟩ = some (.slice azs1 zs1.length czs1) ∧ w'.cell? ⟨w.heap.size, 5, none⟩ = some (.int .i64 L1) ∧ w'.cell? ⟨w.heap.size, 6, none⟩ = some (.int .i64 P1) ∧ w'.cell? ⟨w.heap.size, 7, none⟩ = some (.slice ats1 ts1.length cts1) ∧ w'.cell? ⟨w.heap.size, 8, none⟩ = some (.slice ass1 ss1.length css1) ∧ w'.cell? ⟨w.heap.size, 9, none⟩ = some (.slice aks1 ks1.length cks1) ∧ w'.cell? ⟨w7.heap.size, 0, none⟩ = some (.int .i64 R1) ∧ w'.cell? ⟨w7.heap.size, 1, none⟩ = some (.int .i64 S1) ∧ w'.cell? ⟨w7.heap.size, 2, none⟩ = some (.slice pbs1y bs1.length qbs1y) ∧ w'.cell? ⟨w7.heap.size, 3, none⟩ = some (.int .i64 Z1) ∧ w'.cell? ⟨w7.heap.size, 4, none⟩ = some (.slice pzs1y zs1.length qzs1y) ∧ w'.cell? ⟨w7.heap.size, 5, none⟩ = some (.int .i64 L1) ∧ w'.cell? ⟨w7.heap.size, 6, none⟩ = some (.int .i64 P1) ∧ w'.cell? ⟨w7.heap.size, 7, none⟩ = some (.slice pts1y ts1.length qts1y) ∧ w'.cell? ⟨w7.heap.size, 8, none⟩ = some (.slice pss1y ss1.length qss1y) ∧ w'.cell? ⟨w7.heap.size, 9, none⟩ = some (.slice pks1y ks1.length qks1y))
      (first | (with_reducible exact k13.out) | (with_reducible exact k14.out) | exact k11.out)
      (first
        | (go_at_call 60; (with_reducible refine (toDesk_any (hbs1.below B12.out (Nat.le_refl _)) (hzs1.below B12.out (Nat.le_refl _)) (hts1.below B12.out (Nat.le_refl _)) (hss1.below B12.out (Nat.le_refl _)) (hks1.below B12.out (Nat.le_refl _)) nbs1 nzs1 nts1 nss1 nks1).mono ?_); rintro e w13 ⟨pbs1z, qbs1z, pzs1z, qzs1z, pts1z, qts1z, pss1z, qss1z, pks1z, qks1z, rfl, obs1z, ozs1z, ots1z, oss1z, oks1z, hb13⟩; have B13 := Lib.hid (B12.out.trans (hb13.mono B12.out.size)); have I13 := Lib.hid (I12.out.below hb13 (Nat.le_refl _)); have J13 := Lib.hid (J12.out.below hb13 (Nat.le_refl _)); have X13 := Lib.hid (X12.out.below hb13 (Nat.le_refl _)); have Y13 := Lib.hid (Y12.out.below hb13 (Nat.le_refl _)); have k13 := Lib.hid (And.intro (I13.out.cell (i := 0) (v := .int .i64 R1) rfl) (And.intro (I13.out.cell (i := 1) (v := .int .i64 S1) rfl) (And.intro (I13.out.cell (i := 2) (v := .slice abs1 bs1.length cbs1) rfl) (And.intro (I13.out.cell (i := 3) (v := .int .i64 Z1) rfl) (And.intro (I13.out.cell (i := 4) (v := .slice azs1 zs1.length czs1) rfl) (And.intro (I13.out.cell (i := 5) (v := .int .i64 L1) rfl) (And.intro (I13.out.cell (i := 6) (v := .int .i64 P1) rfl) (And.intro (I13.out.cell (i := 7) (v := .slice ats1 ts1.length cts1) rfl) (And.intro (I13.out.cell (i := 8) (v := .slice ass1 ss1.length css1) rfl) (And.intro (I13.out.cell (i := 9) (v := .slice aks1 ks1.length cks1) rfl) (And.intro (X13.out.cell (i := 0) (v := .int .i64 R1) rfl) (And.intro (X13.out.cell (i := 1) (v := .int .i64 S1) rfl) (And.intro (X13.out.cell (i := 2) (v := .slice pbs1y bs1.length qbs1y) rfl) (And.intro (X13.out.cell (i := 3) (v := .int .i64 Z1) rfl) (And.intro (X13.out.cell (i := 4) (v := .slice pzs1y zs1.length qzs1y) rfl) (And.intro (X13.out.cell (i := 5) (v := .int .i64 L1) rfl) (And.intro (X13.out.cell (i := 6) (v := .int .i64 P1) rfl) (And.intro (X13.out.cell (i := 7) (v := .slice pts1y ts1.length qts1y) rfl) (And.intro (X13.out.cell (i := 8) (v := .slice pss1y ss1.length qss1y) rfl) (X13.out.cell (i := 9) (v := .slice pks1y ks1.length qks1y) rfl)))))))))))))))))))))
        | (go_at_call 62; refine (eqDesk_same (Xbs.out.below hb13 (Nat.le_refl _)) obs1z.rd (Xzs.out.below hb13 (Nat.le_refl _)) ozs1z.rd (Xts.out.below hb13 (Nat.le_refl _)) ots1z.rd (Xss.out.below hb13 (Nat.le_refl _)) oss1z.rd (Xks.out.below hb13 (Nat.le_refl _)) oks1z.rd).mono ?_; rintro e w14 ⟨rfl, hb14⟩; have B14 := Lib.hid (B13.out.trans (hb14.mono B13.out.size)); have I14 := Lib.hid (I13.out.below hb14 (Nat.le_refl _)); have J14 := Lib.hid (J13.out.below hb14 (Nat.le_refl _)); have X14 := Lib.hid (X13.out.below hb14 (Nat.le_refl _)); have Y14 := Lib.hid (Y13.out.below hb14 (Nat.le_refl _)); have k14 := Lib.hid (And.intro (I14.out.cell (i := 0) (v := .int .i64 R1) rfl) (And.intro (I14.out.cell (i := 1) (v := .int .i64 S1) rfl) (And.intro (I14.out.cell (i := 2) (v := .slice abs1 bs1.length cbs1) rfl) (And.intro (I14.out.cell (i := 3) (v := .int .i64 Z1) rfl) (And.intro (I14.out.cell (i := 4) (v := .slice azs1 zs1.length czs1) rfl) (And.intro (I14.out.cell (i := 5) (v := .int .i64 L1) rfl) (And.intro (I14.out.cell (i := 6) (v := .int .i64 P1) rfl) (And.intro (I14.out.cell (i := 7) (v := .slice ats1 ts1.length cts1) rfl) (And.intro (I14.out.cell (i := 8) (v := .slice ass1 ss1.length css1) rfl) (And.intro (I14.out.cell (i := 9) (v := .slice aks1 ks1.length cks1) rfl) (And.intro (X14.out.cell (i := 0) (v := .int .i64 R1) rfl) (And.intro (X14.out.cell (i := 1) (v := .int .i64 S1) rfl) (And.intro (X14.out.cell (i := 2) (v := .slice pbs1y bs1.length qbs1y) rfl) (And.intro (X14.out.cell (i := 3) (v := .int .i64 Z1) rfl) (And.intro (X14.out.cell (i := 4) (v := .slice pzs1y zs1.length qzs1y) rfl) (And.intro (X14.out.cell (i := 5) (v := .int .i64 L1) rfl) (And.intro (X14.out.cell (i := 6) (v := .int .i64 P1) rfl) (And.intro (X14.out.cell (i := 7) (v := .slice pts1y ts1.length qts1y) rfl) (And.intro (X14.out.cell (i := 8) (v := .slice pss1y ss1.length qss1y) rfl) (X14.out.cell (i := 9) (v := .slice pks1y ks1.length qks1y) rfl))))))))))))))))))))))
  replace Xbs := Lib.hid (Xbs.out.below (hb13.trans (hb14.mono hb13.size)) (Nat.le_refl _))
  replace Ybs := Lib.hid (Ybs.out.below (hb13.trans (hb14.mono hb13.size)) (Nat.le_refl _))
  replace Xzs := Lib.hid (Xzs.out.below (hb13.trans (hb14.mono hb13.size)) (Nat.le_refl _))
  replace Yzs := Lib.hid (Yzs.out.below (hb13.trans (hb14.mono hb13.size)) (Nat.le_refl _))
  replace Xts := Lib.hid (Xts.out.below (hb13.trans (hb14.mono hb13.size)) (Nat.le_refl _))
  replace Yts := Lib.hid (Yts.out.below (hb13.trans (hb14.mono hb13.size)) (Nat.le_refl _))
  replace Xss := Lib.hid (Xss.out.below (hb13.trans (hb14.mono hb13.size)) (Nat.le_refl _))
  replace Yss := Lib.hid (Yss.out.below (hb13.trans (hb14.mono hb13.size)) (Nat.le_refl _))
  replace Xks := Lib.hid (Xks.out.below (hb13.trans (hb14.mono hb13.size)) (Nat.le_refl _))
  replace Yks := Lib.hid (Yks.out.below (hb13.trans (hb14.mono hb13.size)) (Nat.le_refl _))
  clear obs1z ozs1z ots1z oss1z oks1z hb13 hb14 k11 k13 k14 hbd11 I11 I12 I13 J11 J12 J13 X11 X12 X13 Y11 Y12 Y13 B11 B12 B13
  go_wp2_with fail
  have hbd14 : Below w14.heap.size w14 w14.drew := below_of_drewN w14 1 _
  have B15 := Lib.hid (B14.out.trans (hbd14.mono B14.out.size))
  have I15 := Lib.hid I14.out.drew
  have J15 := Lib.hid J14.out.drew
  have X15 := Lib.hid X14.out.drew
  have Y15 := Lib.hid Y14.out.drew
  replace Xbs := Lib.hid (Xbs.out.below hbd14 (Nat.le_refl _))
  replace Ybs := Lib.hid (Ybs.out.below hbd14 (Nat.le_refl _))
  replace Xzs := Lib.hid (Xzs.out.below hbd14 (Nat.le_refl _))
  replace Yzs := Lib.hid (Yzs.out.below hbd14 (Nat.le_refl _))
  replace Xts := Lib.hid (Xts.out.below hbd14 (Nat.le_refl _))
  replace Yts := Lib.hid (Yts.out.below hbd14 (Nat.le_refl _))
  replace Xss := Lib.hid (Xss.out.below hbd14 (Nat.le_refl _))
  replace Yss := Lib.hid (Yss.out.below hbd14 (Nat.le_refl _))
  replace Xks := Lib.hid (Xks.out.below hbd14 (Nat.le_refl _))
  replace Yks := Lib.hid (Yks.out.below hbd14 (Nat.le_refl _))
  have k14 := Lib.hid (And.intro (J14.out.cell (i := 0) (v := .int .i64 R2) rfl) (And.intro (J14.out.cell (i := 1) (v := .int .i64 S2) rfl) (And.intro (J14.out.cell (i := 2) (v := .slice abs2 bs2.length cbs2) rfl) (And.intro (J14.out.cell (i := 3) (v := .int .i64 Z2) rfl) (And.intro (J14.out.cell (i := 4) (v := .slice azs2 zs2.length czs2) rfl) (And.intro (J14.out.cell (i := 5) (v := .int .i64 L2) rfl) (And.intro (J14.out.cell (i := 6) (v := .int .i64 P2) rfl) (And.intro (J14.out.cell (i := 7) (v := .slice ats2 ts2.length cts2) rfl) (And.intro (J14.out.cell (i := 8) (v := .slice ass2 ss2.length css2) rfl) (And.intro (J14.out.cell (i := 9) (v := .slice aks2 ks2.length cks2) rfl) (And.intro (Y14.out.cell (i := 0) (v := .int .i64 R2) rfl) (And.intro (Y14.out.cell (i := 1) (v := .int .i64 S2) rfl) (And.intro (Y14.out.cell (i := 2) (v := .slice pbs2y bs2.length qbs2y) rfl) (And.intro (Y14.out.cell (i := 3) (v := .int .i64 Z2) rfl) (And.intro (Y14.out.cell (i := 4) (v := .slice pzs2y zs2.length qzs2y) rfl) (And.intro (Y14.out.cell (i := 5) (v := .int .i64 L2) rfl) (And.intro (Y14.out.cell (i := 6) (v := .int .i64 P2) rfl) (And.intro (Y14.out.cell (i := 7) (v := .slice pts2y ts2.length qts2y) rfl) (And.intro (Y14.out.cell (i := 8) (v := .slice pss2y ss2.length qss2y) rfl) (Y14.out.cell (i := 9) (v := .slice pks2y ks2.length qks2y) rfl))))))))))))))))))))
  go_region_held3 (fun w' => w'.cell? ⟨w.heap.size + 1, 0, none⟩ = some (.int .i64 R2) ∧ w'.cell? ⟨w.heap.size + 1, 1, none⟩ = some (.int .i64 S2) ∧ w'.cell? ⟨w.heap.size + 1, 2, none⟩ = some (.slice abs2 bs2.length cbs2) ∧ w'.cell? ⟨w.heap.size + 1, 3, none⟩ = some (.int .i64 Z2) ∧ w'.cell? ⟨w.heap.size + 1, 4, none⟩ = some (.slice azs2 zs2.length czs2) ∧ w'.cell? ⟨w.heap.size + 1, 5, none⟩ = some (.int .i64 L2) ∧ w'.cell? ⟨w.heap.size + 1, 6, none⟩ = some (.int .i64 P2) ∧ w'.cell? ⟨w.heap.size + 1, 7, none⟩ = some (.slice ats2 ts2.length cts2) ∧ w'.cell? ⟨w.heap.size + 1, 8, none⟩ = some (.slice ass2 ss2.length css2) ∧ w'.cell? ⟨w.heap.size + 1, 9, none⟩ = some (.slice aks2 ks2.length cks2) ∧ w'.cell? ⟨w9.heap.size, 0, none⟩ = some (.int .i64 R2) ∧ w'.cell? ⟨w9.heap.size, 1, none⟩ = some (.int .i64 S2) ∧ w'.cell? ⟨w9.heap.size, 2, none⟩ = some (.slice pbs2y bs2.length qbs2y) ∧ w'.cell? ⟨w9.heap.size, 3, none⟩ = some (.int .i64 Z2) ∧ w'.cell? ⟨w9.heap.size, 4, none⟩ = some (.slice pzs2y zs2.length qzs2y) ∧ w'.cell? ⟨w9.heap.size, 5, none⟩ = some (.int .i64 L2) ∧ w'.cell? ⟨w9.heap.size, 6, none⟩ = some (.int .i64 P2) ∧ w'.cell? ⟨w9.heap.size, 7, none⟩ = some (.slice pts2y ts2.length qts2y) ∧ w'.cell? ⟨w9.heap.size, 8, none⟩ = some (.slice pss2y ss2.length qss2y) ∧ w'.cell? ⟨w9.heap.size, 9, none⟩ = some (.slice pks2y ks2.length qks2y))
      (first | (with_reducible exact k16.out) | (with_reducible exact k17.out) | exact k14.out)
      (first
        | (go_at_call 60; (with_reducible refine (toDesk_any (hbs2.below B15.out (Nat.le_refl _)) (hzs2.below B15.out (Nat.le_refl _)) (hts2.below B15.out (Nat.le_refl _)) (hss2.below B15.out (Nat.le_refl _)) (hks2.below B15.out (Nat.le_refl _)) nbs2 nzs2 nts2 nss2 nks2).mono ?_); rintro e w16 ⟨pbs2z, qbs2z, pzs2z, qzs2z, pts2z, qts2z, pss2z, qss2z, pks2z, qks2z, rfl, obs2z, ozs2z, ots2z, oss2z, oks2z, hb16⟩; have B16 := Lib.hid (B15.out.trans (hb16.mono B15.out.size)); have I16 := Lib.hid (I15.out.below hb16 (Nat.le_refl _)); have J16 := Lib.hid (J15.out.below hb16 (Nat.le_refl _)); have X16 := Lib.hid (X15.out.below hb16 (Nat.le_refl _)); have Y16 := Lib.hid (Y15.out.below hb16 (Nat.le_refl _)); have k16 := Lib.hid (And.intro (J16.out.cell (i := 0) (v := .int .i64 R2) rfl) (And.intro (J16.out.cell (i := 1) (v := .int .i64 S2) rfl) (And.intro (J16.out.cell (i := 2) (v := .slice abs2 bs2.length cbs2) rfl) (And.intro (J16.out.cell (i := 3) (v := .int .i64 Z2) rfl) (And.intro (J16.out.cell (i := 4) (v := .slice azs2 zs2.length czs2) rfl) (And.intro (J16.out.cell (i := 5) (v := .int .i64 L2) rfl) (And.intro (J16.out.cell (i := 6) (v := .int .i64 P2) rfl) (And.intro (J16.out.cell (i := 7) (v := .slice ats2 ts2.length cts2) rfl) (And.intro (J16.out.cell (i := 8) (v := .slice ass2 ss2.length css2) rfl) (And.intro (J16.out.cell (i := 9) (v := .slice aks2 ks2.length cks2) rfl) (And.intro (Y16.out.cell (i := 0) (v := .int .i64 R2) rfl) (And.intro (Y16.out.cell (i := 1) (v := .int .i64 S2) rfl) (And.intro (Y16.out.cell (i := 2) (v := .slice pbs2y bs2.length qbs2y) rfl) (And.intro (Y16.out.cell (i := 3) (v := .int .i64 Z2) rfl) (And.intro (Y16.out.cell (i := 4) (v := .slice pzs2y zs2.length qzs2y) rfl) (And.intro (Y16.out.cell (i := 5) (v := .int .i64 L2) rfl) (And.intro (Y16.out.cell (i := 6) (v := .int .i64 P2) rfl) (And.intro (Y16.out.cell (i := 7) (v := .slice pts2y ts2.length qts2y) rfl) (And.intro (Y16.out.cell (i := 8) (v := .slice pss2y ss2.length qss2y) rfl) (Y16.out.cell (i := 9) (v := .slice pks2y ks2.length qks2y) rfl)))))))))))))))))))))
        | (go_at_call 62; refine (eqDesk_same (Ybs.out.below hb16 (Nat.le_refl _)) obs2z.rd (Yzs.out.below hb16 (Nat.le_refl _)) ozs2z.rd (Yts.out.below hb16 (Nat.le_refl _)) ots2z.rd (Yss.out.below hb16 (Nat.le_refl _)) oss2z.rd (Yks.out.below hb16 (Nat.le_refl _)) oks2z.rd).mono ?_; rintro e w17 ⟨rfl, hb17⟩; have B17 := Lib.hid (B16.out.trans (hb17.mono B16.out.size)); have I17 := Lib.hid (I16.out.below hb17 (Nat.le_refl _)); have J17 := Lib.hid (J16.out.below hb17 (Nat.le_refl _)); have X17 := Lib.hid (X16.out.below hb17 (Nat.le_refl _)); have Y17 := Lib.hid (Y16.out.below hb17 (Nat.le_refl _)); have k17 := Lib.hid (And.intro (J17.out.cell (i := 0) (v := .int .i64 R2) rfl) (And.intro (J17.out.cell (i := 1) (v := .int .i64 S2) rfl) (And.intro (J17.out.cell (i := 2) (v := .slice abs2 bs2.length cbs2) rfl) (And.intro (J17.out.cell (i := 3) (v := .int .i64 Z2) rfl) (And.intro (J17.out.cell (i := 4) (v := .slice azs2 zs2.length czs2) rfl) (And.intro (J17.out.cell (i := 5) (v := .int .i64 L2) rfl) (And.intro (J17.out.cell (i := 6) (v := .int .i64 P2) rfl) (And.intro (J17.out.cell (i := 7) (v := .slice ats2 ts2.length cts2) rfl) (And.intro (J17.out.cell (i := 8) (v := .slice ass2 ss2.length css2) rfl) (And.intro (J17.out.cell (i := 9) (v := .slice aks2 ks2.length cks2) rfl) (And.intro (Y17.out.cell (i := 0) (v := .int .i64 R2) rfl) (And.intro (Y17.out.cell (i := 1) (v := .int .i64 S2) rfl) (And.intro (Y17.out.cell (i := 2) (v := .slice pbs2y bs2.length qbs2y) rfl) (And.intro (Y17.out.cell (i := 3) (v := .int .i64 Z2) rfl) (And.intro (Y17.out.cell (i := 4) (v := .slice pzs2y zs2.length qzs2y) rfl) (And.intro (Y17.out.cell (i := 5) (v := .int .i64 L2) rfl) (And.intro (Y17.out.cell (i := 6) (v := .int .i64 P2) rfl) (And.intro (Y17.out.cell (i := 7) (v := .slice pts2y ts2.length qts2y) rfl) (And.intro (Y17.out.cell (i := 8) (v := .slice pss2y ss2.length qss2y) rfl) (Y17.out.cell (i := 9) (v := .slice pks2y ks2.length qks2y) rfl))))))))))))))))))))))
  replace Xbs := Lib.hid (Xbs.out.below (hb16.trans (hb17.mono hb16.size)) (Nat.le_refl _))
  replace Ybs := Lib.hid (Ybs.out.below (hb16.trans (hb17.mono hb16.size)) (Nat.le_refl _))
  replace Xzs := Lib.hid (Xzs.out.below (hb16.trans (hb17.mono hb16.size)) (Nat.le_refl _))
  replace Yzs := Lib.hid (Yzs.out.below (hb16.trans (hb17.mono hb16.size)) (Nat.le_refl _))
  replace Xts := Lib.hid (Xts.out.below (hb16.trans (hb17.mono hb16.size)) (Nat.le_refl _))
  replace Yts := Lib.hid (Yts.out.below (hb16.trans (hb17.mono hb16.size)) (Nat.le_refl _))
  replace Xss := Lib.hid (Xss.out.below (hb16.trans (hb17.mono hb16.size)) (Nat.le_refl _))
  replace Yss := Lib.hid (Yss.out.below (hb16.trans (hb17.mono hb16.size)) (Nat.le_refl _))
  replace Xks := Lib.hid (Xks.out.below (hb16.trans (hb17.mono hb16.size)) (Nat.le_refl _))
  replace Yks := Lib.hid (Yks.out.below (hb16.trans (hb17.mono hb16.size)) (Nat.le_refl _))
  clear obs2z ozs2z ots2z oss2z oks2z hb16 hb17 k14 k16 k17 hbd14 I14 I15 I16 J14 J15 J16 X14 X15 X16 Y14 Y15 Y16 B14 B15 B16
  go_wp2
  go_ret
  exact ⟨rfl, B17.out⟩

end Go.Proofs.Ytbgchlllblkhiaa
