/- SameDesk, both texts. -/
import Derived.Test.YtbgchlllblkhiaaSameSieve
import Derived.Test.YtbgchlllblkhiaaSameWindow
namespace Go.Proofs.Ytbgchlllblkhiaa
open Go.RowKit

def sameDesk (R1 R2 : Int) (S1 S2 : Int) (bs1 bs2 : List Bool) (Z1 Z2 : Int) (zs1 zs2 : List Int) (L1 L2 : Int) (P1 P2 : Int) (ts1 ts2 : List Int) (ss1 ss2 : List Int) (ks1 ks2 : List Int) : Bool := sameSieve R1 R2 S1 S2 bs1 bs2 && decide (Z1 = Z2) && decide (zs1 = zs2) && sameWindow L1 L2 P1 P2 ts1 ts2 ss1 ss2 && decide (ks1 = ks2)

set_option maxRecDepth 4000 in
set_option maxHeartbeats 2000000 in
theorem implSameDesk_any {abs1 : Option Addr} {cbs1 : Nat} {bs1 : List Bool} {abs2 : Option Addr} {cbs2 : Nat} {bs2 : List Bool} {azs1 : Option Addr} {czs1 : Nat} {zs1 : List Int} {azs2 : Option Addr} {czs2 : Nat} {zs2 : List Int} {ats1 : Option Addr} {cts1 : Nat} {ts1 : List Int} {ats2 : Option Addr} {cts2 : Nat} {ts2 : List Int} {ass1 : Option Addr} {css1 : Nat} {ss1 : List Int} {ass2 : Option Addr} {css2 : Nat} {ss2 : List Int} {aks1 : Option Addr} {cks1 : Nat} {ks1 : List Int} {aks2 : Option Addr} {cks2 : Nat} {ks2 : List Int} {R1 R2 S1 S2 Z1 Z2 L1 L2 P1 P2 : Int} {w : World} (hbs1 : Rd (Value.bool) w abs1 cbs1 bs1) (hbs2 : Rd (Value.bool) w abs2 cbs2 bs2) (hzs1 : Rd (Value.int .i64) w azs1 czs1 zs1) (hzs2 : Rd (Value.int .i64) w azs2 czs2 zs2) (hts1 : Rd (Value.int .i64) w ats1 cts1 ts1) (hts2 : Rd (Value.int .i64) w ats2 cts2 ts2) (hss1 : Rd (Value.int .i64) w ass1 css1 ss1) (hss2 : Rd (Value.int .i64) w ass2 css2 ss2) (hks1 : Rd (Value.int .i64) w aks1 cks1 ks1) (hks2 : Rd (Value.int .i64) w aks2 cks2 ks2) :
    Calls Try.prog 61 #[.agg #[.int .i64 R1, .int .i64 S1, .slice abs1 bs1.length cbs1, .int .i64 Z1, .slice azs1 zs1.length czs1, .int .i64 L1, .int .i64 P1, .slice ats1 ts1.length cts1, .slice ass1 ss1.length css1, .slice aks1 ks1.length cks1], .agg #[.int .i64 R2, .int .i64 S2, .slice abs2 bs2.length cbs2, .int .i64 Z2, .slice azs2 zs2.length czs2, .int .i64 L2, .int .i64 P2, .slice ats2 ts2.length cts2, .slice ass2 ss2.length css2, .slice aks2 ks2.length cks2]] w fun e w' => e = .returned (.bool (sameDesk R1 R2 S1 S2 bs1 bs2 Z1 Z2 zs1 zs2 L1 L2 P1 P2 ts1 ts2 ss1 ss2 ks1 ks2)) ∧ Below w.heap.size w w' := by
  have B0 : Below w.heap.size w ((w.alloc (.cells #[.int .i64 R1, .int .i64 S1, .slice abs1 bs1.length cbs1, .int .i64 Z1, .slice azs1 zs1.length czs1, .int .i64 L1, .int .i64 P1, .slice ats1 ts1.length cts1, .slice ass1 ss1.length css1, .slice aks1 ks1.length cks1] 91)).alloc (.cells #[.int .i64 R2, .int .i64 S2, .slice abs2 bs2.length cbs2, .int .i64 Z2, .slice azs2 zs2.length czs2, .int .i64 L2, .int .i64 P2, .slice ats2 ts2.length cts2, .slice ass2 ss2.length css2, .slice aks2 ks2.length cks2] 91)) := ((Below.refl _ _).alloc (Nat.le_refl _) _).alloc (by simp) _
  have I0 : Blk ((w.alloc (.cells #[.int .i64 R1, .int .i64 S1, .slice abs1 bs1.length cbs1, .int .i64 Z1, .slice azs1 zs1.length czs1, .int .i64 L1, .int .i64 P1, .slice ats1 ts1.length cts1, .slice ass1 ss1.length css1, .slice aks1 ks1.length cks1] 91)).alloc (.cells #[.int .i64 R2, .int .i64 S2, .slice abs2 bs2.length cbs2, .int .i64 Z2, .slice azs2 zs2.length czs2, .int .i64 L2, .int .i64 P2, .slice ats2 ts2.length cts2, .slice ass2 ss2.length css2, .slice aks2 ks2.length cks2] 91)) w.heap.size #[.int .i64 R1, .int .i64 S1, .slice abs1 bs1.length cbs1, .int .i64 Z1, .slice azs1 zs1.length czs1, .int .i64 L1, .int .i64 P1, .slice ats1 ts1.length cts1, .slice ass1 ss1.length css1, .slice aks1 ks1.length cks1] 91 := (Blk.new _ _ _).alloc _
  have J0 : Blk ((w.alloc (.cells #[.int .i64 R1, .int .i64 S1, .slice abs1 bs1.length cbs1, .int .i64 Z1, .slice azs1 zs1.length czs1, .int .i64 L1, .int .i64 P1, .slice ats1 ts1.length cts1, .slice ass1 ss1.length css1, .slice aks1 ks1.length cks1] 91)).alloc (.cells #[.int .i64 R2, .int .i64 S2, .slice abs2 bs2.length cbs2, .int .i64 Z2, .slice azs2 zs2.length czs2, .int .i64 L2, .int .i64 P2, .slice ats2 ts2.length cts2, .slice ass2 ss2.length css2, .slice aks2 ks2.length cks2] 91)) (w.heap.size + 1) #[.int .i64 R2, .int .i64 S2, .slice abs2 bs2.length cbs2, .int .i64 Z2, .slice azs2 zs2.length czs2, .int .i64 L2, .int .i64 P2, .slice ats2 ts2.length cts2, .slice ass2 ss2.length css2, .slice aks2 ks2.length cks2] 91 := Blk.new' (by simp)
  have H0 := Lib.hid (And.intro B0 (And.intro I0 J0))
  clear B0 I0 J0
  cases g0 : sameSieve R1 R2 S1 S2 bs1 bs2 with
  | false =>
    have E0 := Lib.hid g0
    clear g0
    go_enter Try.func61, Try.ntmps61
    go_wp2_with fail
    generalize ((w.alloc (.cells #[.int .i64 R1, .int .i64 S1, .slice abs1 bs1.length cbs1, .int .i64 Z1, .slice azs1 zs1.length czs1, .int .i64 L1, .int .i64 P1, .slice ats1 ts1.length cts1, .slice ass1 ss1.length css1, .slice aks1 ks1.length cks1] 91)).alloc (.cells #[.int .i64 R2, .int .i64 S2, .slice abs2 bs2.length cbs2, .int .i64 Z2, .slice azs2 zs2.length czs2, .int .i64 L2, .int .i64 P2, .slice ats2 ts2.length cts2, .slice ass2 ss2.length css2, .slice aks2 ks2.length cks2] 91)) = w0' at H0 ⊢
    have B0 := Lib.hid H0.out.1
    have I0 := Lib.hid H0.out.2.1
    have J0 := Lib.hid H0.out.2.2
    clear H0
    refine (sameSieveI_any (hbs1.below B0.out (Nat.le_refl _)) (hbs2.below B0.out (Nat.le_refl _))).mono ?_
    rintro e w1' ⟨rfl, hb0⟩
    rw [E0.out]
    have B1 := Lib.hid (B0.out.trans (hb0.mono B0.out.size))
    have I1 := Lib.hid (I0.out.below hb0 (Nat.le_refl _))
    have J1 := Lib.hid (J0.out.below hb0 (Nat.le_refl _))
    clear hb0 B0 I0 J0 
    go_wp2
    go_ret
    exact ⟨ret_bool (by have q0 := E0.out; simp only [sameDesk, q0]; simp), B1.out⟩
  | true =>
  have E0 := Lib.hid g0
  clear g0
  by_cases g1 : Z1 = Z2
  case neg =>
    have hz1 : (Z1 == Z2) = false := by simpa using g1
    have E1 : Hid (¬ Z1 = Z2) := g1
    clear g1
    go_enter Try.func61, Try.ntmps61
    go_wp2_with fail
    generalize ((w.alloc (.cells #[.int .i64 R1, .int .i64 S1, .slice abs1 bs1.length cbs1, .int .i64 Z1, .slice azs1 zs1.length czs1, .int .i64 L1, .int .i64 P1, .slice ats1 ts1.length cts1, .slice ass1 ss1.length css1, .slice aks1 ks1.length cks1] 91)).alloc (.cells #[.int .i64 R2, .int .i64 S2, .slice abs2 bs2.length cbs2, .int .i64 Z2, .slice azs2 zs2.length czs2, .int .i64 L2, .int .i64 P2, .slice ats2 ts2.length cts2, .slice ass2 ss2.length css2, .slice aks2 ks2.length cks2] 91)) = w0' at H0 ⊢
    have B0 := Lib.hid H0.out.1
    have I0 := Lib.hid H0.out.2.1
    have J0 := Lib.hid H0.out.2.2
    clear H0
    refine (sameSieveI_any (hbs1.below B0.out (Nat.le_refl _)) (hbs2.below B0.out (Nat.le_refl _))).mono ?_
    rintro e w1' ⟨rfl, hb0⟩
    rw [E0.out]
    have B1 := Lib.hid (B0.out.trans (hb0.mono B0.out.size))
    have I1 := Lib.hid (I0.out.below hb0 (Nat.le_refl _))
    have J1 := Lib.hid (J0.out.below hb0 (Nat.le_refl _))
    clear hb0 B0 I0 J0 
    have i3 := I1.out.cell (i := 3) (v := .int .i64 Z1) rfl
    have j3 := J1.out.cell (i := 3) (v := .int .i64 Z2) rfl
    go_wp2
    go_ret
    exact ⟨ret_bool (by have q0 := E0.out; have q1 : decide (Z1 = Z2) = false := (by simpa using E1.out); simp only [sameDesk, q0, q1]; simp), B1.out⟩
  have hz1 : (Z1 == Z2) = true := by simpa using g1
  have E1 : Hid (Z1 = Z2) := g1
  clear g1
  cases g2 : decide (zs1 = zs2) with
  | false =>
    have E2 := Lib.hid g2
    clear g2
    go_enter Try.func61, Try.ntmps61
    go_wp2_with fail
    generalize ((w.alloc (.cells #[.int .i64 R1, .int .i64 S1, .slice abs1 bs1.length cbs1, .int .i64 Z1, .slice azs1 zs1.length czs1, .int .i64 L1, .int .i64 P1, .slice ats1 ts1.length cts1, .slice ass1 ss1.length css1, .slice aks1 ks1.length cks1] 91)).alloc (.cells #[.int .i64 R2, .int .i64 S2, .slice abs2 bs2.length cbs2, .int .i64 Z2, .slice azs2 zs2.length czs2, .int .i64 L2, .int .i64 P2, .slice ats2 ts2.length cts2, .slice ass2 ss2.length css2, .slice aks2 ks2.length cks2] 91)) = w0' at H0 ⊢
    have B0 := Lib.hid H0.out.1
    have I0 := Lib.hid H0.out.2.1
    have J0 := Lib.hid H0.out.2.2
    clear H0
    refine (sameSieveI_any (hbs1.below B0.out (Nat.le_refl _)) (hbs2.below B0.out (Nat.le_refl _))).mono ?_
    rintro e w1' ⟨rfl, hb0⟩
    rw [E0.out]
    have B1 := Lib.hid (B0.out.trans (hb0.mono B0.out.size))
    have I1 := Lib.hid (I0.out.below hb0 (Nat.le_refl _))
    have J1 := Lib.hid (J0.out.below hb0 (Nat.le_refl _))
    clear hb0 B0 I0 J0 
    have i3 := I1.out.cell (i := 3) (v := .int .i64 Z1) rfl
    have j3 := J1.out.cell (i := 3) (v := .int .i64 Z2) rfl
    have i4 := I1.out.cell (i := 4) (v := .slice azs1 zs1.length czs1) rfl
    have j4 := J1.out.cell (i := 4) (v := .slice azs2 zs2.length czs2) rfl
    go_wp2_with fail
    refine (seqSlI_any (hzs1.below B1.out (Nat.le_refl _)) (hzs2.below B1.out (Nat.le_refl _))).mono ?_
    rintro e v2' ⟨rfl, n1, rfl⟩
    rw [E2.out]
    have hb1 := below_of_drewN w1' n1 w1'.heap.size
    have B2 := Lib.hid (B1.out.trans (hb1.mono B1.out.size))
    have I2 := Lib.hid (I1.out.below hb1 (Nat.le_refl _))
    have J2 := Lib.hid (J1.out.below hb1 (Nat.le_refl _))
    clear hb1 B1 I1 J1 i3 j3 i4 j4
    generalize w1'.drewN n1 = w2' at B2 I2 J2 ⊢
    go_wp2
    go_ret
    exact ⟨ret_bool (by have q0 := E0.out; have q2 := E2.out; have q1 : decide (Z1 = Z2) = true := (by simpa using E1.out); simp only [sameDesk, q0, q1, q2]; simp), B2.out⟩
  | true =>
  have E2 := Lib.hid g2
  clear g2
  cases g3 : sameWindow L1 L2 P1 P2 ts1 ts2 ss1 ss2 with
  | false =>
    have E3 := Lib.hid g3
    clear g3
    go_enter Try.func61, Try.ntmps61
    go_wp2_with fail
    generalize ((w.alloc (.cells #[.int .i64 R1, .int .i64 S1, .slice abs1 bs1.length cbs1, .int .i64 Z1, .slice azs1 zs1.length czs1, .int .i64 L1, .int .i64 P1, .slice ats1 ts1.length cts1, .slice ass1 ss1.length css1, .slice aks1 ks1.length cks1] 91)).alloc (.cells #[.int .i64 R2, .int .i64 S2, .slice abs2 bs2.length cbs2, .int .i64 Z2, .slice azs2 zs2.length czs2, .int .i64 L2, .int .i64 P2, .slice ats2 ts2.length cts2, .slice ass2 ss2.length css2, .slice aks2 ks2.length cks2] 91)) = w0' at H0 ⊢
    have B0 := Lib.hid H0.out.1
    have I0 := Lib.hid H0.out.2.1
    have J0 := Lib.hid H0.out.2.2
    clear H0
    refine (sameSieveI_any (hbs1.below B0.out (Nat.le_refl _)) (hbs2.below B0.out (Nat.le_refl _))).mono ?_
    rintro e w1' ⟨rfl, hb0⟩
    rw [E0.out]
    have B1 := Lib.hid (B0.out.trans (hb0.mono B0.out.size))
    have I1 := Lib.hid (I0.out.below hb0 (Nat.le_refl _))
    have J1 := Lib.hid (J0.out.below hb0 (Nat.le_refl _))
    clear hb0 B0 I0 J0 
    have i3 := I1.out.cell (i := 3) (v := .int .i64 Z1) rfl
    have j3 := J1.out.cell (i := 3) (v := .int .i64 Z2) rfl
    have i4 := I1.out.cell (i := 4) (v := .slice azs1 zs1.length czs1) rfl
    have j4 := J1.out.cell (i := 4) (v := .slice azs2 zs2.length czs2) rfl
    go_wp2_with fail
    refine (seqSlI_any (hzs1.below B1.out (Nat.le_refl _)) (hzs2.below B1.out (Nat.le_refl _))).mono ?_
    rintro e v2' ⟨rfl, n1, rfl⟩
    rw [E2.out]
    have hb1 := below_of_drewN w1' n1 w1'.heap.size
    have B2 := Lib.hid (B1.out.trans (hb1.mono B1.out.size))
    have I2 := Lib.hid (I1.out.below hb1 (Nat.le_refl _))
    have J2 := Lib.hid (J1.out.below hb1 (Nat.le_refl _))
    clear hb1 B1 I1 J1 i3 j3 i4 j4
    generalize w1'.drewN n1 = w2' at B2 I2 J2 ⊢
    have i5 := I2.out.cell (i := 5) (v := .int .i64 L1) rfl
    have j5 := J2.out.cell (i := 5) (v := .int .i64 L2) rfl
    have i6 := I2.out.cell (i := 6) (v := .int .i64 P1) rfl
    have j6 := J2.out.cell (i := 6) (v := .int .i64 P2) rfl
    have i7 := I2.out.cell (i := 7) (v := .slice ats1 ts1.length cts1) rfl
    have j7 := J2.out.cell (i := 7) (v := .slice ats2 ts2.length cts2) rfl
    have i8 := I2.out.cell (i := 8) (v := .slice ass1 ss1.length css1) rfl
    have j8 := J2.out.cell (i := 8) (v := .slice ass2 ss2.length css2) rfl
    go_wp2_with fail
    refine (sameWindowI_any (hts1.below B2.out (Nat.le_refl _)) (hts2.below B2.out (Nat.le_refl _)) (hss1.below B2.out (Nat.le_refl _)) (hss2.below B2.out (Nat.le_refl _))).mono ?_
    rintro e w3' ⟨rfl, hb2⟩
    rw [E3.out]
    have B3 := Lib.hid (B2.out.trans (hb2.mono B2.out.size))
    have I3 := Lib.hid (I2.out.below hb2 (Nat.le_refl _))
    have J3 := Lib.hid (J2.out.below hb2 (Nat.le_refl _))
    clear hb2 B2 I2 J2 i5 j5 i6 j6 i7 j7 i8 j8
    go_wp2
    go_ret
    exact ⟨ret_bool (by have q0 := E0.out; have q2 := E2.out; have q3 := E3.out; have q1 : decide (Z1 = Z2) = true := (by simpa using E1.out); simp only [sameDesk, q0, q1, q2, q3]; simp), B3.out⟩
  | true =>
  have E3 := Lib.hid g3
  clear g3
  go_enter Try.func61, Try.ntmps61
  go_wp2_with fail
  generalize ((w.alloc (.cells #[.int .i64 R1, .int .i64 S1, .slice abs1 bs1.length cbs1, .int .i64 Z1, .slice azs1 zs1.length czs1, .int .i64 L1, .int .i64 P1, .slice ats1 ts1.length cts1, .slice ass1 ss1.length css1, .slice aks1 ks1.length cks1] 91)).alloc (.cells #[.int .i64 R2, .int .i64 S2, .slice abs2 bs2.length cbs2, .int .i64 Z2, .slice azs2 zs2.length czs2, .int .i64 L2, .int .i64 P2, .slice ats2 ts2.length cts2, .slice ass2 ss2.length css2, .slice aks2 ks2.length cks2] 91)) = w0' at H0 ⊢
  have B0 := Lib.hid H0.out.1
  have I0 := Lib.hid H0.out.2.1
  have J0 := Lib.hid H0.out.2.2
  clear H0
  refine (sameSieveI_any (hbs1.below B0.out (Nat.le_refl _)) (hbs2.below B0.out (Nat.le_refl _))).mono ?_
  rintro e w1' ⟨rfl, hb0⟩
  rw [E0.out]
  have B1 := Lib.hid (B0.out.trans (hb0.mono B0.out.size))
  have I1 := Lib.hid (I0.out.below hb0 (Nat.le_refl _))
  have J1 := Lib.hid (J0.out.below hb0 (Nat.le_refl _))
  clear hb0 B0 I0 J0 
  have i3 := I1.out.cell (i := 3) (v := .int .i64 Z1) rfl
  have j3 := J1.out.cell (i := 3) (v := .int .i64 Z2) rfl
  have i4 := I1.out.cell (i := 4) (v := .slice azs1 zs1.length czs1) rfl
  have j4 := J1.out.cell (i := 4) (v := .slice azs2 zs2.length czs2) rfl
  go_wp2_with fail
  refine (seqSlI_any (hzs1.below B1.out (Nat.le_refl _)) (hzs2.below B1.out (Nat.le_refl _))).mono ?_
  rintro e v2' ⟨rfl, n1, rfl⟩
  rw [E2.out]
  have hb1 := below_of_drewN w1' n1 w1'.heap.size
  have B2 := Lib.hid (B1.out.trans (hb1.mono B1.out.size))
  have I2 := Lib.hid (I1.out.below hb1 (Nat.le_refl _))
  have J2 := Lib.hid (J1.out.below hb1 (Nat.le_refl _))
  clear hb1 B1 I1 J1 i3 j3 i4 j4
  generalize w1'.drewN n1 = w2' at B2 I2 J2 ⊢
  have i5 := I2.out.cell (i := 5) (v := .int .i64 L1) rfl
  have j5 := J2.out.cell (i := 5) (v := .int .i64 L2) rfl
  have i6 := I2.out.cell (i := 6) (v := .int .i64 P1) rfl
  have j6 := J2.out.cell (i := 6) (v := .int .i64 P2) rfl
  have i7 := I2.out.cell (i := 7) (v := .slice ats1 ts1.length cts1) rfl
  have j7 := J2.out.cell (i := 7) (v := .slice ats2 ts2.length cts2) rfl
  have i8 := I2.out.cell (i := 8) (v := .slice ass1 ss1.length css1) rfl
  have j8 := J2.out.cell (i := 8) (v := .slice ass2 ss2.length css2) rfl
  go_wp2_with fail
  refine (sameWindowI_any (hts1.below B2.out (Nat.le_refl _)) (hts2.below B2.out (Nat.le_refl _)) (hss1.below B2.out (Nat.le_refl _)) (hss2.below B2.out (Nat.le_refl _))).mono ?_
  rintro e w3' ⟨rfl, hb2⟩
  rw [E3.out]
  have B3 := Lib.hid (B2.out.trans (hb2.mono B2.out.size))
  have I3 := Lib.hid (I2.out.below hb2 (Nat.le_refl _))
  have J3 := Lib.hid (J2.out.below hb2 (Nat.le_refl _))
  clear hb2 B2 I2 J2 i5 j5 i6 j6 i7 j7 i8 j8
  have i9 := I3.out.cell (i := 9) (v := .slice aks1 ks1.length cks1) rfl
  have j9 := J3.out.cell (i := 9) (v := .slice aks2 ks2.length cks2) rfl
  go_wp2_with fail
  refine (seqSlI_any (hks1.below B3.out (Nat.le_refl _)) (hks2.below B3.out (Nat.le_refl _))).mono ?_
  rintro e v4' ⟨rfl, n3, rfl⟩
  have hb3 := below_of_drewN w3' n3 w3'.heap.size
  have B4 := Lib.hid (B3.out.trans (hb3.mono B3.out.size))
  have I4 := Lib.hid (I3.out.below hb3 (Nat.le_refl _))
  have J4 := Lib.hid (J3.out.below hb3 (Nat.le_refl _))
  clear hb3 B3 I3 J3 i9 j9
  generalize w3'.drewN n3 = w4' at B4 I4 J4 ⊢
  go_wp2
  go_ret
  exact ⟨ret_bool (by have q0 := E0.out; have q2 := E2.out; have q3 := E3.out; have q1 : decide (Z1 = Z2) = true := (by simpa using E1.out); simp only [sameDesk, q0, q1, q2, q3]; simp), B4.out⟩

set_option maxRecDepth 4000 in
set_option maxHeartbeats 2000000 in
theorem specSameDesk_any {abs1 : Option Addr} {cbs1 : Nat} {bs1 : List Bool} {abs2 : Option Addr} {cbs2 : Nat} {bs2 : List Bool} {azs1 : Option Addr} {czs1 : Nat} {zs1 : List Int} {azs2 : Option Addr} {czs2 : Nat} {zs2 : List Int} {ats1 : Option Addr} {cts1 : Nat} {ts1 : List Int} {ats2 : Option Addr} {cts2 : Nat} {ts2 : List Int} {ass1 : Option Addr} {css1 : Nat} {ss1 : List Int} {ass2 : Option Addr} {css2 : Nat} {ss2 : List Int} {aks1 : Option Addr} {cks1 : Nat} {ks1 : List Int} {aks2 : Option Addr} {cks2 : Nat} {ks2 : List Int} {R1 R2 S1 S2 Z1 Z2 L1 L2 P1 P2 : Int} {w : World} (hbs1 : Rd (Value.bool) w abs1 cbs1 bs1) (hbs2 : Rd (Value.bool) w abs2 cbs2 bs2) (hzs1 : Rd (Value.int .i64) w azs1 czs1 zs1) (hzs2 : Rd (Value.int .i64) w azs2 czs2 zs2) (hts1 : Rd (Value.int .i64) w ats1 cts1 ts1) (hts2 : Rd (Value.int .i64) w ats2 cts2 ts2) (hss1 : Rd (Value.int .i64) w ass1 css1 ss1) (hss2 : Rd (Value.int .i64) w ass2 css2 ss2) (hks1 : Rd (Value.int .i64) w aks1 cks1 ks1) (hks2 : Rd (Value.int .i64) w aks2 cks2 ks2) :
    Calls Try.prog 59 #[.agg #[.int .i64 R1, .int .i64 S1, .slice abs1 bs1.length cbs1, .int .i64 Z1, .slice azs1 zs1.length czs1, .int .i64 L1, .int .i64 P1, .slice ats1 ts1.length cts1, .slice ass1 ss1.length css1, .slice aks1 ks1.length cks1], .agg #[.int .i64 R2, .int .i64 S2, .slice abs2 bs2.length cbs2, .int .i64 Z2, .slice azs2 zs2.length czs2, .int .i64 L2, .int .i64 P2, .slice ats2 ts2.length cts2, .slice ass2 ss2.length css2, .slice aks2 ks2.length cks2]] w fun e w' => e = .returned (.bool (sameDesk R1 R2 S1 S2 bs1 bs2 Z1 Z2 zs1 zs2 L1 L2 P1 P2 ts1 ts2 ss1 ss2 ks1 ks2)) ∧ Below w.heap.size w w' := by
  have B0 : Below w.heap.size w ((w.alloc (.cells #[.int .i64 R1, .int .i64 S1, .slice abs1 bs1.length cbs1, .int .i64 Z1, .slice azs1 zs1.length czs1, .int .i64 L1, .int .i64 P1, .slice ats1 ts1.length cts1, .slice ass1 ss1.length css1, .slice aks1 ks1.length cks1] 91)).alloc (.cells #[.int .i64 R2, .int .i64 S2, .slice abs2 bs2.length cbs2, .int .i64 Z2, .slice azs2 zs2.length czs2, .int .i64 L2, .int .i64 P2, .slice ats2 ts2.length cts2, .slice ass2 ss2.length css2, .slice aks2 ks2.length cks2] 91)) := ((Below.refl _ _).alloc (Nat.le_refl _) _).alloc (by simp) _
  have I0 : Blk ((w.alloc (.cells #[.int .i64 R1, .int .i64 S1, .slice abs1 bs1.length cbs1, .int .i64 Z1, .slice azs1 zs1.length czs1, .int .i64 L1, .int .i64 P1, .slice ats1 ts1.length cts1, .slice ass1 ss1.length css1, .slice aks1 ks1.length cks1] 91)).alloc (.cells #[.int .i64 R2, .int .i64 S2, .slice abs2 bs2.length cbs2, .int .i64 Z2, .slice azs2 zs2.length czs2, .int .i64 L2, .int .i64 P2, .slice ats2 ts2.length cts2, .slice ass2 ss2.length css2, .slice aks2 ks2.length cks2] 91)) w.heap.size #[.int .i64 R1, .int .i64 S1, .slice abs1 bs1.length cbs1, .int .i64 Z1, .slice azs1 zs1.length czs1, .int .i64 L1, .int .i64 P1, .slice ats1 ts1.length cts1, .slice ass1 ss1.length css1, .slice aks1 ks1.length cks1] 91 := (Blk.new _ _ _).alloc _
  have J0 : Blk ((w.alloc (.cells #[.int .i64 R1, .int .i64 S1, .slice abs1 bs1.length cbs1, .int .i64 Z1, .slice azs1 zs1.length czs1, .int .i64 L1, .int .i64 P1, .slice ats1 ts1.length cts1, .slice ass1 ss1.length css1, .slice aks1 ks1.length cks1] 91)).alloc (.cells #[.int .i64 R2, .int .i64 S2, .slice abs2 bs2.length cbs2, .int .i64 Z2, .slice azs2 zs2.length czs2, .int .i64 L2, .int .i64 P2, .slice ats2 ts2.length cts2, .slice ass2 ss2.length css2, .slice aks2 ks2.length cks2] 91)) (w.heap.size + 1) #[.int .i64 R2, .int .i64 S2, .slice abs2 bs2.length cbs2, .int .i64 Z2, .slice azs2 zs2.length czs2, .int .i64 L2, .int .i64 P2, .slice ats2 ts2.length cts2, .slice ass2 ss2.length css2, .slice aks2 ks2.length cks2] 91 := Blk.new' (by simp)
  have H0 := Lib.hid (And.intro B0 (And.intro I0 J0))
  clear B0 I0 J0
  cases g0 : sameSieve R1 R2 S1 S2 bs1 bs2 with
  | false =>
    have E0 := Lib.hid g0
    clear g0
    go_enter Try.func59, Try.ntmps59
    go_wp2_with fail
    generalize ((w.alloc (.cells #[.int .i64 R1, .int .i64 S1, .slice abs1 bs1.length cbs1, .int .i64 Z1, .slice azs1 zs1.length czs1, .int .i64 L1, .int .i64 P1, .slice ats1 ts1.length cts1, .slice ass1 ss1.length css1, .slice aks1 ks1.length cks1] 91)).alloc (.cells #[.int .i64 R2, .int .i64 S2, .slice abs2 bs2.length cbs2, .int .i64 Z2, .slice azs2 zs2.length czs2, .int .i64 L2, .int .i64 P2, .slice ats2 ts2.length cts2, .slice ass2 ss2.length css2, .slice aks2 ks2.length cks2] 91)) = w0' at H0 ⊢
    have B0 := Lib.hid H0.out.1
    have I0 := Lib.hid H0.out.2.1
    have J0 := Lib.hid H0.out.2.2
    clear H0
    refine (sameSieveS_any (hbs1.below B0.out (Nat.le_refl _)) (hbs2.below B0.out (Nat.le_refl _)) (I0.out.cell (i := 0) rfl) (I0.out.cell (i := 1) rfl) (I0.out.cell (i := 2) rfl) (J0.out.cell (i := 0) rfl) (J0.out.cell (i := 1) rfl) (J0.out.cell (i := 2) rfl)).mono ?_
    rintro e v1' ⟨rfl, n0, rfl⟩
    rw [E0.out]
    have hb0 := below_of_drewN w0' n0 w0'.heap.size
    have B1 := Lib.hid (B0.out.trans (hb0.mono B0.out.size))
    have I1 := Lib.hid (I0.out.below hb0 (Nat.le_refl _))
    have J1 := Lib.hid (J0.out.below hb0 (Nat.le_refl _))
    clear hb0 B0 I0 J0 
    generalize w0'.drewN n0 = w1' at B1 I1 J1 ⊢
    go_wp2
    go_ret
    exact ⟨ret_bool (by have q0 := E0.out; simp only [sameDesk, q0]; simp), B1.out⟩
  | true =>
  have E0 := Lib.hid g0
  clear g0
  by_cases g1 : Z1 = Z2
  case neg =>
    have hz1 : (Z1 == Z2) = false := by simpa using g1
    have E1 : Hid (¬ Z1 = Z2) := g1
    clear g1
    go_enter Try.func59, Try.ntmps59
    go_wp2_with fail
    generalize ((w.alloc (.cells #[.int .i64 R1, .int .i64 S1, .slice abs1 bs1.length cbs1, .int .i64 Z1, .slice azs1 zs1.length czs1, .int .i64 L1, .int .i64 P1, .slice ats1 ts1.length cts1, .slice ass1 ss1.length css1, .slice aks1 ks1.length cks1] 91)).alloc (.cells #[.int .i64 R2, .int .i64 S2, .slice abs2 bs2.length cbs2, .int .i64 Z2, .slice azs2 zs2.length czs2, .int .i64 L2, .int .i64 P2, .slice ats2 ts2.length cts2, .slice ass2 ss2.length css2, .slice aks2 ks2.length cks2] 91)) = w0' at H0 ⊢
    have B0 := Lib.hid H0.out.1
    have I0 := Lib.hid H0.out.2.1
    have J0 := Lib.hid H0.out.2.2
    clear H0
    refine (sameSieveS_any (hbs1.below B0.out (Nat.le_refl _)) (hbs2.below B0.out (Nat.le_refl _)) (I0.out.cell (i := 0) rfl) (I0.out.cell (i := 1) rfl) (I0.out.cell (i := 2) rfl) (J0.out.cell (i := 0) rfl) (J0.out.cell (i := 1) rfl) (J0.out.cell (i := 2) rfl)).mono ?_
    rintro e v1' ⟨rfl, n0, rfl⟩
    rw [E0.out]
    have hb0 := below_of_drewN w0' n0 w0'.heap.size
    have B1 := Lib.hid (B0.out.trans (hb0.mono B0.out.size))
    have I1 := Lib.hid (I0.out.below hb0 (Nat.le_refl _))
    have J1 := Lib.hid (J0.out.below hb0 (Nat.le_refl _))
    clear hb0 B0 I0 J0 
    generalize w0'.drewN n0 = w1' at B1 I1 J1 ⊢
    have i3 := I1.out.cell (i := 3) (v := .int .i64 Z1) rfl
    have j3 := J1.out.cell (i := 3) (v := .int .i64 Z2) rfl
    go_wp2
    go_ret
    exact ⟨ret_bool (by have q0 := E0.out; have q1 : decide (Z1 = Z2) = false := (by simpa using E1.out); simp only [sameDesk, q0, q1]; simp), B1.out⟩
  have hz1 : (Z1 == Z2) = true := by simpa using g1
  have E1 : Hid (Z1 = Z2) := g1
  clear g1
  cases g2 : decide (zs1 = zs2) with
  | false =>
    have E2 := Lib.hid g2
    clear g2
    go_enter Try.func59, Try.ntmps59
    go_wp2_with fail
    generalize ((w.alloc (.cells #[.int .i64 R1, .int .i64 S1, .slice abs1 bs1.length cbs1, .int .i64 Z1, .slice azs1 zs1.length czs1, .int .i64 L1, .int .i64 P1, .slice ats1 ts1.length cts1, .slice ass1 ss1.length css1, .slice aks1 ks1.length cks1] 91)).alloc (.cells #[.int .i64 R2, .int .i64 S2, .slice abs2 bs2.length cbs2, .int .i64 Z2, .slice azs2 zs2.length czs2, .int .i64 L2, .int .i64 P2, .slice ats2 ts2.length cts2, .slice ass2 ss2.length css2, .slice aks2 ks2.length cks2] 91)) = w0' at H0 ⊢
    have B0 := Lib.hid H0.out.1
    have I0 := Lib.hid H0.out.2.1
    have J0 := Lib.hid H0.out.2.2
    clear H0
    refine (sameSieveS_any (hbs1.below B0.out (Nat.le_refl _)) (hbs2.below B0.out (Nat.le_refl _)) (I0.out.cell (i := 0) rfl) (I0.out.cell (i := 1) rfl) (I0.out.cell (i := 2) rfl) (J0.out.cell (i := 0) rfl) (J0.out.cell (i := 1) rfl) (J0.out.cell (i := 2) rfl)).mono ?_
    rintro e v1' ⟨rfl, n0, rfl⟩
    rw [E0.out]
    have hb0 := below_of_drewN w0' n0 w0'.heap.size
    have B1 := Lib.hid (B0.out.trans (hb0.mono B0.out.size))
    have I1 := Lib.hid (I0.out.below hb0 (Nat.le_refl _))
    have J1 := Lib.hid (J0.out.below hb0 (Nat.le_refl _))
    clear hb0 B0 I0 J0 
    generalize w0'.drewN n0 = w1' at B1 I1 J1 ⊢
    have i3 := I1.out.cell (i := 3) (v := .int .i64 Z1) rfl
    have j3 := J1.out.cell (i := 3) (v := .int .i64 Z2) rfl
    have i4 := I1.out.cell (i := 4) (v := .slice azs1 zs1.length czs1) rfl
    have j4 := J1.out.cell (i := 4) (v := .slice azs2 zs2.length czs2) rfl
    go_wp2_with fail
    refine (seqL06_any (hzs1.below B1.out (Nat.le_refl _)) (hzs2.below B1.out (Nat.le_refl _))).mono ?_
    rintro e v2' ⟨rfl, n1, rfl⟩
    rw [E2.out]
    have hb1 := below_of_drewN w1' n1 w1'.heap.size
    have B2 := Lib.hid (B1.out.trans (hb1.mono B1.out.size))
    have I2 := Lib.hid (I1.out.below hb1 (Nat.le_refl _))
    have J2 := Lib.hid (J1.out.below hb1 (Nat.le_refl _))
    clear hb1 B1 I1 J1 i3 j3 i4 j4
    generalize w1'.drewN n1 = w2' at B2 I2 J2 ⊢
    go_wp2
    go_ret
    exact ⟨ret_bool (by have q0 := E0.out; have q2 := E2.out; have q1 : decide (Z1 = Z2) = true := (by simpa using E1.out); simp only [sameDesk, q0, q1, q2]; simp), B2.out⟩
  | true =>
  have E2 := Lib.hid g2
  clear g2
  cases g3 : sameWindow L1 L2 P1 P2 ts1 ts2 ss1 ss2 with
  | false =>
    have E3 := Lib.hid g3
    clear g3
    go_enter Try.func59, Try.ntmps59
    go_wp2_with fail
    generalize ((w.alloc (.cells #[.int .i64 R1, .int .i64 S1, .slice abs1 bs1.length cbs1, .int .i64 Z1, .slice azs1 zs1.length czs1, .int .i64 L1, .int .i64 P1, .slice ats1 ts1.length cts1, .slice ass1 ss1.length css1, .slice aks1 ks1.length cks1] 91)).alloc (.cells #[.int .i64 R2, .int .i64 S2, .slice abs2 bs2.length cbs2, .int .i64 Z2, .slice azs2 zs2.length czs2, .int .i64 L2, .int .i64 P2, .slice ats2 ts2.length cts2, .slice ass2 ss2.length css2, .slice aks2 ks2.length cks2] 91)) = w0' at H0 ⊢
    have B0 := Lib.hid H0.out.1
    have I0 := Lib.hid H0.out.2.1
    have J0 := Lib.hid H0.out.2.2
    clear H0
    refine (sameSieveS_any (hbs1.below B0.out (Nat.le_refl _)) (hbs2.below B0.out (Nat.le_refl _)) (I0.out.cell (i := 0) rfl) (I0.out.cell (i := 1) rfl) (I0.out.cell (i := 2) rfl) (J0.out.cell (i := 0) rfl) (J0.out.cell (i := 1) rfl) (J0.out.cell (i := 2) rfl)).mono ?_
    rintro e v1' ⟨rfl, n0, rfl⟩
    rw [E0.out]
    have hb0 := below_of_drewN w0' n0 w0'.heap.size
    have B1 := Lib.hid (B0.out.trans (hb0.mono B0.out.size))
    have I1 := Lib.hid (I0.out.below hb0 (Nat.le_refl _))
    have J1 := Lib.hid (J0.out.below hb0 (Nat.le_refl _))
    clear hb0 B0 I0 J0 
    generalize w0'.drewN n0 = w1' at B1 I1 J1 ⊢
    have i3 := I1.out.cell (i := 3) (v := .int .i64 Z1) rfl
    have j3 := J1.out.cell (i := 3) (v := .int .i64 Z2) rfl
    have i4 := I1.out.cell (i := 4) (v := .slice azs1 zs1.length czs1) rfl
    have j4 := J1.out.cell (i := 4) (v := .slice azs2 zs2.length czs2) rfl
    go_wp2_with fail
    refine (seqL06_any (hzs1.below B1.out (Nat.le_refl _)) (hzs2.below B1.out (Nat.le_refl _))).mono ?_
    rintro e v2' ⟨rfl, n1, rfl⟩
    rw [E2.out]
    have hb1 := below_of_drewN w1' n1 w1'.heap.size
    have B2 := Lib.hid (B1.out.trans (hb1.mono B1.out.size))
    have I2 := Lib.hid (I1.out.below hb1 (Nat.le_refl _))
    have J2 := Lib.hid (J1.out.below hb1 (Nat.le_refl _))
    clear hb1 B1 I1 J1 i3 j3 i4 j4
    generalize w1'.drewN n1 = w2' at B2 I2 J2 ⊢
    have i5 := I2.out.cell (i := 5) (v := .int .i64 L1) rfl
    have j5 := J2.out.cell (i := 5) (v := .int .i64 L2) rfl
    have i6 := I2.out.cell (i := 6) (v := .int .i64 P1) rfl
    have j6 := J2.out.cell (i := 6) (v := .int .i64 P2) rfl
    have i7 := I2.out.cell (i := 7) (v := .slice ats1 ts1.length cts1) rfl
    have j7 := J2.out.cell (i := 7) (v := .slice ats2 ts2.length cts2) rfl
    have i8 := I2.out.cell (i := 8) (v := .slice ass1 ss1.length css1) rfl
    have j8 := J2.out.cell (i := 8) (v := .slice ass2 ss2.length css2) rfl
    go_wp2_with fail
    refine (sameWindowS_any (hts1.below B2.out (Nat.le_refl _)) (hts2.below B2.out (Nat.le_refl _)) (hss1.below B2.out (Nat.le_refl _)) (hss2.below B2.out (Nat.le_refl _)) (I2.out.cell (i := 5) rfl) (I2.out.cell (i := 6) rfl) (I2.out.cell (i := 7) rfl) (I2.out.cell (i := 8) rfl) (J2.out.cell (i := 5) rfl) (J2.out.cell (i := 6) rfl) (J2.out.cell (i := 7) rfl) (J2.out.cell (i := 8) rfl)).mono ?_
    rintro e v3' ⟨rfl, n2, rfl⟩
    rw [E3.out]
    have hb2 := below_of_drewN w2' n2 w2'.heap.size
    have B3 := Lib.hid (B2.out.trans (hb2.mono B2.out.size))
    have I3 := Lib.hid (I2.out.below hb2 (Nat.le_refl _))
    have J3 := Lib.hid (J2.out.below hb2 (Nat.le_refl _))
    clear hb2 B2 I2 J2 i5 j5 i6 j6 i7 j7 i8 j8
    generalize w2'.drewN n2 = w3' at B3 I3 J3 ⊢
    go_wp2
    go_ret
    exact ⟨ret_bool (by have q0 := E0.out; have q2 := E2.out; have q3 := E3.out; have q1 : decide (Z1 = Z2) = true := (by simpa using E1.out); simp only [sameDesk, q0, q1, q2, q3]; simp), B3.out⟩
  | true =>
  have E3 := Lib.hid g3
  clear g3
  go_enter Try.func59, Try.ntmps59
  go_wp2_with fail
  generalize ((w.alloc (.cells #[.int .i64 R1, .int .i64 S1, .slice abs1 bs1.length cbs1, .int .i64 Z1, .slice azs1 zs1.length czs1, .int .i64 L1, .int .i64 P1, .slice ats1 ts1.length cts1, .slice ass1 ss1.length css1, .slice aks1 ks1.length cks1] 91)).alloc (.cells #[.int .i64 R2, .int .i64 S2, .slice abs2 bs2.length cbs2, .int .i64 Z2, .slice azs2 zs2.length czs2, .int .i64 L2, .int .i64 P2, .slice ats2 ts2.length cts2, .slice ass2 ss2.length css2, .slice aks2 ks2.length cks2] 91)) = w0' at H0 ⊢
  have B0 := Lib.hid H0.out.1
  have I0 := Lib.hid H0.out.2.1
  have J0 := Lib.hid H0.out.2.2
  clear H0
  refine (sameSieveS_any (hbs1.below B0.out (Nat.le_refl _)) (hbs2.below B0.out (Nat.le_refl _)) (I0.out.cell (i := 0) rfl) (I0.out.cell (i := 1) rfl) (I0.out.cell (i := 2) rfl) (J0.out.cell (i := 0) rfl) (J0.out.cell (i := 1) rfl) (J0.out.cell (i := 2) rfl)).mono ?_
  rintro e v1' ⟨rfl, n0, rfl⟩
  rw [E0.out]
  have hb0 := below_of_drewN w0' n0 w0'.heap.size
  have B1 := Lib.hid (B0.out.trans (hb0.mono B0.out.size))
  have I1 := Lib.hid (I0.out.below hb0 (Nat.le_refl _))
  have J1 := Lib.hid (J0.out.below hb0 (Nat.le_refl _))
  clear hb0 B0 I0 J0 
  generalize w0'.drewN n0 = w1' at B1 I1 J1 ⊢
  have i3 := I1.out.cell (i := 3) (v := .int .i64 Z1) rfl
  have j3 := J1.out.cell (i := 3) (v := .int .i64 Z2) rfl
  have i4 := I1.out.cell (i := 4) (v := .slice azs1 zs1.length czs1) rfl
  have j4 := J1.out.cell (i := 4) (v := .slice azs2 zs2.length czs2) rfl
  go_wp2_with fail
  refine (seqL06_any (hzs1.below B1.out (Nat.le_refl _)) (hzs2.below B1.out (Nat.le_refl _))).mono ?_
  rintro e v2' ⟨rfl, n1, rfl⟩
  rw [E2.out]
  have hb1 := below_of_drewN w1' n1 w1'.heap.size
  have B2 := Lib.hid (B1.out.trans (hb1.mono B1.out.size))
  have I2 := Lib.hid (I1.out.below hb1 (Nat.le_refl _))
  have J2 := Lib.hid (J1.out.below hb1 (Nat.le_refl _))
  clear hb1 B1 I1 J1 i3 j3 i4 j4
  generalize w1'.drewN n1 = w2' at B2 I2 J2 ⊢
  have i5 := I2.out.cell (i := 5) (v := .int .i64 L1) rfl
  have j5 := J2.out.cell (i := 5) (v := .int .i64 L2) rfl
  have i6 := I2.out.cell (i := 6) (v := .int .i64 P1) rfl
  have j6 := J2.out.cell (i := 6) (v := .int .i64 P2) rfl
  have i7 := I2.out.cell (i := 7) (v := .slice ats1 ts1.length cts1) rfl
  have j7 := J2.out.cell (i := 7) (v := .slice ats2 ts2.length cts2) rfl
  have i8 := I2.out.cell (i := 8) (v := .slice ass1 ss1.length css1) rfl
  have j8 := J2.out.cell (i := 8) (v := .slice ass2 ss2.length css2) rfl
  go_wp2_with fail
  refine (sameWindowS_any (hts1.below B2.out (Nat.le_refl _)) (hts2.below B2.out (Nat.le_refl _)) (hss1.below B2.out (Nat.le_refl _)) (hss2.below B2.out (Nat.le_refl _)) (I2.out.cell (i := 5) rfl) (I2.out.cell (i := 6) rfl) (I2.out.cell (i := 7) rfl) (I2.out.cell (i := 8) rfl) (J2.out.cell (i := 5) rfl) (J2.out.cell (i := 6) rfl) (J2.out.cell (i := 7) rfl) (J2.out.cell (i := 8) rfl)).mono ?_
  rintro e v3' ⟨rfl, n2, rfl⟩
  rw [E3.out]
  have hb2 := below_of_drewN w2' n2 w2'.heap.size
  have B3 := Lib.hid (B2.out.trans (hb2.mono B2.out.size))
  have I3 := Lib.hid (I2.out.below hb2 (Nat.le_refl _))
  have J3 := Lib.hid (J2.out.below hb2 (Nat.le_refl _))
  clear hb2 B2 I2 J2 i5 j5 i6 j6 i7 j7 i8 j8
  generalize w2'.drewN n2 = w3' at B3 I3 J3 ⊢
  have i9 := I3.out.cell (i := 9) (v := .slice aks1 ks1.length cks1) rfl
  have j9 := J3.out.cell (i := 9) (v := .slice aks2 ks2.length cks2) rfl
  go_wp2_with fail
  refine (seqL06_any (hks1.below B3.out (Nat.le_refl _)) (hks2.below B3.out (Nat.le_refl _))).mono ?_
  rintro e v4' ⟨rfl, n3, rfl⟩
  have hb3 := below_of_drewN w3' n3 w3'.heap.size
  have B4 := Lib.hid (B3.out.trans (hb3.mono B3.out.size))
  have I4 := Lib.hid (I3.out.below hb3 (Nat.le_refl _))
  have J4 := Lib.hid (J3.out.below hb3 (Nat.le_refl _))
  clear hb3 B3 I3 J3 i9 j9
  generalize w3'.drewN n3 = w4' at B4 I4 J4 ⊢
  go_wp2
  go_ret
  exact ⟨ret_bool (by have q0 := E0.out; have q2 := E2.out; have q3 := E3.out; have q1 : decide (Z1 = Z2) = true := (by simpa using E1.out); simp only [sameDesk, q0, q1, q2, q3]; simp), B4.out⟩

end Go.Proofs.Ytbgchlllblkhiaa
