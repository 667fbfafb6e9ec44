/- Are two the same: Window. -/
import Derived.Test.YtbgchlllblkhiaaSeqL06
import Derived.Test.YtbgchlllblkhiaaSeqSlI
import Derived.Test.YtbgchlllblkhiaaBlk
import Derived.Test.YtbgchlllblkhiaaCalm
namespace Go.Proofs.Ytbgchlllblkhiaa
open Go.RowKit

def sameWindow (L1 L2 : Int) (P1 P2 : Int) (ts1 ts2 : List Int) (ss1 ss2 : List Int) : Bool := decide (L1 = L2) && decide (P1 = P2) && decide (ts1 = ts2) && decide (ss1 = ss2)

set_option maxHeartbeats 1000000 in
theorem sameWindowI_any {ats1 : Option Addr} {cts1 : Nat} {ts1 : List Int} {ats2 : Option Addr} {cts2 : Nat} {ts2 : List Int} {ass1 : Option Addr} {css1 : Nat} {ss1 : List Int} {ass2 : Option Addr} {css2 : Nat} {ss2 : List Int} {L1 L2 P1 P2 : Int} {w : World} (hts1 : Rd (Value.int .i64) w ats1 cts1 ts1) (hts2 : Rd (Value.int .i64) w ats2 cts2 ts2) (hss1 : Rd (Value.int .i64) w ass1 css1 ss1) (hss2 : Rd (Value.int .i64) w ass2 css2 ss2) :
    Calls Try.prog 129 #[.agg #[.int .i64 L1, .int .i64 P1, .slice ats1 ts1.length cts1, .slice ass1 ss1.length css1], .agg #[.int .i64 L2, .int .i64 P2, .slice ats2 ts2.length cts2, .slice ass2 ss2.length css2]] w fun e w' => e = .returned (.bool (sameWindow L1 L2 P1 P2 ts1 ts2 ss1 ss2)) ∧ Below w.heap.size w w' := by
  have B0 : Below w.heap.size w ((w.alloc (.cells #[.int .i64 L1, .int .i64 P1, .slice ats1 ts1.length cts1, .slice ass1 ss1.length css1] 67)).alloc (.cells #[.int .i64 L2, .int .i64 P2, .slice ats2 ts2.length cts2, .slice ass2 ss2.length css2] 67)) := ((Below.refl _ _).alloc (Nat.le_refl _) _).alloc (by simp) _
  have I0 : Blk ((w.alloc (.cells #[.int .i64 L1, .int .i64 P1, .slice ats1 ts1.length cts1, .slice ass1 ss1.length css1] 67)).alloc (.cells #[.int .i64 L2, .int .i64 P2, .slice ats2 ts2.length cts2, .slice ass2 ss2.length css2] 67)) w.heap.size #[.int .i64 L1, .int .i64 P1, .slice ats1 ts1.length cts1, .slice ass1 ss1.length css1] 67 := (Blk.new _ _ _).alloc _
  have J0 : Blk ((w.alloc (.cells #[.int .i64 L1, .int .i64 P1, .slice ats1 ts1.length cts1, .slice ass1 ss1.length css1] 67)).alloc (.cells #[.int .i64 L2, .int .i64 P2, .slice ats2 ts2.length cts2, .slice ass2 ss2.length css2] 67)) (w.heap.size + 1) #[.int .i64 L2, .int .i64 P2, .slice ats2 ts2.length cts2, .slice ass2 ss2.length css2] 67 := Blk.new' (by simp)
  have H0 := Lib.hid (And.intro B0 (And.intro I0 J0))
  clear B0 I0 J0
  by_cases g0 : L1 = L2
  case neg =>
    have hd0 : (L1 == L2) = false := by simpa using g0
    have E0 : Hid (¬ L1 = L2) := g0
    clear g0
    go_enter Try.func129, Try.ntmps129
    go_wp2
    go_ret
    exact ⟨ret_bool (by simp [sameWindow, E0.out]), H0.out.1⟩
  have hd0 : (L1 == L2) = true := by simpa using g0
  have E0 : Hid (L1 = L2) := g0
  clear g0
  by_cases g1 : P1 = P2
  case neg =>
    have hd1 : (P1 == P2) = false := by simpa using g1
    have E1 : Hid (¬ P1 = P2) := g1
    clear g1
    go_enter Try.func129, Try.ntmps129
    go_wp2
    go_ret
    exact ⟨ret_bool (by simp [sameWindow, E0.out, E1.out]), H0.out.1⟩
  have hd1 : (P1 == P2) = true := by simpa using g1
  have E1 : Hid (P1 = P2) := g1
  clear g1
  cases g2 : decide (ts1 = ts2) with
  | false =>
    have E2 := Lib.hid g2
    clear g2
    go_enter Try.func129, Try.ntmps129
    go_wp2_with fail
    generalize ((w.alloc (.cells #[.int .i64 L1, .int .i64 P1, .slice ats1 ts1.length cts1, .slice ass1 ss1.length css1] 67)).alloc (.cells #[.int .i64 L2, .int .i64 P2, .slice ats2 ts2.length cts2, .slice ass2 ss2.length css2] 67)) = W0 at H0 ⊢
    have B0 := Lib.hid H0.out.1
    have I0 := Lib.hid H0.out.2.1
    have J0 := Lib.hid H0.out.2.2
    clear H0
    refine (seqSlI_any (hts1.below B0.out (Nat.le_refl _)) (hts2.below B0.out (Nat.le_refl _))).mono ?_
    rintro e w1 ⟨rfl, n0, rfl⟩
    rw [E2.out]
    have hb0 := below_of_drewN W0 n0 W0.heap.size
    have B1 := Lib.hid (B0.out.trans (hb0.mono B0.out.size))
    have I1 := Lib.hid (I0.out.below hb0 (Nat.le_refl _))
    have J1 := Lib.hid (J0.out.below hb0 (Nat.le_refl _))
    clear hb0 B0 I0 J0
    generalize W0.drewN n0 = w1' at B1 I1 J1 ⊢
    go_wp2
    go_ret
    exact ⟨ret_bool (by simp only [sameWindow, E2.out]; simp), B1.out⟩
  | true =>
  have E2 := Lib.hid g2
  clear g2
  go_enter Try.func129, Try.ntmps129
  go_wp2_with fail
  generalize ((w.alloc (.cells #[.int .i64 L1, .int .i64 P1, .slice ats1 ts1.length cts1, .slice ass1 ss1.length css1] 67)).alloc (.cells #[.int .i64 L2, .int .i64 P2, .slice ats2 ts2.length cts2, .slice ass2 ss2.length css2] 67)) = W0 at H0 ⊢
  have B0 := Lib.hid H0.out.1
  have I0 := Lib.hid H0.out.2.1
  have J0 := Lib.hid H0.out.2.2
  clear H0
  refine (seqSlI_any (hts1.below B0.out (Nat.le_refl _)) (hts2.below B0.out (Nat.le_refl _))).mono ?_
  rintro e w1 ⟨rfl, n0, rfl⟩
  rw [E2.out]
  have hb0 := below_of_drewN W0 n0 W0.heap.size
  have B1 := Lib.hid (B0.out.trans (hb0.mono B0.out.size))
  have I1 := Lib.hid (I0.out.below hb0 (Nat.le_refl _))
  have J1 := Lib.hid (J0.out.below hb0 (Nat.le_refl _))
  clear hb0 B0 I0 J0
  generalize W0.drewN n0 = w1' at B1 I1 J1 ⊢
  have i1 := I1.out.cell (i := 3) (v := .slice ass1 ss1.length css1) rfl
  have j1 := J1.out.cell (i := 3) (v := .slice ass2 ss2.length css2) rfl
  go_wp2_with fail
  refine (seqSlI_any (hss1.below B1.out (Nat.le_refl _)) (hss2.below B1.out (Nat.le_refl _))).mono ?_
  rintro e w2 ⟨rfl, n1, rfl⟩
  have hb1 := below_of_drewN w1' n1 w1'.heap.size
  have B2 := Lib.hid (B1.out.trans (hb1.mono B1.out.size))
  have I2 := Lib.hid (I1.out.below hb1 (Nat.le_refl _))
  have J2 := Lib.hid (J1.out.below hb1 (Nat.le_refl _))
  clear hb1 B1 I1 J1 i1 j1
  generalize w1'.drewN n1 = w2' at B2 I2 J2 ⊢
  go_wp2
  go_ret
  exact ⟨ret_bool (by have q0 : decide (L1 = L2) = true := (by simpa using E0.out); have q1 : decide (P1 = P2) = true := (by simpa using E1.out); have q2 : decide (ts1 = ts2) = true := E2.out; simp only [sameWindow, q0, q1, q2]; simp), B2.out⟩

set_option maxHeartbeats 1000000 in
theorem sameWindowS_any {ats1 : Option Addr} {cts1 : Nat} {ts1 : List Int} {ats2 : Option Addr} {cts2 : Nat} {ts2 : List Int} {ass1 : Option Addr} {css1 : Nat} {ss1 : List Int} {ass2 : Option Addr} {css2 : Nat} {ss2 : List Int} {L1 L2 P1 P2 : Int} {b1 o1 b2 o2 : Nat} {w : World} (hts1 : Rd (Value.int .i64) w ats1 cts1 ts1) (hts2 : Rd (Value.int .i64) w ats2 cts2 ts2) (hss1 : Rd (Value.int .i64) w ass1 css1 ss1) (hss2 : Rd (Value.int .i64) w ass2 css2 ss2) (d01 : w.cell? ⟨b1, o1, none⟩ = some (.int .i64 L1)) (d11 : w.cell? ⟨b1, o1 + 1, none⟩ = some (.int .i64 P1)) (d21 : w.cell? ⟨b1, o1 + 2, none⟩ = some (.slice ats1 ts1.length cts1)) (d31 : w.cell? ⟨b1, o1 + 3, none⟩ = some (.slice ass1 ss1.length css1)) (d02 : w.cell? ⟨b2, o2, none⟩ = some (.int .i64 L2)) (d12 : w.cell? ⟨b2, o2 + 1, none⟩ = some (.int .i64 P2)) (d22 : w.cell? ⟨b2, o2 + 2, none⟩ = some (.slice ats2 ts2.length cts2)) (d32 : w.cell? ⟨b2, o2 + 3, none⟩ = some (.slice ass2 ss2.length css2)) :
    Calls Try.prog 124 #[.pointer (some ⟨b1, o1, none⟩), .pointer (some ⟨b2, o2, none⟩)] w fun e w' => e = .returned (.bool (sameWindow L1 L2 P1 P2 ts1 ts2 ss1 ss2)) ∧ ∃ n, w' = w.drewN n := by
  by_cases g0 : L1 = L2
  case neg =>
    have hd0 : (L1 == L2) = false := by simpa using g0
    have E0 : Hid (¬ L1 = L2) := g0
    clear g0
    go_enter Try.func124, Try.ntmps124
    go_wp2_with fail
    go_quiet (((first | (go_at_call 123; exact Calls.quiet_of (seqL06_any (hts1.drewN _) (hts2.drewN _))) | (go_at_call 123; exact Calls.quiet_of (seqL06_any (hss1.drewN _) (hss2.drewN _))))))
    go_wp2
    go_ret
    exact ⟨ret_bool (by simp [sameWindow, E0.out]), _, rfl⟩
  have hd0 : (L1 == L2) = true := by simpa using g0
  have E0 : Hid (L1 = L2) := g0
  clear g0
  by_cases g1 : P1 = P2
  case neg =>
    have hd1 : (P1 == P2) = false := by simpa using g1
    have E1 : Hid (¬ P1 = P2) := g1
    clear g1
    go_enter Try.func124, Try.ntmps124
    go_wp2_with fail
    go_quiet (((first | (go_at_call 123; exact Calls.quiet_of (seqL06_any (hts1.drewN _) (hts2.drewN _))) | (go_at_call 123; exact Calls.quiet_of (seqL06_any (hss1.drewN _) (hss2.drewN _))))))
    go_wp2
    go_ret
    exact ⟨ret_bool (by simp [sameWindow, E0.out, E1.out]), _, rfl⟩
  have hd1 : (P1 == P2) = true := by simpa using g1
  have E1 : Hid (P1 = P2) := g1
  clear g1
  cases g2 : decide (ts1 = ts2) with
  | false =>
    have E2 := Lib.hid g2
    go_enter Try.func124, Try.ntmps124
    go_wp2_with fail
    go_quiet (((first | (go_at_call 123; exact Calls.quiet_of (seqL06_any (hts1.drewN _) (hts2.drewN _))) | (go_at_call 123; exact Calls.quiet_of (seqL06_any (hss1.drewN _) (hss2.drewN _))))))
    go_wp2
    go_ret
    exact ⟨ret_bool (by simp only [sameWindow, E2.out]; simp), _, rfl⟩
  | true =>
  have E2 := Lib.hid g2
  go_enter Try.func124, Try.ntmps124
  go_wp2_with fail
  go_quiet (((first | (go_at_call 123; exact Calls.quiet_of (seqL06_any (hts1.drewN _) (hts2.drewN _))) | (go_at_call 123; exact Calls.quiet_of (seqL06_any (hss1.drewN _) (hss2.drewN _))))))
  go_wp2
  go_ret
  exact ⟨ret_bool (by have q0 : decide (L1 = L2) = true := (by simpa using E0.out); have q1 : decide (P1 = P2) = true := (by simpa using E1.out); have q2 : decide (ts1 = ts2) = true := E2.out; simp only [sameWindow, q0, q1, q2]; simp), _, rfl⟩

end Go.Proofs.Ytbgchlllblkhiaa
