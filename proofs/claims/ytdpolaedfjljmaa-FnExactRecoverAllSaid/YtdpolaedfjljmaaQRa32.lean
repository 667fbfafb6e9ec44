/- The walk of the law FnExactRecoverAll. -/
import Derived.Test.YtdpolaedfjljmaaQRa30
import Derived.Test.YtdpolaedfjljmaaQRa31
namespace Go.Proofs.Ytdpolaedfjljmaa
open Go.RowKit
attribute [local go_sem ↓] Go.wp_at_zero Go.wp_at_succ

set_option maxRecDepth 20000 in
set_option maxHeartbeats 4000000 in
theorem lawRecoverAll_walk {s : ByteArray} {w : World} :
    Calls Try.prog 4 #[.string s] w fun e w' => e = .returned (.bool true) ∧ Below w.heap.size w w' := by
  by_cases hs : s.size ≤ 1048576
  · have HS := Lib.hid (fun w' => specRecoverAll_any (s := s) (w := w') hs)
    have HI := Lib.hid (fun w' => recoverAll_any (s := s) (w := w') hs)
    have h8 := raL_len s
    have hfs := raL_sum s
    generalize raL s = ss at HS HI h8 hfs
    generalize raN s = n at HS HI
    have hsz2 : ¬ (1048576 : Int) < (s.size : Int) := by omega
    have hnb : ((n : Int) != (n : Int)) = false := by simp
    have hnf : ((((1 + fsum ss : Nat) : Int)) != (((1 + fsum ss : Nat) : Int))) = false := by simp
    have hng : ¬ ((((1 + fsum ss : Nat) : Int)) < 0) := by omega
    go_enter Try.func4, Try.ntmps4
    go_wp2_with fail
    refine (HS.out _).mono ?_
    rintro e w1 ⟨a1, c1, q1, rfl, l1, b1⟩
    have L1 := Lib.hid l1
    have B1 := Lib.hid b1
    clear l1 b1
    go_wp2_with fail
    refine (HI.out _).mono ?_
    rintro e w2 ⟨a2, c2, q2, rfl, l2, b2⟩
    have L2 := Lib.hid l2
    have C2 := Lib.hid b2
    clear l2 b2
    go_wp2_with fail
    refine (eqSavedS_same L2.out.rd (L1.out.below C2.out (Nat.le_refl _)).rd).mono ?_
    rintro e w3 ⟨rfl, b3⟩
    have L3 := Lib.hid (L2.out.below b3 (Nat.le_refl _))
    have C3 := Lib.hid (C2.out.trans (b3.mono C2.out.size))
    clear b3 L2 C2
    go_wp2_with fail
    refine (markSavedS_any (k0 := 1) L3.out C3.out.size (by omega) (by omega) (by omega)).mono ?_
    rintro e w4 ⟨rfl, l4, b4⟩
    have L4 := Lib.hid l4
    have C4 := Lib.hid (C3.out.trans b4)
    clear b4 l4 L3 C3
    go_wp2_with fail
    refine (heldSavedS_any (k0 := 1) (ss := ss) L4.out.rd (by omega) (by omega) (by omega)).mono ?_
    rintro e w5 ⟨rfl, b5⟩
    have L5 := Lib.hid (L4.out.below b5 (Nat.le_refl _))
    have C5 := Lib.hid (C4.out.trans (b5.mono C4.out.size))
    clear b5 L4 C4
    go_wp2_with fail
    refine (HI.out _).mono ?_
    rintro e w6 ⟨a6, c6, q6, rfl, l6, b6⟩
    have M6 := Lib.hid l6
    have L6 := Lib.hid (L5.out.below b6 (Nat.le_refl _))
    have C6 := Lib.hid (C5.out.trans (b6.mono C5.out.size))
    clear l6 b6 L5 C5
    go_wp2_with fail
    refine (eqSavedS_same M6.out.rd (L1.out.below C6.out (Nat.le_refl _)).rd).mono ?_
    rintro e w7 ⟨rfl, b7⟩
    have L7 := Lib.hid (L6.out.below b7 (Nat.le_refl _))
    have C7 := Lib.hid (C6.out.trans (b7.mono C6.out.size))
    clear b7 L6 C6 M6
    go_wp2_with fail
    refine (heldSavedS_any (k0 := 1) (ss := ss) L7.out.rd (by omega) (by omega) (by omega)).mono ?_
    rintro e w8 ⟨rfl, b8⟩
    have C8 := Lib.hid (C7.out.trans (b8.mono C7.out.size))
    clear b8 L7 C7
    go_wp2
    go_ret
    exact ⟨rfl, B1.out.trans (C8.out.mono B1.out.size)⟩
  · have hd : (1048576 : Int) < (s.size : Int) := by omega
    go_enter Try.func4, Try.ntmps4
    go_wp2
    go_ret
    exact ⟨rfl, Below.refl _ _⟩

end Go.Proofs.Ytdpolaedfjljmaa
