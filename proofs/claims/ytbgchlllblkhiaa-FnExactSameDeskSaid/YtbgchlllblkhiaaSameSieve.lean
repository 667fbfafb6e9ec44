/- Are two the same: Sieve. -/
import Derived.Test.YtbgchlllblkhiaaSeqL04
import Derived.Test.YtbgchlllblkhiaaSeqSlB
import Derived.Test.YtbgchlllblkhiaaBlk
import Derived.Test.YtbgchlllblkhiaaCalm
namespace Go.Proofs.Ytbgchlllblkhiaa
open Go.RowKit

def sameSieve (R1 R2 : Int) (S1 S2 : Int) (bs1 bs2 : List Bool) : Bool := decide (R1 = R2) && decide (S1 = S2) && decide (bs1 = bs2)

set_option maxHeartbeats 1000000 in
theorem sameSieveI_any {abs1 : Option Addr} {cbs1 : Nat} {bs1 : List Bool} {abs2 : Option Addr} {cbs2 : Nat} {bs2 : List Bool} {R1 R2 S1 S2 : Int} {w : World} (hbs1 : Rd (Value.bool) w abs1 cbs1 bs1) (hbs2 : Rd (Value.bool) w abs2 cbs2 bs2) :
    Calls Try.prog 127 #[.agg #[.int .i64 R1, .int .i64 S1, .slice abs1 bs1.length cbs1], .agg #[.int .i64 R2, .int .i64 S2, .slice abs2 bs2.length cbs2]] w fun e w' => e = .returned (.bool (sameSieve R1 R2 S1 S2 bs1 bs2)) ∧ Below w.heap.size w w' := by
  have B0 : Below w.heap.size w ((w.alloc (.cells #[.int .i64 R1, .int .i64 S1, .slice abs1 bs1.length cbs1] 88)).alloc (.cells #[.int .i64 R2, .int .i64 S2, .slice abs2 bs2.length cbs2] 88)) := ((Below.refl _ _).alloc (Nat.le_refl _) _).alloc (by simp) _
  have I0 : Blk ((w.alloc (.cells #[.int .i64 R1, .int .i64 S1, .slice abs1 bs1.length cbs1] 88)).alloc (.cells #[.int .i64 R2, .int .i64 S2, .slice abs2 bs2.length cbs2] 88)) w.heap.size #[.int .i64 R1, .int .i64 S1, .slice abs1 bs1.length cbs1] 88 := (Blk.new _ _ _).alloc _
  have J0 : Blk ((w.alloc (.cells #[.int .i64 R1, .int .i64 S1, .slice abs1 bs1.length cbs1] 88)).alloc (.cells #[.int .i64 R2, .int .i64 S2, .slice abs2 bs2.length cbs2] 88)) (w.heap.size + 1) #[.int .i64 R2, .int .i64 S2, .slice abs2 bs2.length cbs2] 88 := Blk.new' (by simp)
  have H0 := Lib.hid (And.intro B0 (And.intro I0 J0))
  clear B0 I0 J0
  by_cases g0 : R1 = R2
  case neg =>
    have hd0 : (R1 == R2) = false := by simpa using g0
    have E0 : Hid (¬ R1 = R2) := g0
    clear g0
    go_enter Try.func127, Try.ntmps127
    go_wp2
    go_ret
    exact ⟨ret_bool (by simp [sameSieve, E0.out]), H0.out.1⟩
  have hd0 : (R1 == R2) = true := by simpa using g0
  have E0 : Hid (R1 = R2) := g0
  clear g0
  by_cases g1 : S1 = S2
  case neg =>
    have hd1 : (S1 == S2) = false := by simpa using g1
    have E1 : Hid (¬ S1 = S2) := g1
    clear g1
    go_enter Try.func127, Try.ntmps127
    go_wp2
    go_ret
    exact ⟨ret_bool (by simp [sameSieve, E0.out, E1.out]), H0.out.1⟩
  have hd1 : (S1 == S2) = true := by simpa using g1
  have E1 : Hid (S1 = S2) := g1
  clear g1
  go_enter Try.func127, Try.ntmps127
  go_wp2_with fail
  generalize ((w.alloc (.cells #[.int .i64 R1, .int .i64 S1, .slice abs1 bs1.length cbs1] 88)).alloc (.cells #[.int .i64 R2, .int .i64 S2, .slice abs2 bs2.length cbs2] 88)) = W0 at H0 ⊢
  have B0 := Lib.hid H0.out.1
  have I0 := Lib.hid H0.out.2.1
  have J0 := Lib.hid H0.out.2.2
  clear H0
  refine (seqSlB_any (hbs1.below B0.out (Nat.le_refl _)) (hbs2.below B0.out (Nat.le_refl _))).mono ?_
  rintro e w1 ⟨rfl, n0, rfl⟩
  have hb0 := below_of_drewN W0 n0 W0.heap.size
  have B1 := Lib.hid (B0.out.trans (hb0.mono B0.out.size))
  have I1 := Lib.hid (I0.out.below hb0 (Nat.le_refl _))
  have J1 := Lib.hid (J0.out.below hb0 (Nat.le_refl _))
  clear hb0 B0 I0 J0
  generalize W0.drewN n0 = w1' at B1 I1 J1 ⊢
  go_wp2
  go_ret
  exact ⟨ret_bool (by have q0 : decide (R1 = R2) = true := (by simpa using E0.out); have q1 : decide (S1 = S2) = true := (by simpa using E1.out); simp only [sameSieve, q0, q1]; simp), B1.out⟩

set_option maxHeartbeats 1000000 in
theorem sameSieveS_any {abs1 : Option Addr} {cbs1 : Nat} {bs1 : List Bool} {abs2 : Option Addr} {cbs2 : Nat} {bs2 : List Bool} {R1 R2 S1 S2 : Int} {b1 o1 b2 o2 : Nat} {w : World} (hbs1 : Rd (Value.bool) w abs1 cbs1 bs1) (hbs2 : Rd (Value.bool) w abs2 cbs2 bs2) (d01 : w.cell? ⟨b1, o1, none⟩ = some (.int .i64 R1)) (d11 : w.cell? ⟨b1, o1 + 1, none⟩ = some (.int .i64 S1)) (d21 : w.cell? ⟨b1, o1 + 2, none⟩ = some (.slice abs1 bs1.length cbs1)) (d02 : w.cell? ⟨b2, o2, none⟩ = some (.int .i64 R2)) (d12 : w.cell? ⟨b2, o2 + 1, none⟩ = some (.int .i64 S2)) (d22 : w.cell? ⟨b2, o2 + 2, none⟩ = some (.slice abs2 bs2.length cbs2)) :
    Calls Try.prog 122 #[.pointer (some ⟨b1, o1, none⟩), .pointer (some ⟨b2, o2, none⟩)] w fun e w' => e = .returned (.bool (sameSieve R1 R2 S1 S2 bs1 bs2)) ∧ ∃ n, w' = w.drewN n := by
  by_cases g0 : R1 = R2
  case neg =>
    have hd0 : (R1 == R2) = false := by simpa using g0
    have E0 : Hid (¬ R1 = R2) := g0
    clear g0
    go_enter Try.func122, Try.ntmps122
    go_wp2_with fail
    go_quiet (((first | (go_at_call 163; exact Calls.quiet_of (seqL04_any (hbs1.drewN _) (hbs2.drewN _))))))
    go_wp2
    go_ret
    exact ⟨ret_bool (by simp [sameSieve, E0.out]), _, rfl⟩
  have hd0 : (R1 == R2) = true := by simpa using g0
  have E0 : Hid (R1 = R2) := g0
  clear g0
  by_cases g1 : S1 = S2
  case neg =>
    have hd1 : (S1 == S2) = false := by simpa using g1
    have E1 : Hid (¬ S1 = S2) := g1
    clear g1
    go_enter Try.func122, Try.ntmps122
    go_wp2_with fail
    go_quiet (((first | (go_at_call 163; exact Calls.quiet_of (seqL04_any (hbs1.drewN _) (hbs2.drewN _))))))
    go_wp2
    go_ret
    exact ⟨ret_bool (by simp [sameSieve, E0.out, E1.out]), _, rfl⟩
  have hd1 : (S1 == S2) = true := by simpa using g1
  have E1 : Hid (S1 = S2) := g1
  clear g1
  go_enter Try.func122, Try.ntmps122
  go_wp2_with fail
  go_quiet (((first | (go_at_call 163; exact Calls.quiet_of (seqL04_any (hbs1.drewN _) (hbs2.drewN _))))))
  go_wp2
  go_ret
  exact ⟨ret_bool (by have q0 : decide (R1 = R2) = true := (by simpa using E0.out); have q1 : decide (S1 = S2) = true := (by simpa using E1.out); simp only [sameSieve, q0, q1]; simp), _, rfl⟩

end Go.Proofs.Ytbgchlllblkhiaa
