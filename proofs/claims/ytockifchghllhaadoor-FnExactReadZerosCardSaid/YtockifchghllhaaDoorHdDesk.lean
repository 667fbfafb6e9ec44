/- held.. on sieves, zeros, windows, desks. -/
import Derived.Test.YtockifchghllhaaDoorMkDesk
namespace Go.Proofs.YtockifchghllhaaDoor
open Go.RowKit

set_option maxHeartbeats 800000 in
theorem heldSieve_any {a : Option Addr} {c k0 n : Nat} {R S : Int} {w : World} (hr : Rd (Value.bool) w a c (marks boolM k0 n)) (hk : k0 + n ≤ 4611686018427387904) :
    Calls Tryd.prog 41 #[.agg #[.int .i64 R, .int .i64 S, .slice a n c], .int .i64 k0] w fun e w' => e = .returned (.int .i64 ((k0 + n : Nat) : Int)) ∧ Below w.heap.size w w' := by
  have hB : Below w.heap.size w (w.alloc (.cells #[.int .i64 R, .int .i64 S, .slice a n c] 31)) := (Below.refl _ _).alloc (Nat.le_refl _) _
  have HR := Lib.hid (hr.below hB (Nat.le_refl _))
  have HB := Lib.hid hB
  clear hr hB
  go_enter Tryd.func41, Tryd.ntmps41
  go_wp2_with fail
  refine (heldB_any HR.out hk).mono ?_
  rintro e w1 ⟨rfl, hb⟩
  have HC := Lib.hid (HB.out.trans (hb.mono HB.out.size))
  clear hb
  go_wp2
  go_ret
  exact ⟨rfl, HC.out⟩

set_option maxHeartbeats 800000 in
theorem heldZeros_any {a : Option Addr} {c k0 n : Nat} {Z : Int} {w : World} (hr : Rd (Value.int .i64) w a c (marks intM k0 n)) (hk : k0 + n ≤ 4611686018427387904) :
    Calls Tryd.prog 45 #[.agg #[.int .i64 Z, .slice a n c], .int .i64 k0] w fun e w' => e = .returned (.int .i64 ((k0 + n : Nat) : Int)) ∧ Below w.heap.size w w' := by
  have hB : Below w.heap.size w (w.alloc (.cells #[.int .i64 Z, .slice a n c] 46)) := (Below.refl _ _).alloc (Nat.le_refl _) _
  have HR := Lib.hid (hr.below hB (Nat.le_refl _))
  have HB := Lib.hid hB
  clear hr hB
  go_enter Tryd.func45, Tryd.ntmps45
  go_wp2_with fail
  refine (heldI_any HR.out hk).mono ?_
  rintro e w1 ⟨rfl, hb⟩
  have HC := Lib.hid (HB.out.trans (hb.mono HB.out.size))
  clear hb
  go_wp2
  go_ret
  exact ⟨rfl, HC.out⟩

set_option maxHeartbeats 800000 in
theorem heldWindow_any {ta sa : Option Addr} {tc sc k0 n m : Nat} {L P : Int} {w : World} (ht : Rd (Value.int .i64) w ta tc (marks intM k0 n)) (hs : Rd (Value.int .i64) w sa sc (marks intM (k0 + n) m)) (hk : k0 + n + m ≤ 4611686018427387904) :
    Calls Tryd.prog 49 #[.agg #[.int .i64 L, .int .i64 P, .slice ta n tc, .slice sa m sc], .int .i64 k0] w fun e w' => e = .returned (.int .i64 ((k0 + n + m : Nat) : Int)) ∧ Below w.heap.size w w' := by
  have hB : Below w.heap.size w (w.alloc (.cells #[.int .i64 L, .int .i64 P, .slice ta n tc, .slice sa m sc] 56)) := (Below.refl _ _).alloc (Nat.le_refl _) _
  have I0 : Hid (Blk (w.alloc (.cells #[.int .i64 L, .int .i64 P, .slice ta n tc, .slice sa m sc] 56)) w.heap.size #[.int .i64 L, .int .i64 P, .slice ta n tc, .slice sa m sc] 56) := Lib.hid (Blk.new _ _ _)
  have HB := Lib.hid hB
  clear hB
  go_enter Tryd.func49, Tryd.ntmps49
  go_wp2_with fail
  generalize w.alloc (.cells #[.int .i64 L, .int .i64 P, .slice ta n tc, .slice sa m sc] 56) = w0 at HB I0 ⊢
  refine (heldI_any (ht.below HB.out (Nat.le_refl _)) (by omega)).mono ?_
  rintro e w1 ⟨rfl, hb⟩
  have HC := Lib.hid (HB.out.trans (hb.mono HB.out.size))
  have I1 := Lib.hid (I0.out.below hb (Nat.le_refl _))
  clear hb HB I0
  have i3 := I1.out.cell (i := 3) (v := .slice sa m sc) rfl
  go_wp2_with fail
  refine (heldI_any (k0 := k0 + n) (hs.below HC.out (Nat.le_refl _)) (by omega)).mono ?_
  rintro e w2 ⟨rfl, hb⟩
  have HD := Lib.hid (HC.out.trans (hb.mono HC.out.size))
  clear hb
  go_wp2
  go_ret
  exact ⟨rfl, HD.out⟩

end Go.Proofs.YtockifchghllhaaDoor
