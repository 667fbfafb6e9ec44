/- held.. on sieves, zeros, windows, desks. -/
import Derived.Test.YtofbnddmahjanaaMkDesk
namespace Go.Proofs.Ytofbnddmahjanaa
open Go.RowKit

set_option maxHeartbeats 800000 in
theorem heldSieve_any {a : Option Addr} {c k0 n : Nat} {R S : Int} {w : World} (hr : Rd (Value.bool) w a c (marks boolM k0 n)) (hk : k0 + n ≤ 4611686018427387904) :
    Calls Try.prog 85 #[.agg #[.int .i64 R, .int .i64 S, .slice a n c], .int .i64 k0] w fun e w' => e = .returned (.int .i64 ((k0 + n : Nat) : Int)) ∧ Below w.heap.size w w' := by
  have hB : Below w.heap.size w (w.alloc (.cells #[.int .i64 R, .int .i64 S, .slice a n c] 49)) := (Below.refl _ _).alloc (Nat.le_refl _) _
  have HR := Lib.hid (hr.below hB (Nat.le_refl _))
  have HB := Lib.hid hB
  clear hr hB
  go_enter Try.func85, Try.ntmps85
  go_wp2_with fail
  refine (heldB_any HR.out hk).mono ?_
  rintro e w1 ⟨rfl, hb⟩
  have HC := Lib.hid (HB.out.trans (hb.mono HB.out.size))
  clear hb
  go_wp2
  go_ret
  exact ⟨rfl, HC.out⟩

set_option maxHeartbeats 800000 in
theorem heldZeros_any {a : Option Addr} {c k0 n : Nat} {Z : Int} {w : World} (hr : Rd (Value.int .i64) w a c (marks intM k0 n)) (hk : k0 + n ≤ 4611686018427387904) :
    Calls Try.prog 86 #[.agg #[.int .i64 Z, .slice a n c], .int .i64 k0] w fun e w' => e = .returned (.int .i64 ((k0 + n : Nat) : Int)) ∧ Below w.heap.size w w' := by
  have hB : Below w.heap.size w (w.alloc (.cells #[.int .i64 Z, .slice a n c] 51)) := (Below.refl _ _).alloc (Nat.le_refl _) _
  have HR := Lib.hid (hr.below hB (Nat.le_refl _))
  have HB := Lib.hid hB
  clear hr hB
  go_enter Try.func86, Try.ntmps86
  go_wp2_with fail
  refine (heldI_any HR.out hk).mono ?_
  rintro e w1 ⟨rfl, hb⟩
  have HC := Lib.hid (HB.out.trans (hb.mono HB.out.size))
  clear hb
  go_wp2
  go_ret
  exact ⟨rfl, HC.out⟩

set_option maxHeartbeats 800000 in
theorem heldWindow_any {ta sa : Option Addr} {tc sc k0 n m : Nat} {L P : Int} {w : World} (ht : Rd (Value.int .i64) w ta tc (marks intM k0 n)) (hs : Rd (Value.int .i64) w sa sc (marks intM (k0 + n) m)) (hk : k0 + n + m ≤ 4611686018427387904) :
    Calls Try.prog 43 #[.agg #[.int .i64 L, .int .i64 P, .slice ta n tc, .slice sa m sc], .int .i64 k0] w fun e w' => e = .returned (.int .i64 ((k0 + n + m : Nat) : Int)) ∧ Below w.heap.size w w' := by
  have hB : Below w.heap.size w (w.alloc (.cells #[.int .i64 L, .int .i64 P, .slice ta n tc, .slice sa m sc] 53)) := (Below.refl _ _).alloc (Nat.le_refl _) _
  have I0 : Hid (Blk (w.alloc (.cells #[.int .i64 L, .int .i64 P, .slice ta n tc, .slice sa m sc] 53)) w.heap.size #[.int .i64 L, .int .i64 P, .slice ta n tc, .slice sa m sc] 53) := Lib.hid (Blk.new _ _ _)
  have HB := Lib.hid hB
  clear hB
  go_enter Try.func43, Try.ntmps43
  go_wp2_with fail
  generalize w.alloc (.cells #[.int .i64 L, .int .i64 P, .slice ta n tc, .slice sa m sc] 53) = w0 at HB I0 ⊢
  refine (heldI_any (ht.below HB.out (Nat.le_refl _)) (by omega)).mono ?_
  rintro e w1 ⟨rfl, hb⟩
  have HC := Lib.hid (HB.out.trans (hb.mono HB.out.size))
  have I1 := Lib.hid (I0.out.below hb (Nat.le_refl _))
  clear hb HB I0
  have i3 := I1.out.cell (i := 3) (v := .slice sa m sc) rfl
  go_wp2_with fail
  refine (heldI_any (k0 := k0 + n) (hs.below HC.out (Nat.le_refl _)) (by omega)).mono ?_
  rintro e w2 ⟨rfl, hb⟩
  have HD := Lib.hid (HC.out.trans (hb.mono HC.out.size))
  clear hb
  go_wp2
  go_ret
  exact ⟨rfl, HD.out⟩

set_option maxHeartbeats 1600000 in
theorem heldDesk_any {ba za ka : Option Addr} {bc zc kc k0 nb nz nk : Nat} {R S Z L P : Int} {w : World} (hb : Rd (Value.bool) w ba bc (marks boolM k0 nb)) (hz : Rd (Value.int .i64) w za zc (marks intM (k0 + nb) nz)) (hq : Rd (Value.int .i64) w ka kc (marks intM (k0 + nb + nz) nk)) (hk : k0 + nb + nz + nk ≤ 4611686018427387904) :
    Calls Try.prog 33 #[.agg #[.int .i64 R, .int .i64 S, .slice ba nb bc, .int .i64 Z, .slice za nz zc, .int .i64 L, .int .i64 P, .slice none 0 0, .slice none 0 0, .slice ka nk kc], .int .i64 k0] w fun e w' => e = .returned (.int .i64 ((k0 + nb + nz + nk : Nat) : Int)) ∧ Below w.heap.size w w' := by
  have hB : Below w.heap.size w (w.alloc (.cells #[.int .i64 R, .int .i64 S, .slice ba nb bc, .int .i64 Z, .slice za nz zc, .int .i64 L, .int .i64 P, .slice none 0 0, .slice none 0 0, .slice ka nk kc] 55)) := (Below.refl _ _).alloc (Nat.le_refl _) _
  have I0 : Hid (Blk (w.alloc (.cells #[.int .i64 R, .int .i64 S, .slice ba nb bc, .int .i64 Z, .slice za nz zc, .int .i64 L, .int .i64 P, .slice none 0 0, .slice none 0 0, .slice ka nk kc] 55)) w.heap.size #[.int .i64 R, .int .i64 S, .slice ba nb bc, .int .i64 Z, .slice za nz zc, .int .i64 L, .int .i64 P, .slice none 0 0, .slice none 0 0, .slice ka nk kc] 55) := Lib.hid (Blk.new _ _ _)
  have B0 := Lib.hid hB
  clear hB
  go_enter Try.func33, Try.ntmps33
  go_wp2_with fail
  generalize w.alloc (.cells #[.int .i64 R, .int .i64 S, .slice ba nb bc, .int .i64 Z, .slice za nz zc, .int .i64 L, .int .i64 P, .slice none 0 0, .slice none 0 0, .slice ka nk kc] 55) = w0 at B0 I0 ⊢
  refine (heldSieve_any (hb.below B0.out (Nat.le_refl _)) (by omega)).mono ?_
  rintro e w1 ⟨rfl, h1⟩
  have B1 := Lib.hid (B0.out.trans (h1.mono B0.out.size))
  have I1 := Lib.hid (I0.out.below h1 (Nat.le_refl _))
  clear h1 B0 I0
  have i3 := I1.out.cell (i := 3) (v := .int .i64 Z) rfl
  have i4 := I1.out.cell (i := 4) (v := .slice za nz zc) rfl
  go_wp2_with fail
  refine (heldZeros_any (k0 := k0 + nb) (hz.below B1.out (Nat.le_refl _)) (by omega)).mono ?_
  rintro e w2 ⟨rfl, h1⟩
  have B2 := Lib.hid (B1.out.trans (h1.mono B1.out.size))
  have I2 := Lib.hid (I1.out.below h1 (Nat.le_refl _))
  clear h1 B1 I1 i3 i4
  have i5 := I2.out.cell (i := 5) (v := .int .i64 L) rfl
  have i6 := I2.out.cell (i := 6) (v := .int .i64 P) rfl
  have i7 := I2.out.cell (i := 7) (v := .slice none 0 0) rfl
  have i8 := I2.out.cell (i := 8) (v := .slice none 0 0) rfl
  go_wp2_with fail
  refine (heldWindow_any (k0 := k0 + nb + nz) (n := 0) (m := 0) (own_nil _ 2 _ 0).rd (own_nil _ 2 _ 0).rd (by omega)).mono ?_
  rintro e w3 ⟨rfl, h1⟩
  have B3 := Lib.hid (B2.out.trans (h1.mono B2.out.size))
  have I3 := Lib.hid (I2.out.below h1 (Nat.le_refl _))
  clear h1 B2 I2 i5 i6 i7 i8
  have i9 := I3.out.cell (i := 9) (v := .slice ka nk kc) rfl
  go_wp2_with fail
  refine (heldI_any (k0 := k0 + nb + nz) (hq.below B3.out (Nat.le_refl _)) (by omega)).mono ?_
  rintro e w4 ⟨rfl, h1⟩
  have B4 := Lib.hid (B3.out.trans (h1.mono B3.out.size))
  clear h1
  go_wp2
  go_ret
  exact ⟨rfl, B4.out⟩

end Go.Proofs.Ytofbnddmahjanaa
