/- A new sieve, a new window. -/
import Derived.Test.YtofbnddmahjanaaValS
import Derived.Test.YtofbnddmahjanaaToB
import Derived.Test.YtofbnddmahjanaaBlk
namespace Go.Proofs.Ytofbnddmahjanaa
open Go.RowKit

set_option maxHeartbeats 1000000 in
theorem implNewSieve_any {w : World} :
    Calls Try.prog 79 #[.int .i64 32, .int .i64 2, .int .i64 7] w fun e w' => ∃ b, e = .returned (.tuple #[.agg #[.int .i64 2, .int .i64 7, .slice (some ⟨b, 0, none⟩) 32 32], .bool true]) ∧ Own (Value.bool) 4 w' w.heap.size (some ⟨b, 0, none⟩) 32 (List.replicate 32 false) ∧ Below w.heap.size w w' := by
  have h1 : inR 32 1 512 = true := by decide
  have h2 : inR 2 1 8 = true := by decide
  have h3 : isKey 7 = true := by decide
  go_enter Try.func79, Try.ntmps79
  go_wp2_with fail
  refine (within_any _ _ _ _).mono ?_
  rintro e w1 ⟨rfl, rfl⟩
  rw [h1]
  go_wp2_with fail
  refine areRounds_any.mono ?_
  rintro e w1 ⟨rfl, rfl⟩
  rw [h2]
  go_wp2_with fail
  refine implIsKey_any.mono ?_
  rintro e w1 ⟨rfl, rfl⟩
  rw [h3]
  go_wp2_with (at_make; refine wpl_make (f := Value.bool) (d := false) und_bse info_b rfl 32 rfl _ _ rfl rfl rfl (by omega) (by omega) ?_; intro w1 ho0 hb0; have I1 := (Blk.new w #[.int .i64 0, .int .i64 0, .slice none 0 0] 49).below hb0 (Nat.le_refl _); have r0 := I1.cell (i := 0) (v := .int .i64 0) rfl; have r1 := I1.cell (i := 1) (v := .int .i64 0) rfl; have r2 := I1.cell (i := 2) (v := .slice none 0 0) rfl; have q0 := I1.free 0; have q1 := I1.free 1; have q2 := I1.free 2; have HO := Lib.hid ho0; have HB := Lib.hid hb0; clear ho0 hb0 I1)
  have BB := Lib.hid (((Below.refl w.heap.size w).alloc (Nat.le_refl _) _).trans (HB.out.mono (by simp)))
  refine bodyPost_ret (v := .tuple #[.agg #[.int .i64 2, .int .i64 7, .slice (some ⟨w.heap.size + 1, 0, none⟩) 32 32], .bool true]) (by simp [results, Try.results79, go_sem, r0, r1, r2]) rfl ⟨_, rfl, ?_, ((BB.out.setCell (by simp) _).setCell (by simp) _).setCell (by simp) _⟩
  have ho := HO.out
  rw [show (w.alloc (Obj.cells #[.int .i64 0, .int .i64 0, .slice none 0 0] 49)).heap.size = w.heap.size + 1 by simp] at ho
  refine Own.mono (base := w.heap.size + 1) ?_ (by omega)
  refine Own.setFar (Own.setFar (Own.setFar ho _ _ ?_) _ _ ?_) _ _ ?_
  all_goals simp

set_option maxHeartbeats 1000000 in
theorem implNewWindow_any {w : World} :
    Calls Try.prog 80 #[.int .i64 10, .int .i64 1] w fun e w' => e = .returned (.tuple #[.agg #[.int .i64 10, .int .i64 1, .slice none 0 0, .slice none 0 0], .bool true]) ∧ Below w.heap.size w w' := by
  have h1 : winB 10 1 [] [] = true := by decide
  go_enter Try.func80, Try.ntmps80
  go_wp2_with fail
  refine (validWindow_any (ts := []) (ss := []) (own_nil _ 2 _ 0).rd (own_nil _ 2 _ 0).rd).mono ?_
  rintro e w1 ⟨rfl, hb⟩
  rw [h1]
  have I0 := ((Blk.new w #[.int .i64 0, .int .i64 0, .slice none 0 0, .slice none 0 0] 53).alloc (.cells #[.int .i64 10, .int .i64 1, .slice none 0 0, .slice none 0 0] 53)).below (hb.mono (by simp)) (Nat.le_refl _)
  have I1 := (Blk.new (w.alloc (.cells #[.int .i64 0, .int .i64 0, .slice none 0 0, .slice none 0 0] 53)) #[.int .i64 10, .int .i64 1, .slice none 0 0, .slice none 0 0] 53).below (hb.mono (by simp)) (Nat.le_refl _)
  have BB := Lib.hid ((((Below.refl w.heap.size w).alloc (Nat.le_refl _) _).alloc (by simp) _).trans (hb.mono (by simp; omega)))
  clear hb
  have r0 := I0.cell (i := 0) (v := .int .i64 0) rfl
  have r1 := I0.cell (i := 1) (v := .int .i64 0) rfl
  have r2 := I0.cell (i := 2) (v := .slice none 0 0) rfl
  have r3 := I0.cell (i := 3) (v := .slice none 0 0) rfl
  have q0 := I0.free 0
  have q1 := I0.free 1
  have q2 := I0.free 2
  have q3 := I0.free 3
  have s0 := I1.cell (i := 0) (v := .int .i64 10) rfl
  have s1 := I1.cell (i := 1) (v := .int .i64 1) rfl
  have s2 := I1.cell (i := 2) (v := .slice none 0 0) rfl
  have s3 := I1.cell (i := 3) (v := .slice none 0 0) rfl
  have hz : (w.alloc (.cells #[.int .i64 0, .int .i64 0, .slice none 0 0, .slice none 0 0] 53)).heap.size = w.heap.size + 1 := by simp
  rw [hz] at s0 s1 s2 s3
  clear I0 I1 hz
  go_wp2
  refine bodyPost_ret (v := .tuple #[.agg #[.int .i64 10, .int .i64 1, .slice none 0 0, .slice none 0 0], .bool true]) (by simp [results, Try.results80, go_sem, r0, r1, r2, r3]) rfl ⟨rfl, (((BB.out.setCell (by simp) _).setCell (by simp) _).setCell (by simp) _).setCell (by simp) _⟩

end Go.Proofs.Ytofbnddmahjanaa
