/- impl.NewWindow: walked. -/
import Derived.Test.YtncbkbfkdgggkaaQWn12
import Derived.Test.YtncbkbfkdgggkaaQWn40
namespace Go.Proofs.Ytncbkbfkdgggkaa
open Go.RowKit
attribute [local go_sem ↓] Go.wp_at_zero Go.wp_at_succ

set_option maxHeartbeats 1000000 in
theorem newWindow_any {L P : Int} {w : World} (hL : 1 ≤ L ∧ L ≤ 1000000) (hP : 1 ≤ P ∧ P ≤ 16) :
    Calls Try.prog 7 #[.int .i64 L, .int .i64 P] w fun e w' => e = .returned (.tuple #[.agg #[.int .i64 L, .int .i64 P, .slice none 0 0, .slice none 0 0], .bool true]) ∧ Below w.heap.size w w' := by
  have h1 : winB L P [] [] = true := winB_nil hL hP
  clear hL hP
  go_enter Try.func7, Try.ntmps7
  go_wp2_with fail
  refine (validWindow_any (ts := []) (ss := []) (own_nil _ 2 _ 0).rd (own_nil _ 2 _ 0).rd).mono ?_
  rintro e w1 ⟨rfl, hb⟩
  rw [h1]
  have I0 := ((Blk.new w #[.int .i64 0, .int .i64 0, .slice none 0 0, .slice none 0 0] 28).alloc (.cells #[.int .i64 L, .int .i64 P, .slice none 0 0, .slice none 0 0] 28)).below (hb.mono (by simp)) (Nat.le_refl _)
  have I1 := (Blk.new (w.alloc (.cells #[.int .i64 0, .int .i64 0, .slice none 0 0, .slice none 0 0] 28)) #[.int .i64 L, .int .i64 P, .slice none 0 0, .slice none 0 0] 28).below (hb.mono (by simp)) (Nat.le_refl _)
  have BB := Lib.hid ((((Below.refl w.heap.size w).alloc (Nat.le_refl _) _).alloc (by simp) _).trans (hb.mono (by simp; omega)))
  clear hb
  have r0 := I0.cell (i := 0) (v := .int .i64 0) rfl
  have r1 := I0.cell (i := 1) (v := .int .i64 0) rfl
  have r2 := I0.cell (i := 2) (v := .slice none 0 0) rfl
  have r3 := I0.cell (i := 3) (v := .slice none 0 0) rfl
  have q0 := I0.free 0
  have q1 := I0.free 1
  have q2 := I0.free 2
  have q3 := I0.free 3
  have s0 := I1.cell (i := 0) (v := .int .i64 L) rfl
  have s1 := I1.cell (i := 1) (v := .int .i64 P) rfl
  have s2 := I1.cell (i := 2) (v := .slice none 0 0) rfl
  have s3 := I1.cell (i := 3) (v := .slice none 0 0) rfl
  have hz : (w.alloc (.cells #[.int .i64 0, .int .i64 0, .slice none 0 0, .slice none 0 0] 28)).heap.size = w.heap.size + 1 := by simp
  rw [hz] at s0 s1 s2 s3
  clear I0 I1 hz
  go_wp2
  refine bodyPost_ret (v := .tuple #[.agg #[.int .i64 L, .int .i64 P, .slice none 0 0, .slice none 0 0], .bool true]) (by simp [results, Try.results7, go_sem, r0, r1, r2, r3]) rfl ⟨rfl, (((BB.out.setCell (by simp) _).setCell (by simp) _).setCell (by simp) _).setCell (by simp) _⟩

end Go.Proofs.Ytncbkbfkdgggkaa
