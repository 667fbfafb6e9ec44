/- A new desk in the program's text. -/
import Derived.Test.YtofbnddmahjanaaNewDS
import Derived.RegionTactic
import Derived.ChangeAlike
namespace Go.Proofs.Ytofbnddmahjanaa
open Go.RowKit

def z16 : Array Value := ((List.replicate 16 (0 : Int)).map (Value.int .i64)).toArray
theorem mk16 (w : World) : (Instr.makeSlice 33 (.int .i64 16) (.int .i64 16)).run Try.prog w = .ok (.slice (some ⟨w.heap.size, 0, none⟩) 16 16) (w.alloc (.cells z16 2)) := by kernel_rfl

set_option maxRecDepth 8000 in
set_option maxHeartbeats 4000000 in
theorem implNewDesk_any {w : World} :
    Calls Try.prog 30 #[] w fun e w' => ∃ b z k, e = .returned (.agg #[.int .i64 2, .int .i64 7, .slice (some ⟨b, 0, none⟩) 32 32, .int .i64 7, .slice (some ⟨z, 0, none⟩) 16 16, .int .i64 10, .int .i64 1, .slice none 0 0, .slice none 0 0, .slice (some ⟨k, 0, none⟩) 3 3]) ∧ Own (Value.bool) 4 w' w.heap.size (some ⟨b, 0, none⟩) 32 (List.replicate 32 false) ∧ Own (Value.int .i64) 2 w' w.heap.size (some ⟨z, 0, none⟩) 16 (List.replicate 16 (0 : Int)) ∧ Own (Value.int .i64) 2 w' w.heap.size (some ⟨k, 0, none⟩) 3 [1, 2, 3] ∧ b ≠ z ∧ b ≠ k ∧ z ≠ k ∧ Below w.heap.size w w' := by
  go_enter Try.func30, Try.ntmps30
  have R0 : Hid (Blk (w.alloc (.cells #[.int .i64 0, .int .i64 0, .slice none 0 0, .int .i64 0, .slice none 0 0, .int .i64 0, .int .i64 0, .slice none 0 0, .slice none 0 0, .slice none 0 0] 55)) w.heap.size #[.int .i64 0, .int .i64 0, .slice none 0 0, .int .i64 0, .slice none 0 0, .int .i64 0, .int .i64 0, .slice none 0 0, .slice none 0 0, .slice none 0 0] 55) := Lib.hid (Blk.new _ _ _)
  have B0 : Hid (Below w.heap.size w (w.alloc (.cells #[.int .i64 0, .int .i64 0, .slice none 0 0, .int .i64 0, .slice none 0 0, .int .i64 0, .int .i64 0, .slice none 0 0, .slice none 0 0, .slice none 0 0] 55))) := Lib.hid ((Below.refl _ _).alloc (Nat.le_refl _) _)
  have l0 : w.heap.size < (w.alloc (.cells #[.int .i64 0, .int .i64 0, .slice none 0 0, .int .i64 0, .slice none 0 0, .int .i64 0, .int .i64 0, .slice none 0 0, .slice none 0 0, .slice none 0 0] 55)).heap.size := by simp
  go_wp2_with fail
  generalize w.alloc (.cells #[.int .i64 0, .int .i64 0, .slice none 0 0, .int .i64 0, .slice none 0 0, .int .i64 0, .int .i64 0, .slice none 0 0, .slice none 0 0, .slice none 0 0] 55) = w0 at R0 B0 l0 ⊢
  refine implNewSieve_any.mono ?_
  rintro e w1 ⟨b, rfl, hO, hB⟩
  have l1 := hO.blk _ rfl
  have ls1 := hB.size
  have R1 := Lib.hid ((R0.out.below hB (Nat.le_refl _)).alloc (.cells #[.int .i64 2, .int .i64 7, .slice (some ⟨b, 0, none⟩) 32 32] 49))
  have O1 := Lib.hid (hO.alloc (.cells #[.int .i64 2, .int .i64 7, .slice (some ⟨b, 0, none⟩) 32 32] 49))
  have X1 := Lib.hid (Blk.new w1 #[.int .i64 2, .int .i64 7, .slice (some ⟨b, 0, none⟩) 32 32] 49)
  have B1 := Lib.hid ((B0.out.trans (hB.mono B0.out.size)).alloc (by have := B0.out.size; omega) (.cells #[.int .i64 2, .int .i64 7, .slice (some ⟨b, 0, none⟩) 32 32] 49))
  have l2 : w1.heap.size < (w1.alloc (.cells #[.int .i64 2, .int .i64 7, .slice (some ⟨b, 0, none⟩) 32 32] 49)).heap.size := by simp
  clear hO hB R0 B0
  go_wp2_with fail
  generalize w1.alloc (.cells #[.int .i64 2, .int .i64 7, .slice (some ⟨b, 0, none⟩) 32 32] 49) = w2 at R1 O1 X1 B1 l2 ⊢
  refine implNewWindow_any.mono ?_
  rintro e w3 ⟨rfl, hB⟩
  have ls3 := hB.size
  have R3 := Lib.hid ((R1.out.below hB (Nat.le_refl _)).alloc (.cells #[.int .i64 10, .int .i64 1, .slice none 0 0, .slice none 0 0] 53))
  have O3 := Lib.hid ((O1.out.below hB (Nat.le_refl _)).alloc (.cells #[.int .i64 10, .int .i64 1, .slice none 0 0, .slice none 0 0] 53))
  have X3 := Lib.hid ((X1.out.below hB (Nat.le_refl _)).alloc (.cells #[.int .i64 10, .int .i64 1, .slice none 0 0, .slice none 0 0] 53))
  have Y3 := Lib.hid (Blk.new w3 #[.int .i64 10, .int .i64 1, .slice none 0 0, .slice none 0 0] 53)
  have B3 := Lib.hid ((B1.out.trans (hB.mono B1.out.size)).alloc (by have := B1.out.size; omega) (.cells #[.int .i64 10, .int .i64 1, .slice none 0 0, .slice none 0 0] 53))
  have l4 : w3.heap.size < (w3.alloc (.cells #[.int .i64 10, .int .i64 1, .slice none 0 0, .slice none 0 0] 53)).heap.size := by simp
  clear hB R1 O1 X1 B1
  go_wp2_with fail
  generalize w3.alloc (.cells #[.int .i64 10, .int .i64 1, .slice none 0 0, .slice none 0 0] 53) = w4 at R3 O3 X3 Y3 B3 l4 ⊢
  have r0 := fun o o' => ((R3.out.alloc o).alloc o').cell (i := 0) (v := .int .i64 0) rfl
  have q0 := fun o o' => ((R3.out.alloc o).alloc o').free 0
  have r1 := fun o o' => ((R3.out.alloc o).alloc o').cell (i := 1) (v := .int .i64 0) rfl
  have q1 := fun o o' => ((R3.out.alloc o).alloc o').free 1
  have r2 := fun o o' => ((R3.out.alloc o).alloc o').cell (i := 2) (v := .slice none 0 0) rfl
  have q2 := fun o o' => ((R3.out.alloc o).alloc o').free 2
  have r3 := fun o o' => ((R3.out.alloc o).alloc o').cell (i := 3) (v := .int .i64 0) rfl
  have q3 := fun o o' => ((R3.out.alloc o).alloc o').free 3
  have r4 := fun o o' => ((R3.out.alloc o).alloc o').cell (i := 4) (v := .slice none 0 0) rfl
  have q4 := fun o o' => ((R3.out.alloc o).alloc o').free 4
  have r5 := fun o o' => ((R3.out.alloc o).alloc o').cell (i := 5) (v := .int .i64 0) rfl
  have q5 := fun o o' => ((R3.out.alloc o).alloc o').free 5
  have r6 := fun o o' => ((R3.out.alloc o).alloc o').cell (i := 6) (v := .int .i64 0) rfl
  have q6 := fun o o' => ((R3.out.alloc o).alloc o').free 6
  have r7 := fun o o' => ((R3.out.alloc o).alloc o').cell (i := 7) (v := .slice none 0 0) rfl
  have q7 := fun o o' => ((R3.out.alloc o).alloc o').free 7
  have r8 := fun o o' => ((R3.out.alloc o).alloc o').cell (i := 8) (v := .slice none 0 0) rfl
  have q8 := fun o o' => ((R3.out.alloc o).alloc o').free 8
  have r9 := fun o o' => ((R3.out.alloc o).alloc o').cell (i := 9) (v := .slice none 0 0) rfl
  have q9 := fun o o' => ((R3.out.alloc o).alloc o').free 9
  have x0 := X3.out.cell (i := 0) (v := .int .i64 2) rfl
  have xa0 := fun o => (X3.out.alloc o).cell (i := 0) (v := .int .i64 2) rfl
  have xb0 := fun o o' => ((X3.out.alloc o).alloc o').cell (i := 0) (v := .int .i64 2) rfl
  have x1 := X3.out.cell (i := 1) (v := .int .i64 7) rfl
  have xa1 := fun o => (X3.out.alloc o).cell (i := 1) (v := .int .i64 7) rfl
  have xb1 := fun o o' => ((X3.out.alloc o).alloc o').cell (i := 1) (v := .int .i64 7) rfl
  have x2 := X3.out.cell (i := 2) (v := .slice (some ⟨b, 0, none⟩) 32 32) rfl
  have xa2 := fun o => (X3.out.alloc o).cell (i := 2) (v := .slice (some ⟨b, 0, none⟩) 32 32) rfl
  have xb2 := fun o o' => ((X3.out.alloc o).alloc o').cell (i := 2) (v := .slice (some ⟨b, 0, none⟩) 32 32) rfl
  have y0 := Y3.out.cell (i := 0) (v := .int .i64 10) rfl
  have ya0 := fun o => (Y3.out.alloc o).cell (i := 0) (v := .int .i64 10) rfl
  have yb0 := fun o o' => ((Y3.out.alloc o).alloc o').cell (i := 0) (v := .int .i64 10) rfl
  have y1 := Y3.out.cell (i := 1) (v := .int .i64 1) rfl
  have ya1 := fun o => (Y3.out.alloc o).cell (i := 1) (v := .int .i64 1) rfl
  have yb1 := fun o o' => ((Y3.out.alloc o).alloc o').cell (i := 1) (v := .int .i64 1) rfl
  have y2 := Y3.out.cell (i := 2) (v := .slice none 0 0) rfl
  have ya2 := fun o => (Y3.out.alloc o).cell (i := 2) (v := .slice none 0 0) rfl
  have yb2 := fun o o' => ((Y3.out.alloc o).alloc o').cell (i := 2) (v := .slice none 0 0) rfl
  have y3 := Y3.out.cell (i := 3) (v := .slice none 0 0) rfl
  have ya3 := fun o => (Y3.out.alloc o).cell (i := 3) (v := .slice none 0 0) rfl
  have yb3 := fun o o' => ((Y3.out.alloc o).alloc o').cell (i := 3) (v := .slice none 0 0) rfl
  have mk := mk16
  go_region
  · have hz4 : (w4.alloc (.cells z16 2)).heap.size = w4.heap.size + 1 := by simp
    have G1 : Own (Value.int .i64) 2 ((w4.alloc (.cells z16 2)).alloc (.cells #[.int .i64 1, .int .i64 2, .int .i64 3] 2)) w4.heap.size (some ⟨w4.heap.size, 0, none⟩) 16 (List.replicate 16 (0 : Int)) := (own_lit (f := Value.int .i64) (e := 2) w4 w4.heap.size (List.replicate 16 (0 : Int)) (Nat.le_refl _) (by unfold maxLen; simp)).alloc (.cells #[.int .i64 1, .int .i64 2, .int .i64 3] 2)
    have G2 : Own (Value.int .i64) 2 ((w4.alloc (.cells z16 2)).alloc (.cells #[.int .i64 1, .int .i64 2, .int .i64 3] 2)) (w4.alloc (.cells z16 2)).heap.size (some ⟨(w4.alloc (.cells z16 2)).heap.size, 0, none⟩) 3 [1, 2, 3] := own_lit (f := Value.int .i64) (e := 2) (w4.alloc (.cells z16 2)) (w4.alloc (.cells z16 2)).heap.size [1, 2, 3] (Nat.le_refl _) (by unfold maxLen; simp)
    rw [hz4] at G2
    have O5 := Lib.hid ((O3.out.alloc (.cells z16 2)).alloc (.cells #[.int .i64 1, .int .i64 2, .int .i64 3] 2))
    have B5 := Lib.hid ((B3.out.alloc B3.out.size (.cells z16 2)).alloc (by have := B3.out.size; simp; omega) (.cells #[.int .i64 1, .int .i64 2, .int .i64 3] 2))
    have HG1 := Lib.hid G1
    have HG2 := Lib.hid G2
    clear G1 G2 hz4 mk
    go_wp2
    refine bodyPost_ret (v := .agg #[.int .i64 2, .int .i64 7, .slice (some ⟨b, 0, none⟩) 32 32, .int .i64 7, .slice (some ⟨w4.heap.size, 0, none⟩) 16 16, .int .i64 10, .int .i64 1, .slice none 0 0, .slice none 0 0, .slice (some ⟨w4.heap.size + 1, 0, none⟩) 3 3]) (by simp [results, Try.results30, go_sem, r0, r1, r2, r3, r4, r5, r6, r7, r8, r9]) rfl ⟨b, w4.heap.size, w4.heap.size + 1, rfl, ((((((((((O5.out.setOff _ _ (by simp <;> omega)).setOff _ _ (by simp <;> omega)).setOff _ _ (by simp <;> omega)).setOff _ _ (by simp <;> omega)).setOff _ _ (by simp <;> omega)).setOff _ _ (by simp <;> omega)).setOff _ _ (by simp <;> omega)).setOff _ _ (by simp <;> omega)).setOff _ _ (by simp <;> omega)).setOff _ _ (by simp <;> omega)).drew.mono (by omega), ((((((((((HG1.out.setOff _ _ (by simp <;> omega)).setOff _ _ (by simp <;> omega)).setOff _ _ (by simp <;> omega)).setOff _ _ (by simp <;> omega)).setOff _ _ (by simp <;> omega)).setOff _ _ (by simp <;> omega)).setOff _ _ (by simp <;> omega)).setOff _ _ (by simp <;> omega)).setOff _ _ (by simp <;> omega)).setOff _ _ (by simp <;> omega)).drew.mono (by omega), ((((((((((HG2.out.setOff _ _ (by simp <;> omega)).setOff _ _ (by simp <;> omega)).setOff _ _ (by simp <;> omega)).setOff _ _ (by simp <;> omega)).setOff _ _ (by simp <;> omega)).setOff _ _ (by simp <;> omega)).setOff _ _ (by simp <;> omega)).setOff _ _ (by simp <;> omega)).setOff _ _ (by simp <;> omega)).setOff _ _ (by simp <;> omega)).drew.mono (by omega), by omega, by omega, by omega, ((((((((((B5.out.setCell (by simp) _).setCell (by simp) _).setCell (by simp) _).setCell (by simp) _).setCell (by simp) _).setCell (by simp) _).setCell (by simp) _).setCell (by simp) _).setCell (by simp) _).setCell (by simp) _).trans (below_of_drewN _ 1 _)⟩
  · have hz4 : (w4.alloc (.cells #[.int .i64 1, .int .i64 2, .int .i64 3] 2)).heap.size = w4.heap.size + 1 := by simp
    have G1 : Own (Value.int .i64) 2 ((w4.alloc (.cells #[.int .i64 1, .int .i64 2, .int .i64 3] 2)).alloc (.cells z16 2)) w4.heap.size (some ⟨w4.heap.size, 0, none⟩) 3 [1, 2, 3] := (own_lit (f := Value.int .i64) (e := 2) w4 w4.heap.size [1, 2, 3] (Nat.le_refl _) (by unfold maxLen; simp)).alloc (.cells z16 2)
    have G2 : Own (Value.int .i64) 2 ((w4.alloc (.cells #[.int .i64 1, .int .i64 2, .int .i64 3] 2)).alloc (.cells z16 2)) (w4.alloc (.cells #[.int .i64 1, .int .i64 2, .int .i64 3] 2)).heap.size (some ⟨(w4.alloc (.cells #[.int .i64 1, .int .i64 2, .int .i64 3] 2)).heap.size, 0, none⟩) 16 (List.replicate 16 (0 : Int)) := own_lit (f := Value.int .i64) (e := 2) (w4.alloc (.cells #[.int .i64 1, .int .i64 2, .int .i64 3] 2)) (w4.alloc (.cells #[.int .i64 1, .int .i64 2, .int .i64 3] 2)).heap.size (List.replicate 16 (0 : Int)) (Nat.le_refl _) (by unfold maxLen; simp)
    rw [hz4] at G2
    have O5 := Lib.hid ((O3.out.alloc (.cells #[.int .i64 1, .int .i64 2, .int .i64 3] 2)).alloc (.cells z16 2))
    have B5 := Lib.hid ((B3.out.alloc B3.out.size (.cells #[.int .i64 1, .int .i64 2, .int .i64 3] 2)).alloc (by have := B3.out.size; simp; omega) (.cells z16 2))
    have HG1 := Lib.hid G1
    have HG2 := Lib.hid G2
    clear G1 G2 hz4 mk
    go_wp2
    refine bodyPost_ret (v := .agg #[.int .i64 2, .int .i64 7, .slice (some ⟨b, 0, none⟩) 32 32, .int .i64 7, .slice (some ⟨w4.heap.size + 1, 0, none⟩) 16 16, .int .i64 10, .int .i64 1, .slice none 0 0, .slice none 0 0, .slice (some ⟨w4.heap.size, 0, none⟩) 3 3]) (by simp [results, Try.results30, go_sem, r0, r1, r2, r3, r4, r5, r6, r7, r8, r9]) rfl ⟨b, w4.heap.size + 1, w4.heap.size, rfl, ((((((((((O5.out.setOff _ _ (by simp <;> omega)).setOff _ _ (by simp <;> omega)).setOff _ _ (by simp <;> omega)).setOff _ _ (by simp <;> omega)).setOff _ _ (by simp <;> omega)).setOff _ _ (by simp <;> omega)).setOff _ _ (by simp <;> omega)).setOff _ _ (by simp <;> omega)).setOff _ _ (by simp <;> omega)).setOff _ _ (by simp <;> omega)).drew.mono (by omega), ((((((((((HG2.out.setOff _ _ (by simp <;> omega)).setOff _ _ (by simp <;> omega)).setOff _ _ (by simp <;> omega)).setOff _ _ (by simp <;> omega)).setOff _ _ (by simp <;> omega)).setOff _ _ (by simp <;> omega)).setOff _ _ (by simp <;> omega)).setOff _ _ (by simp <;> omega)).setOff _ _ (by simp <;> omega)).setOff _ _ (by simp <;> omega)).drew.mono (by omega), ((((((((((HG1.out.setOff _ _ (by simp <;> omega)).setOff _ _ (by simp <;> omega)).setOff _ _ (by simp <;> omega)).setOff _ _ (by simp <;> omega)).setOff _ _ (by simp <;> omega)).setOff _ _ (by simp <;> omega)).setOff _ _ (by simp <;> omega)).setOff _ _ (by simp <;> omega)).setOff _ _ (by simp <;> omega)).setOff _ _ (by simp <;> omega)).drew.mono (by omega), by omega, by omega, by omega, ((((((((((B5.out.setCell (by simp) _).setCell (by simp) _).setCell (by simp) _).setCell (by simp) _).setCell (by simp) _).setCell (by simp) _).setCell (by simp) _).setCell (by simp) _).setCell (by simp) _).setCell (by simp) _).trans (below_of_drewN _ 1 _)⟩

end Go.Proofs.Ytofbnddmahjanaa
