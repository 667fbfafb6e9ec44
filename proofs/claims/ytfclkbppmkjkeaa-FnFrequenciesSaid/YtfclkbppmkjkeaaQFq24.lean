/- The phasors at t / n turns, n = 1, 2, 3, 4, 5, 6, 7, against the table: the kernel's reckoning. (printed by mkFrq.py). -/
import Derived.Test.YtfclkbppmkjkeaaQFq23
namespace Go.Proofs.Ytfclkbppmkjkeaa
open Go.RowKit

set_option maxRecDepth 100000 in
theorem frq1_0 : ∀ t ∈ [0], bothB t 1 = true := by decide +kernel
theorem frq1 : ∀ t ∈ prods 1, bothB t 1 = true := by
  intro t ht
  have e : prods 1 = [0] := rfl
  rw [e] at ht
  exact frq1_0 t ht
set_option maxRecDepth 100000 in
theorem frq2_0 : ∀ t ∈ [0, 1], bothB t 2 = true := by decide +kernel
theorem frq2 : ∀ t ∈ prods 2, bothB t 2 = true := by
  intro t ht
  have e : prods 2 = [0, 1] := rfl
  rw [e] at ht
  exact frq2_0 t ht
set_option maxRecDepth 100000 in
theorem frq3_0 : ∀ t ∈ [0, 1, 2, 4], bothB t 3 = true := by decide +kernel
theorem frq3 : ∀ t ∈ prods 3, bothB t 3 = true := by
  intro t ht
  have e : prods 3 = [0, 1, 2, 4] := rfl
  rw [e] at ht
  exact frq3_0 t ht
set_option maxRecDepth 100000 in
theorem frq4_0 : ∀ t ∈ [0, 1, 2, 3, 4, 6, 9], bothB t 4 = true := by decide +kernel
theorem frq4 : ∀ t ∈ prods 4, bothB t 4 = true := by
  intro t ht
  have e : prods 4 = [0, 1, 2, 3, 4, 6, 9] := rfl
  rw [e] at ht
  exact frq4_0 t ht
set_option maxRecDepth 100000 in
theorem frq5_0 : ∀ t ∈ [0, 1, 2, 3, 4, 6, 8, 9, 12, 16], bothB t 5 = true := by decide +kernel
theorem frq5 : ∀ t ∈ prods 5, bothB t 5 = true := by
  intro t ht
  have e : prods 5 = [0, 1, 2, 3, 4, 6, 8, 9, 12, 16] := rfl
  rw [e] at ht
  exact frq5_0 t ht
set_option maxRecDepth 100000 in
theorem frq6_0 : ∀ t ∈ [0, 1, 2, 3, 4, 5, 6, 8, 9, 10, 12, 15, 16, 20, 25], bothB t 6 = true := by decide +kernel
theorem frq6 : ∀ t ∈ prods 6, bothB t 6 = true := by
  intro t ht
  have e : prods 6 = [0, 1, 2, 3, 4, 5, 6, 8, 9, 10, 12, 15, 16, 20, 25] := rfl
  rw [e] at ht
  exact frq6_0 t ht
set_option maxRecDepth 100000 in
theorem frq7_0 : ∀ t ∈ [0, 1, 2, 3, 4, 5, 6, 8, 9, 10, 12, 15, 16, 18, 20, 24], bothB t 7 = true := by decide +kernel
set_option maxRecDepth 100000 in
theorem frq7_1 : ∀ t ∈ [25, 30, 36], bothB t 7 = true := by decide +kernel
theorem frq7 : ∀ t ∈ prods 7, bothB t 7 = true := by
  intro t ht
  have e : prods 7 = [0, 1, 2, 3, 4, 5, 6, 8, 9, 10, 12, 15, 16, 18, 20, 24] ++ [25, 30, 36] := rfl
  rw [e] at ht
  rcases List.mem_append.1 ht with ht | h1
  rotate_left
  exact frq7_1 t h1
  exact frq7_0 t ht

end Go.Proofs.Ytfclkbppmkjkeaa
