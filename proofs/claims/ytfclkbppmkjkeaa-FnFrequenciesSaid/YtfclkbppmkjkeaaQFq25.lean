/- The phasors at t / n turns, n = 8, 9, against the table: the kernel's reckoning. (printed by mkFrq.py). -/
import Derived.Test.YtfclkbppmkjkeaaQFq23
namespace Go.Proofs.Ytfclkbppmkjkeaa
open Go.RowKit

set_option maxRecDepth 100000 in
theorem frq8_0 : ∀ t ∈ [0, 1, 2, 3, 4, 5, 6, 7, 8, 9, 10, 12, 14, 15, 16, 18], bothB t 8 = true := by decide +kernel
set_option maxRecDepth 100000 in
theorem frq8_1 : ∀ t ∈ [20, 21, 24, 25, 28, 30, 35, 36, 42, 49], bothB t 8 = true := by decide +kernel
theorem frq8 : ∀ t ∈ prods 8, bothB t 8 = true := by
  intro t ht
  have e : prods 8 = [0, 1, 2, 3, 4, 5, 6, 7, 8, 9, 10, 12, 14, 15, 16, 18] ++ [20, 21, 24, 25, 28, 30, 35, 36, 42, 49] := rfl
  rw [e] at ht
  rcases List.mem_append.1 ht with ht | h1
  rotate_left
  exact frq8_1 t h1
  exact frq8_0 t ht
set_option maxRecDepth 100000 in
theorem frq9_0 : ∀ t ∈ [0, 1, 2, 3, 4, 5, 6, 7, 8, 9, 10, 12, 14, 15, 16, 18], bothB t 9 = true := by decide +kernel
set_option maxRecDepth 100000 in
theorem frq9_1 : ∀ t ∈ [20, 21, 24, 25, 28, 30, 32, 35, 36, 40, 42, 48, 49, 56, 64], bothB t 9 = true := by decide +kernel
theorem frq9 : ∀ t ∈ prods 9, bothB t 9 = true := by
  intro t ht
  have e : prods 9 = [0, 1, 2, 3, 4, 5, 6, 7, 8, 9, 10, 12, 14, 15, 16, 18] ++ [20, 21, 24, 25, 28, 30, 32, 35, 36, 40, 42, 48, 49, 56, 64] := rfl
  rw [e] at ht
  rcases List.mem_append.1 ht with ht | h1
  rotate_left
  exact frq9_1 t h1
  exact frq9_0 t ht

end Go.Proofs.Ytfclkbppmkjkeaa
