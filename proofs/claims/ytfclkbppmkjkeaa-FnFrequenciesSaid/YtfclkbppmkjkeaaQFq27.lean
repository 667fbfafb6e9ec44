/- The phasors at t / n turns, n = 11, against the table: the kernel's reckoning. (printed by mkFrq.py). -/
import Derived.Test.YtfclkbppmkjkeaaQFq23
namespace Go.Proofs.Ytfclkbppmkjkeaa
open Go.RowKit

set_option maxRecDepth 100000 in
theorem frq11_0 : ∀ t ∈ [0, 1, 2, 3, 4, 5, 6, 7, 8, 9, 10, 12, 14, 15, 16, 18], bothB t 11 = true := by decide +kernel
set_option maxRecDepth 100000 in
theorem frq11_1 : ∀ t ∈ [20, 21, 24, 25, 27, 28, 30, 32, 35, 36, 40, 42, 45, 48, 49, 50], bothB t 11 = true := by decide +kernel
set_option maxRecDepth 100000 in
theorem frq11_2 : ∀ t ∈ [54, 56, 60, 63, 64, 70, 72, 80, 81, 90, 100], bothB t 11 = true := by decide +kernel
theorem frq11 : ∀ t ∈ prods 11, bothB t 11 = true := by
  intro t ht
  have e : prods 11 = [0, 1, 2, 3, 4, 5, 6, 7, 8, 9, 10, 12, 14, 15, 16, 18] ++ [20, 21, 24, 25, 27, 28, 30, 32, 35, 36, 40, 42, 45, 48, 49, 50] ++ [54, 56, 60, 63, 64, 70, 72, 80, 81, 90, 100] := rfl
  rw [e] at ht
  rcases List.mem_append.1 ht with ht | h2
  rotate_left
  exact frq11_2 t h2
  rcases List.mem_append.1 ht with ht | h1
  rotate_left
  exact frq11_1 t h1
  exact frq11_0 t ht

end Go.Proofs.Ytfclkbppmkjkeaa
