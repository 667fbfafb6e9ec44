/- The phasors at t / n turns, n = 10, against the table: the kernel's reckoning. (printed by mkFrq.py). -/
import Derived.Test.YtfclkbppmkjkeaaQFq23
namespace Go.Proofs.Ytfclkbppmkjkeaa
open Go.RowKit

set_option maxRecDepth 100000 in
theorem frq10_0 : ∀ t ∈ [0, 1, 2, 3, 4, 5, 6, 7, 8, 9, 10, 12, 14, 15, 16, 18], bothB t 10 = true := by decide +kernel
set_option maxRecDepth 100000 in
theorem frq10_1 : ∀ t ∈ [20, 21, 24, 25, 27, 28, 30, 32, 35, 36, 40, 42, 45, 48, 49, 54], bothB t 10 = true := by decide +kernel
set_option maxRecDepth 100000 in
theorem frq10_2 : ∀ t ∈ [56, 63, 64, 72, 81], bothB t 10 = true := by decide +kernel
theorem frq10 : ∀ t ∈ prods 10, bothB t 10 = true := by
  intro t ht
  have e : prods 10 = [0, 1, 2, 3, 4, 5, 6, 7, 8, 9, 10, 12, 14, 15, 16, 18] ++ [20, 21, 24, 25, 27, 28, 30, 32, 35, 36, 40, 42, 45, 48, 49, 54] ++ [56, 63, 64, 72, 81] := rfl
  rw [e] at ht
  rcases List.mem_append.1 ht with ht | h2
  rotate_left
  exact frq10_2 t h2
  rcases List.mem_append.1 ht with ht | h1
  rotate_left
  exact frq10_1 t h1
  exact frq10_0 t ht

end Go.Proofs.Ytfclkbppmkjkeaa
