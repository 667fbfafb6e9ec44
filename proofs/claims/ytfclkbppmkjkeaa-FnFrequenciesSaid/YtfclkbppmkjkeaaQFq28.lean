/- The phasors at t / n turns, n = 12, against the table: the kernel's reckoning. (printed by mkFrq.py). -/
import Derived.Test.YtfclkbppmkjkeaaQFq23
namespace Go.Proofs.Ytfclkbppmkjkeaa
open Go.RowKit

set_option maxRecDepth 100000 in
theorem frq12_0 : ∀ t ∈ [0, 1, 2, 3, 4, 5, 6, 7, 8, 9, 10, 11, 12, 14, 15, 16], bothB t 12 = true := by decide +kernel
set_option maxRecDepth 100000 in
theorem frq12_1 : ∀ t ∈ [18, 20, 21, 22, 24, 25, 27, 28, 30, 32, 33, 35, 36, 40, 42, 44], bothB t 12 = true := by decide +kernel
set_option maxRecDepth 100000 in
theorem frq12_2 : ∀ t ∈ [45, 48, 49, 50, 54, 55, 56, 60, 63, 64, 66, 70, 72, 77, 80, 81], bothB t 12 = true := by decide +kernel
set_option maxRecDepth 100000 in
theorem frq12_3 : ∀ t ∈ [88, 90, 99, 100, 110, 121], bothB t 12 = true := by decide +kernel
theorem frq12 : ∀ t ∈ prods 12, bothB t 12 = true := by
  intro t ht
  have e : prods 12 = [0, 1, 2, 3, 4, 5, 6, 7, 8, 9, 10, 11, 12, 14, 15, 16] ++ [18, 20, 21, 22, 24, 25, 27, 28, 30, 32, 33, 35, 36, 40, 42, 44] ++ [45, 48, 49, 50, 54, 55, 56, 60, 63, 64, 66, 70, 72, 77, 80, 81] ++ [88, 90, 99, 100, 110, 121] := rfl
  rw [e] at ht
  rcases List.mem_append.1 ht with ht | h3
  rotate_left
  exact frq12_3 t h3
  rcases List.mem_append.1 ht with ht | h2
  rotate_left
  exact frq12_2 t h2
  rcases List.mem_append.1 ht with ht | h1
  rotate_left
  exact frq12_1 t h1
  exact frq12_0 t ht

end Go.Proofs.Ytfclkbppmkjkeaa
