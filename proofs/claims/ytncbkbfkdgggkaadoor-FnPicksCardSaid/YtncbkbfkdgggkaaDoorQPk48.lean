/- Counts put, in the reference's text. New counts; find, lowest: in the reference's text. -/
import Derived.Test.YtncbkbfkdgggkaaDoorQPk45
import Derived.Deep.DrawnRows
import Derived.Deep.Cut
import Derived.Deep.DeepCutAuto
import Derived.Deep.CutBlock
import Derived.Deep.RegionLaw
import Derived.Deep.RegionHeld3
set_option linter.unusedVariables false
set_option linter.unusedSimpArgs false
namespace Go.Proofs.YtncbkbfkdgggkaaDoor
open Go.RowKit
attribute [local go_sem ↓] Go.wp_at_zero Go.wp_at_succ

theorem bd_set {xs : List Int} {M : Int} {p : Nat} (h : ∀ x ∈ xs, 0 ≤ x ∧ x ≤ M) (hp : p < xs.length) : ∀ x ∈ xs.set p (xs[p] + 1), 0 ≤ x ∧ x ≤ M + 1 := by
  intro x hx
  rcases List.mem_or_eq_of_mem_set hx with h1 | h1
  · have := h x h1; omega
  · have := h xs[p] (List.getElem_mem hp); omega

end Go.Proofs.YtncbkbfkdgggkaaDoor

namespace Go.Proofs.YtncbkbfkdgggkaaDoor
open Go.RowKit
attribute [local go_sem ↓] Go.wp_at_zero Go.wp_at_succ

/-- Where a key stands. -/
def RetFind (w : World) (ks : List Int) (key : Int) (e : Ending) (w' : World) : Prop :=
  ((e = .returned (.int .i64 (-1)) ∧ ¬ key ∈ ks) ∨ ∃ i, e = .returned (.int .i64 ((i : Nat) : Int)) ∧ i < ks.length ∧ key ∈ ks) ∧ w = w'

end Go.Proofs.YtncbkbfkdgggkaaDoor
