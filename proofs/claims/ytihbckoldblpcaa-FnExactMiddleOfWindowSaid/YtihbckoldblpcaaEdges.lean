/- areEdges, in both texts. -/
import Derived.Test.YtihbckoldblpcaaWith
namespace Go.Proofs.Ytihbckoldblpcaa
open Go.RowKit

/-- The two ends of edge j differ. -/
def apartB (xs : List Int) (j : Nat) : Bool := xs[2 * j]?.getD 0 != xs[2 * j + 1]?.getD 0
def edgesB (n : Int) (xs : List Int) : Bool :=
  inR n 2 32 && decide (xs.length % 2 = 0) && decide (xs.length ≤ 128) && xs.all (fun x => inR x 0 (n - 1)) && (List.range (xs.length / 2)).all (apartB xs)

theorem apart_all {xs : List Int} (h : ∀ j, j < xs.length / 2 → apartB xs j = true) : (List.range (xs.length / 2)).all (apartB xs) = true := by
  rw [List.all_eq_true]; intro j hj; exact h j (by simpa using hj)
theorem apart_not {xs : List Int} {j : Nat} (hj : j < xs.length / 2) (h : apartB xs j = false) : (List.range (xs.length / 2)).all (apartB xs) = false := by
  rw [List.all_eq_false]; exact ⟨j, by simpa using hj, by simp [h]⟩

end Go.Proofs.Ytihbckoldblpcaa
