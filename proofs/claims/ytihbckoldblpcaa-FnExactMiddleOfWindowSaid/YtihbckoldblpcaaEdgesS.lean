/- The edges in the reference's text. -/
import Derived.Test.YtihbckoldblpcaaEdges
namespace Go.Proofs.Ytihbckoldblpcaa
open Go.RowKit

theorem l00In_quiet {x lo hi : Int} {w : World} {n : Nat} : Calls Try.prog 65 #[.int .i64 x, .int .i64 lo, .int .i64 hi] (w.drewN n) fun e w'' => e = .returned (.bool (inR x lo hi)) ∧ ∃ m, w'' = w.drewN m :=
  (l00In_any x lo hi _).mono fun _ _ ⟨he, hw⟩ => ⟨he, n, hw.symm⟩

theorem all_pairs {p : Int → Bool} {xs : List Int} (hev : xs.length % 2 = 0) (h : ∀ j, j < xs.length / 2 → p (xs[2 * j]?.getD 0) = true ∧ p (xs[2 * j + 1]?.getD 0) = true) : xs.all p = true := by
  rw [List.all_eq_true]
  intro x hx
  obtain ⟨i, hi, rfl⟩ := List.getElem_of_mem hx
  have := h (i / 2) (by omega)
  rcases Nat.mod_two_eq_zero_or_one i with e | e
  · have e2 : 2 * (i / 2) = i := by omega
    rw [e2] at this
    simpa [hi] using this.1
  · have e2 : 2 * (i / 2) + 1 = i := by omega
    rw [e2] at this
    simpa [hi] using this.2
theorem not_all {p : Int → Bool} {xs : List Int} {i : Nat} (hi : i < xs.length) (h : p (xs[i]?.getD 0) = false) : xs.all p = false := by
  rw [List.all_eq_false]
  refine ⟨xs[i], List.getElem_mem hi, ?_⟩
  simp [hi] at h
  simp [h]

end Go.Proofs.Ytihbckoldblpcaa
