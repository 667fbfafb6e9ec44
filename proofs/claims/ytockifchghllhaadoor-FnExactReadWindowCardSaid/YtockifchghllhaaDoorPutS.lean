/- The first index with a size, and how many there are with it: the reference's text. -/
import Derived.Test.YtockifchghllhaaDoorPutL
import Derived.Test.YtockifchghllhaaDoorDel
import Derived.Test.YtockifchghllhaaDoorWinT
namespace Go.Proofs.YtockifchghllhaaDoor
open Go.RowKit

theorem findIdx?_snoc {α : Type} (p : α → Bool) (xs : List α) (x : α) : (xs ++ [x]).findIdx? p = match xs.findIdx? p with | some i => some i | none => if p x then some xs.length else none := by
  rw [List.findIdx?_append]
  cases h : xs.findIdx? p with
  | some i => rfl
  | none => by_cases hp : p x = true <;> simp [List.findIdx?_cons, hp]
theorem idxOf_snoc {xs : List Int} {s : Int} {k : Nat} (hk : k < xs.length) :
    idxOf (fun x => x == s) (xs.take (k + 1)) = if idxOf (fun x => x == s) (xs.take k) < 0 ∧ xs[k] = s then (k : Int) else idxOf (fun x => x == s) (xs.take k) := by
  have ht : xs.take (k + 1) = xs.take k ++ [xs[k]] := by rw [List.take_add_one, List.getElem?_eq_getElem hk]; rfl
  have hl : (xs.take k).length = k := by simp; omega
  unfold idxOf
  rw [ht, findIdx?_snoc, hl]
  cases h : (xs.take k).findIdx? (fun x => x == s) with
  | some i =>
    simp only
    rw [if_neg (by omega)]
  | none =>
    by_cases hs : xs[k] = s
    · simp [hs]
    · have : (xs[k] == s) = false := by simpa using hs
      simp [this, hs]
theorem count_snoc' {xs : List Int} {s : Int} {k : Nat} (hk : k < xs.length) : (xs.take (k + 1)).count s = (xs.take k).count s + (if xs[k] = s then 1 else 0) := by
  have ht : xs.take (k + 1) = xs.take k ++ [xs[k]] := by rw [List.take_add_one, List.getElem?_eq_getElem hk]; rfl
  rw [ht, List.count_append, List.count_singleton]
  by_cases hs : xs[k] = s
  · simp [hs]
  · have : (xs[k] == s) = false := by simpa using hs
    simp [this, hs]
theorem idxOf_bd {xs : List Int} {s : Int} (k : Nat) (hk : k ≤ xs.length) : -1 ≤ idxOf (fun x => x == s) (xs.take k) ∧ idxOf (fun x => x == s) (xs.take k) ≤ xs.length := by
  unfold idxOf
  cases h : (xs.take k).findIdx? (fun x => x == s) with
  | none => simp only; omega
  | some i =>
    rw [List.findIdx?_eq_some_iff_getElem] at h
    obtain ⟨hi, _⟩ := h
    simp at hi
    simp; omega

end Go.Proofs.YtockifchghllhaaDoor
