/- Lists of keys, in both texts. -/
import Derived.Test.YtockifchghllhaaDoorRow
namespace Go.Proofs.YtockifchghllhaaDoor
open Go.RowKit

def keysB (xs : List Int) : Bool := xs.all isKey
def saltsB (xs : List Int) : Bool := decide (1 ≤ xs.length) && decide (xs.length ≤ 32) && keysB xs
theorem saltsB_len {xs : List Int} (h : saltsB xs = true) : xs.length ≤ 32 := by simp [saltsB] at h; exact h.1.2
theorem keysB_get {xs : List Int} (h : keysB xs = true) (k : Nat) (hk : k < xs.length) : 0 ≤ xs[k] ∧ xs[k] < 4294967296 :=
  isKey_bd ((List.all_eq_true.1 h) _ (List.getElem_mem hk))
theorem saltsB_keys {xs : List Int} (h : saltsB xs = true) : keysB xs = true := by simp [saltsB] at h; exact h.2

end Go.Proofs.YtockifchghllhaaDoor
