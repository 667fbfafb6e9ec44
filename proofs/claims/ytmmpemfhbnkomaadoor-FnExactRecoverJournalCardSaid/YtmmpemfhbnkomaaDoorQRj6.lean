/- SignRow: the sum of the numbers with signs, in both texts. Lists of keys, in both texts. -/
import Derived.Test.YtmmpemfhbnkomaaDoorQRj3
import Derived.Test.YtmmpemfhbnkomaaDoorQRj1
import Derived.Test.YtmmpemfhbnkomaaDoorQRj2
set_option linter.unusedVariables false
set_option linter.unusedSimpArgs false
namespace Go.Proofs.YtmmpemfhbnkomaaDoor
open Go.RowKit

def rowK (xs : List Nat) (s : Int) (k : Nat) : Option Nat :=
  (List.range k).foldl (fun acc (i : Nat) => fbin .add .f32 acc (fbin .mul .f32 (cn .f32 (xs[i]?.getD 0)) (cn .f32 (floatOfInt .f32 (sgn (i : Int) s))))) (some 0)
def rowC (xs : List Nat) (s : Int) : Option Nat := rowK xs s xs.length
theorem rowK_succ (xs : List Nat) (s : Int) (k : Nat) (h : k < xs.length) : rowK xs s (k + 1) = fbin .add .f32 (rowK xs s k) (fbin .mul .f32 (cn .f32 xs[k]) (cn .f32 (floatOfInt .f32 (sgn (k : Int) s)))) := by
  unfold rowK
  rw [List.range_succ, List.foldl_append]
  simp [h]

def isKey (k : Int) : Bool := inR k 0 4294967295
theorem isKey_bd {k : Int} (h : isKey k = true) : 0 ≤ k ∧ k < 4294967296 := by
  have := (inR_eq _ _ _).1 h; omega

theorem implIsKey_any {k : Int} {w : World} : Calls Tryd.prog 76 #[.int .i64 k] w fun e w' => e = .returned (.bool (isKey k)) ∧ w = w' := by
  go_enter Tryd.func76, Tryd.ntmps76
  go_wp2_with fail
  refine (within_any _ _ _ _).mono ?_
  rintro e w1 ⟨rfl, rfl⟩
  go_wp2
  go_ret
  exact ⟨rfl, rfl⟩
theorem l02Key_any {k : Int} {w : World} : Calls Tryd.prog 72 #[.int .i64 k] w fun e w' => e = .returned (.bool (isKey k)) ∧ w = w' := by
  go_enter Tryd.func72, Tryd.ntmps72
  go_wp2_with fail
  refine (l00In_any _ _ _ _).mono ?_
  rintro e w1 ⟨rfl, rfl⟩
  go_wp2
  go_ret
  exact ⟨rfl, rfl⟩

theorem isVec_len {xs : List Nat} (h : isVec xs = true) : xs.length ≤ 32 := by simp [isVec] at h; exact h.1.2

end Go.Proofs.YtmmpemfhbnkomaaDoor

namespace Go.Proofs.YtmmpemfhbnkomaaDoor
open Go.RowKit

def keysB (xs : List Int) : Bool := xs.all isKey
def saltsB (xs : List Int) : Bool := decide (1 ≤ xs.length) && decide (xs.length ≤ 32) && keysB xs
theorem saltsB_len {xs : List Int} (h : saltsB xs = true) : xs.length ≤ 32 := by simp [saltsB] at h; exact h.1.2
theorem keysB_get {xs : List Int} (h : keysB xs = true) (k : Nat) (hk : k < xs.length) : 0 ≤ xs[k] ∧ xs[k] < 4294967296 :=
  isKey_bd ((List.all_eq_true.1 h) _ (List.getElem_mem hk))
theorem saltsB_keys {xs : List Int} (h : saltsB xs = true) : keysB xs = true := by simp [saltsB] at h; exact h.2

end Go.Proofs.YtmmpemfhbnkomaaDoor
