/- SignRow: the sum of the numbers with signs, in both texts. Lists of keys, in both texts. Valid cells in both texts. -/
import Derived.Test.YtncbkbfkdgggkaaQWn4
import Derived.Test.YtncbkbfkdgggkaaQWn2
import Derived.Test.YtncbkbfkdgggkaaQWn3
import Derived.Test.YtncbkbfkdgggkaaQWn1
namespace Go.Proofs.Ytncbkbfkdgggkaa
open Go.RowKit

def rowK (xs : List Nat) (s : Int) (k : Nat) : Option Nat :=
  (List.range k).foldl (fun acc (i : Nat) => fbin .add .f32 acc (fbin .mul .f32 (cn .f32 (xs[i]?.getD 0)) (cn .f32 (floatOfInt .f32 (sgn (i : Int) s))))) (some 0)
def rowC (xs : List Nat) (s : Int) : Option Nat := rowK xs s xs.length
theorem rowK_succ (xs : List Nat) (s : Int) (k : Nat) (h : k < xs.length) : rowK xs s (k + 1) = fbin .add .f32 (rowK xs s k) (fbin .mul .f32 (cn .f32 xs[k]) (cn .f32 (floatOfInt .f32 (sgn (k : Int) s)))) := by
  unfold rowK
  rw [List.range_succ, List.foldl_append]
  simp [h]

def isKey (k : Int) : Bool := inR k 0 4294967295
theorem isKey_bd {k : Int} (h : isKey k = true) : 0 ≤ k ∧ k < 4294967296 := by
  have := (inR_eq _ _ _).1 h; omega

theorem isVec_len {xs : List Nat} (h : isVec xs = true) : xs.length ≤ 32 := by simp [isVec] at h; exact h.1.2

end Go.Proofs.Ytncbkbfkdgggkaa

namespace Go.Proofs.Ytncbkbfkdgggkaa
open Go.RowKit

def keysB (xs : List Int) : Bool := xs.all isKey
def saltsB (xs : List Int) : Bool := decide (1 ≤ xs.length) && decide (xs.length ≤ 32) && keysB xs
theorem saltsB_len {xs : List Int} (h : saltsB xs = true) : xs.length ≤ 32 := by simp [saltsB] at h; exact h.1.2
theorem keysB_get {xs : List Int} (h : keysB xs = true) (k : Nat) (hk : k < xs.length) : 0 ≤ xs[k] ∧ xs[k] < 4294967296 :=
  isKey_bd ((List.all_eq_true.1 h) _ (List.getElem_mem hk))
theorem saltsB_keys {xs : List Int} (h : saltsB xs = true) : keysB xs = true := by simp [saltsB] at h; exact h.2

end Go.Proofs.Ytncbkbfkdgggkaa

namespace Go.Proofs.Ytncbkbfkdgggkaa
open Go.RowKit

theorem quiet_same {P : Program} {f : FuncId} {args : Array Value} {w : World} {n : Nat} {v : Value} (h : Calls P f args (w.drewN n) fun e w' => e = .returned v ∧ w.drewN n = w') : Calls P f args (w.drewN n) fun e w'' => e = .returned v ∧ ∃ m, w'' = w.drewN m :=
  h.mono fun _ _ ⟨he, hw⟩ => ⟨he, n, hw.symm⟩

def cellR (x : Int) : Bool := inR x (-1000000000000) 1000000000000
def cellsB (W D S : Int) (cs : List Int) : Bool := inR W 2 64 && inR D 1 6 && isKey S && decide ((cs.length : Int) = W * D) && cs.all cellR
theorem prod_bd {W D : Int} (h1 : inR W 2 64 = true) (h2 : inR D 1 6 = true) : 0 ≤ W * D ∧ W * D ≤ 384 := by
  rw [inR_eq] at h1 h2
  constructor
  · exact Int.mul_nonneg (by omega) (by omega)
  · have := Int.mul_le_mul h1.2 h2.2 (by omega) (by omega)
    omega

theorem validCells_all {a : Option Addr} {c : Nat} {cs : List Int} {w : World} (hr : Rd (Value.int .i64) w a c cs) :
    Calls Try.prog 38 #[.slice a cs.length c, .int .i64 (-1000000000000), .int .i64 1000000000000] w fun e w' => e = .returned (.bool (cs.all cellR)) ∧ Below w.heap.size w w' := areWithin_any a c cs _ _ w hr

end Go.Proofs.Ytncbkbfkdgggkaa
