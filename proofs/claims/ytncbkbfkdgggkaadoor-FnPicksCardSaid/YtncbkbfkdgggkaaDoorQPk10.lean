/- SignRow: the sum of the numbers with signs, in both texts. Lists of keys, in both texts. Valid cells in both texts. -/
import Derived.Test.YtncbkbfkdgggkaaDoorQPk5
import Derived.Test.YtncbkbfkdgggkaaDoorQPk3
import Derived.Test.YtncbkbfkdgggkaaDoorQPk4
import Derived.Test.YtncbkbfkdgggkaaDoorQPk2
set_option linter.unusedVariables false
set_option linter.unusedSimpArgs false
namespace Go.Proofs.YtncbkbfkdgggkaaDoor
open Go.RowKit

def rowK (xs : List Nat) (s : Int) (k : Nat) : Option Nat :=
  (List.range k).foldl (fun acc (i : Nat) => fbin .add .f32 acc (fbin .mul .f32 (cn .f32 (xs[i]?.getD 0)) (cn .f32 (floatOfInt .f32 (sgn (i : Int) s))))) (some 0)
def rowC (xs : List Nat) (s : Int) : Option Nat := rowK xs s xs.length
theorem rowK_succ (xs : List Nat) (s : Int) (k : Nat) (h : k < xs.length) : rowK xs s (k + 1) = fbin .add .f32 (rowK xs s k) (fbin .mul .f32 (cn .f32 xs[k]) (cn .f32 (floatOfInt .f32 (sgn (k : Int) s)))) := by
  unfold rowK
  rw [List.range_succ, List.foldl_append]
  simp [h]

def isKey (k : Int) : Bool := inR k 0 4294967295
theorem isKey_bd {k : Int} (h : isKey k = true) : 0 ≤ k ∧ k < 4294967296 := by
  have := (inR_eq _ _ _).1 h; omega

theorem implIsKey_any {k : Int} {w : World} : Calls Tryd.prog 26 #[.int .i64 k] w fun e w' => e = .returned (.bool (isKey k)) ∧ w = w' := by
  go_enter Tryd.func26, Tryd.ntmps26
  go_wp2_with fail
  refine (within_any _ _ _ _).mono ?_
  rintro e w1 ⟨rfl, rfl⟩
  go_wp2
  go_ret
  exact ⟨rfl, rfl⟩
theorem isVec_len {xs : List Nat} (h : isVec xs = true) : xs.length ≤ 32 := by simp [isVec] at h; exact h.1.2

end Go.Proofs.YtncbkbfkdgggkaaDoor

namespace Go.Proofs.YtncbkbfkdgggkaaDoor
open Go.RowKit

def keysB (xs : List Int) : Bool := xs.all isKey
def saltsB (xs : List Int) : Bool := decide (1 ≤ xs.length) && decide (xs.length ≤ 32) && keysB xs
theorem saltsB_len {xs : List Int} (h : saltsB xs = true) : xs.length ≤ 32 := by simp [saltsB] at h; exact h.1.2
theorem keysB_get {xs : List Int} (h : keysB xs = true) (k : Nat) (hk : k < xs.length) : 0 ≤ xs[k] ∧ xs[k] < 4294967296 :=
  isKey_bd ((List.all_eq_true.1 h) _ (List.getElem_mem hk))
theorem saltsB_keys {xs : List Int} (h : saltsB xs = true) : keysB xs = true := by simp [saltsB] at h; exact h.2

theorem areAllKeys1_any {x : Int} {w : World} : Calls Tryd.prog 66 #[.int .i64 x] w fun e w' => e = .returned (.bool (!isKey x)) ∧ Below w.heap.size w w' := by
  go_enter Tryd.func66, Tryd.ntmps66
  go_wp2_with fail
  refine implIsKey_any.mono ?_
  rintro e w1 ⟨rfl, rfl⟩
  go_wp2
  go_ret
  exact ⟨rfl, Below.refl _ _⟩

theorem call_areAllKeys1 (vs : Array Value) (w : World) : (callFunc 66 vs).run Tryd.prog w = .ok (.enter 66 vs) w := by kernel_rfl

theorem areAllKeys_any {a : Option Addr} {c : Nat} {xs : List Int} {w : World} (hr : Rd (Value.int .i64) w a c xs) :
    Calls Tryd.prog 47 #[.slice a xs.length c] w fun e w' => e = .returned (.bool (keysB xs)) ∧ Below w.heap.size w w' := by
  have HC := Lib.hid (containsFunci_any a c xs w 66 #[] (fun x => !isKey x) call_areAllKeys1 hr (fun k h wr hb => by simpa using areAllKeys1_any))
  go_enter Tryd.func47, Tryd.ntmps47
  go_wp2_with fail
  refine HC.out.mono ?_
  rintro e w1 ⟨rfl, hb1⟩
  go_wp2
  go_ret
  refine ⟨ret_bool ?_, hb1⟩
  rw [Bool.eq_iff_iff]; simp [keysB, List.all_eq_true, List.any_eq_true]

end Go.Proofs.YtncbkbfkdgggkaaDoor

namespace Go.Proofs.YtncbkbfkdgggkaaDoor
open Go.RowKit

theorem quiet_same {P : Program} {f : FuncId} {args : Array Value} {w : World} {n : Nat} {v : Value} (h : Calls P f args (w.drewN n) fun e w' => e = .returned v ∧ w.drewN n = w') : Calls P f args (w.drewN n) fun e w'' => e = .returned v ∧ ∃ m, w'' = w.drewN m :=
  h.mono fun _ _ ⟨he, hw⟩ => ⟨he, n, hw.symm⟩

def cellR (x : Int) : Bool := inR x (-1000000000000) 1000000000000
def cellsB (W D S : Int) (cs : List Int) : Bool := inR W 2 64 && inR D 1 6 && isKey S && decide ((cs.length : Int) = W * D) && cs.all cellR
theorem prod_bd {W D : Int} (h1 : inR W 2 64 = true) (h2 : inR D 1 6 = true) : 0 ≤ W * D ∧ W * D ≤ 384 := by
  rw [inR_eq] at h1 h2
  constructor
  · exact Int.mul_nonneg (by omega) (by omega)
  · have := Int.mul_le_mul h1.2 h2.2 (by omega) (by omega)
    omega

theorem validCells_all {a : Option Addr} {c : Nat} {cs : List Int} {w : World} (hr : Rd (Value.int .i64) w a c cs) :
    Calls Tryd.prog 40 #[.slice a cs.length c, .int .i64 (-1000000000000), .int .i64 1000000000000] w fun e w' => e = .returned (.bool (cs.all cellR)) ∧ Below w.heap.size w w' := areWithin_any a c cs _ _ w hr

end Go.Proofs.YtncbkbfkdgggkaaDoor
