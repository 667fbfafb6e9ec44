/- Lists of keys, in both texts. -/
import Derived.Test.YtdpolaedfjljmaaRow
namespace Go.Proofs.Ytdpolaedfjljmaa
open Go.RowKit

def keysB (xs : List Int) : Bool := xs.all isKey
def saltsB (xs : List Int) : Bool := decide (1 ≤ xs.length) && decide (xs.length ≤ 32) && keysB xs
theorem saltsB_len {xs : List Int} (h : saltsB xs = true) : xs.length ≤ 32 := by simp [saltsB] at h; exact h.1.2
theorem keysB_get {xs : List Int} (h : keysB xs = true) (k : Nat) (hk : k < xs.length) : 0 ≤ xs[k] ∧ xs[k] < 4294967296 :=
  isKey_bd ((List.all_eq_true.1 h) _ (List.getElem_mem hk))
theorem saltsB_keys {xs : List Int} (h : saltsB xs = true) : keysB xs = true := by simp [saltsB] at h; exact h.2

theorem areAllKeys1_any {x : Int} {w : World} : Calls Try.prog 126 #[.int .i64 x] w fun e w' => e = .returned (.bool (!isKey x)) ∧ Below w.heap.size w w' := by
  go_enter Try.func126, Try.ntmps126
  go_wp2_with fail
  refine implIsKey_any.mono ?_
  rintro e w1 ⟨rfl, rfl⟩
  go_wp2
  go_ret
  exact ⟨rfl, Below.refl _ _⟩

theorem call_areAllKeys1 (vs : Array Value) (w : World) : (callFunc 126 vs).run Try.prog w = .ok (.enter 126 vs) w := by kernel_rfl

theorem areAllKeys_any {a : Option Addr} {c : Nat} {xs : List Int} {w : World} (hr : Rd (Value.int .i64) w a c xs) :
    Calls Try.prog 72 #[.slice a xs.length c] w fun e w' => e = .returned (.bool (keysB xs)) ∧ Below w.heap.size w w' := by
  have HC := Lib.hid (containsFunci_any a c xs w 126 #[] (fun x => !isKey x) call_areAllKeys1 hr (fun k h wr hb => by simpa using areAllKeys1_any))
  go_enter Try.func72, Try.ntmps72
  go_wp2_with fail
  refine HC.out.mono ?_
  rintro e w1 ⟨rfl, hb1⟩
  go_wp2
  go_ret
  refine ⟨ret_bool ?_, hb1⟩
  rw [Bool.eq_iff_iff]; simp [keysB, List.all_eq_true, List.any_eq_true]

end Go.Proofs.Ytdpolaedfjljmaa
