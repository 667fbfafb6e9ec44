/- EdgeSketch in the reference's text. -/
import Derived.Test.YtihbckoldblpcaaSketch
import Derived.Test.YtihbckoldblpcaaEdgesS
import Derived.Deep.Cut
import Derived.Deep.DeepCutAuto
import Derived.Deep.CutBlock
namespace Go.Proofs.Ytihbckoldblpcaa
open Go.RowKit

theorem l00Min_any {x y : Int} {w : World} : Calls Try.prog 93 #[.int .i64 x, .int .i64 y] w fun e w' => e = .returned (.int .i64 (min x y)) ∧ w = w' := by
  by_cases h : x < y
  · have e : min x y = x := by omega
    rw [e]
    clear e
    go_enter Try.func93, Try.ntmps93
    go_wp2
    go_ret
    exact ⟨rfl, rfl⟩
  · have e : min x y = y := by omega
    rw [e]
    clear e
    go_enter Try.func93, Try.ntmps93
    go_wp2
    go_ret
    exact ⟨rfl, rfl⟩
theorem l00Max_any {x y : Int} {w : World} : Calls Try.prog 42 #[.int .i64 x, .int .i64 y] w fun e w' => e = .returned (.int .i64 (max x y)) ∧ w = w' := by
  by_cases h : y < x
  · have e : max x y = x := by omega
    rw [e]
    clear e
    go_enter Try.func42, Try.ntmps42
    go_wp2
    go_ret
    exact ⟨rfl, rfl⟩
  · have e : max x y = y := by omega
    rw [e]
    clear e
    go_enter Try.func42, Try.ntmps42
    go_wp2
    go_ret
    exact ⟨rfl, rfl⟩
theorem l00Min_quiet {x y : Int} {w : World} {n : Nat} : Calls Try.prog 93 #[.int .i64 x, .int .i64 y] (w.drewN n) fun e w'' => e = .returned (.int .i64 (min x y)) ∧ ∃ m, w'' = w.drewN m :=
  l00Min_any.mono fun _ _ ⟨he, hw⟩ => ⟨he, n, hw.symm⟩
theorem l00Max_quiet {x y : Int} {w : World} {n : Nat} : Calls Try.prog 42 #[.int .i64 x, .int .i64 y] (w.drewN n) fun e w'' => e = .returned (.int .i64 (max x y)) ∧ ∃ m, w'' = w.drewN m :=
  l00Max_any.mono fun _ _ ⟨he, hw⟩ => ⟨he, n, hw.symm⟩

end Go.Proofs.Ytihbckoldblpcaa
