/- EdgeSketch in the reference's text. -/
import Derived.Test.YtmmpemfhbnkomaaQJd7
import Derived.Test.YtmmpemfhbnkomaaQJd2
import Derived.Deep.Cut
import Derived.Deep.DeepCutAuto
import Derived.Deep.CutBlock
set_option linter.unusedVariables false
set_option linter.unusedSimpArgs false
namespace Go.Proofs.Ytmmpemfhbnkomaa
open Go.RowKit

theorem l00Max_any {x y : Int} {w : World} : Calls Try.prog 9 #[.int .i64 x, .int .i64 y] w fun e w' => e = .returned (.int .i64 (max x y)) ∧ w = w' := by
  by_cases h : y < x
  · have e : max x y = x := by omega
    rw [e]
    clear e
    go_enter Try.func9, Try.ntmps9
    go_wp2
    go_ret
    exact ⟨rfl, rfl⟩
  · have e : max x y = y := by omega
    rw [e]
    clear e
    go_enter Try.func9, Try.ntmps9
    go_wp2
    go_ret
    exact ⟨rfl, rfl⟩
theorem l00Max_quiet {x y : Int} {w : World} {n : Nat} : Calls Try.prog 9 #[.int .i64 x, .int .i64 y] (w.drewN n) fun e w'' => e = .returned (.int .i64 (max x y)) ∧ ∃ m, w'' = w.drewN m :=
  l00Max_any.mono fun _ _ ⟨he, hw⟩ => ⟨he, n, hw.symm⟩

end Go.Proofs.Ytmmpemfhbnkomaa
