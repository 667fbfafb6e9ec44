/- The exponential function in both texts. The sine and the point of the unit circle in both texts: walked. -/
import Derived.Test.YtncbkbfkdgggkaaDoorQPk3
import Derived.Deep.DrawnRows
import Derived.Deep.Cut
import Derived.Deep.CutBlock
set_option linter.unusedVariables false
set_option linter.unusedSimpArgs false
namespace Go.Proofs.YtncbkbfkdgggkaaDoor
open Go.RowKit
attribute [local go_sem ↓] Go.wp_at_zero Go.wp_at_succ

def flOf : Value → Nat
  | .float _ b => b
  | _ => 0
theorem kF_ge : ∀ i : Fin 12, FloatKind.f64.format.order (kF i.val) 4607182418800017408 = some .gt ∨ FloatKind.f64.format.order (kF i.val) 4607182418800017408 = some .eq := by decide +kernel
theorem kF_end : FloatKind.f64.format.order (kF 12) 4607182418800017408 = some .lt := by decide +kernel
theorem kF_sub : ∀ i : Fin 12, fbin .sub .f64 (some (kF i.val)) (some 4607182418800017408) = some (kF (i.val + 1)) := by decide +kernel
theorem kF_dn : ∀ i : Fin 12, kF (i.val + 1) < kF i.val := by decide +kernel
theorem kF_cn : ∀ i : Fin 13, cn .f64 (kF i.val) = some (kF i.val) := by decide +kernel
theorem kF_0 : kF 0 = 4622945017495814144 := by decide +kernel
theorem one_cn : cn .f64 4607182418800017408 = some 4607182418800017408 := by decide +kernel
theorem c256_cn : cn .f64 4643211215818981376 = some 4643211215818981376 := by decide +kernel
theorem numB_cn {B : Int} {s : Bool} {k : FloatKind} {b : Nat} (h : numB B s (k.decode b)) : cn k b = some b := by
  obtain ⟨m, e, hd, _⟩ := h
  unfold cn; rw [hd]; rfl
theorem sgn_cn {s : Bool} {k : FloatKind} {b : Nat} (h : sgD s (k.decode b)) : cn k b = some b := by
  unfold cn
  rcases h with ⟨m, e, hd⟩ | hd <;> rw [hd] <;> rfl

/-- What the wide one returns. -/
def expW (x : Nat) : Option Nat := if FloatKind.f32.format.order x 3276275712 = some .lt then some 0 else squareF (hornerF (expT x) 12) 8
theorem expO_W {x : Nat} : expO x = narrow (expW x) := by
  unfold expO expW
  split
  · rfl
  · rfl
theorem floatOf_k : ∀ i : Fin 12, floatOfInt .f64 (12 - (i.val : Int)) = kF i.val := by decide +kernel

end Go.Proofs.YtncbkbfkdgggkaaDoor

namespace Go.Proofs.YtncbkbfkdgggkaaDoor
open Go.RowKit
attribute [local go_sem ↓] Go.wp_at_zero Go.wp_at_succ

theorem ar {op : BinOp} {a b r : Nat} (h : fbin op .f64 (some a) (some b) = some r) (t : TypeId) (w : World) : (binOp op t (.float .f64 a) (.float .f64 b)).run Tryd.prog w = .ok (.float .f64 r) w := run_float_arith w op t .f64 a b r h
theorem und_i64 : Tryd.prog.underlying 2 = some (.int .i64) := by kernel_rfl
theorem und_f64s : (Tryd.prog.underlying 31).isSome = true := by kernel_rfl
theorem lt_b {o : Option Ordering} (h : o = some .lt) : (o == some .lt) = true := by rw [h]; rfl
theorem nlt_b {o : Option Ordering} (h : ¬ o = some .lt) : (o == some .lt) = false := by simpa using h

end Go.Proofs.YtncbkbfkdgggkaaDoor
