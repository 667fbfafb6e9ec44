/- Valid saved ones in both texts. -/
import Derived.Test.YtncbkbfkdgggkaaDoorQPk33
import Derived.Test.YtncbkbfkdgggkaaDoorQPk4
set_option linter.unusedVariables false
set_option linter.unusedSimpArgs false
namespace Go.Proofs.YtncbkbfkdgggkaaDoor
open Go.RowKit

def savedB (nm : ByteArray) (W D S : Int) (cs : List Int) (R : Int) (ks ts es : List Int) : Bool := nameB nm && cellsB W D S cs && keysB cs && topsB R ks ts es && keysB ts
theorem savedB_f {nm : ByteArray} {W D S R : Int} {cs ks ts es : List Int} (h : nameB nm = false ∨ cellsB W D S cs = false ∨ keysB cs = false ∨ topsB R ks ts es = false ∨ keysB ts = false) : savedB nm W D S cs R ks ts es = false := by
  unfold savedB
  rcases h with h | h | h | h | h <;> rw [h] <;> simp

end Go.Proofs.YtncbkbfkdgggkaaDoor
