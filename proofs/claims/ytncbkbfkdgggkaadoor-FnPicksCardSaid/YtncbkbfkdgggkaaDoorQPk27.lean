/- From the row's listed table to the fact that the walks ask. -/
import Derived.Test.YtncbkbfkdgggkaaDoorQPk23
import Derived.Test.YtncbkbfkdgggkaaDoorRows
import Derived.Lib.LaidTab
set_option linter.unusedVariables false
set_option linter.unusedSimpArgs false
namespace Go.Proofs.YtncbkbfkdgggkaaDoor
open Go.RowKit

theorem tab_of_laid {W : World} {rest : List (String × DataW Unit)} (h : laidMet Tryd.prog (("math/bits.deBruijn32tab", Rows.laid_math_bits_deBruijn32tab) :: rest) W) : Tab W := by
  have e : (Rows.laid_math_bits_deBruijn32tab : DataW Unit) = Lib.tabData .u8 (Lib.deBruijn32tab.map Int.ofNat) := rfl
  rw [e] at h
  have ht := Lib.tabIs_of_head (g := 0) (t := 90) (e := 5) (n := 32) (by kernel_rfl) (by kernel_rfl) Tryd.underlying90 Tryd.underlying5 (by kernel_rfl) (by kernel_rfl) h
  intro j hj
  have hc := ht.cell (g := 0) (by kernel_rfl) j (by simpa using hj)
  rw [hc]
  simp [List.getD, hj]

end Go.Proofs.YtncbkbfkdgggkaaDoor
