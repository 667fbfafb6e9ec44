/- EdgeSketch in the reference's text. -/
import Derived.Test.YtfecdmenliohhaaQFo21
import Derived.Test.YtfecdmenliohhaaQFo10
import Derived.Deep.Cut
import Derived.Deep.DeepCutAuto
import Derived.Deep.CutBlock
set_option linter.unusedVariables false
set_option linter.unusedSimpArgs false
namespace Go.Proofs.Ytfecdmenliohhaa
open Go.RowKit

end Go.Proofs.Ytfecdmenliohhaa
