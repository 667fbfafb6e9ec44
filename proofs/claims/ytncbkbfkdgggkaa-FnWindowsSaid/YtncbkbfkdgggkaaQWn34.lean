/- EdgeSketch in the reference's text. -/
import Derived.Test.YtncbkbfkdgggkaaQWn15
import Derived.Test.YtncbkbfkdgggkaaQWn3
import Derived.Deep.Cut
import Derived.Deep.DeepCutAuto
import Derived.Deep.CutBlock
namespace Go.Proofs.Ytncbkbfkdgggkaa
open Go.RowKit

end Go.Proofs.Ytncbkbfkdgggkaa
