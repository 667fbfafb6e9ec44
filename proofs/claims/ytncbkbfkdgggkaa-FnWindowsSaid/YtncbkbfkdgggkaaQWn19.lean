/- The decays' factors, the halves [0, 1]: the kernel's reckoning. (printed by mkExT.py). -/
import Derived.Test.YtncbkbfkdgggkaaQWn18
namespace Go.Proofs.Ytncbkbfkdgggkaa
open Go.RowKit

set_option maxRecDepth 100000 in
theorem exB_0 : (List.range 168).all (fun d => exB 0 d) = true := by decide +kernel
set_option maxRecDepth 100000 in
theorem exB_1 : (List.range 168).all (fun d => exB 1 d) = true := by decide +kernel

end Go.Proofs.Ytncbkbfkdgggkaa
