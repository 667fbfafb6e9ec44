/- The decays' factors, the halves [2, 3]: the kernel's reckoning. (printed by mkExT.py). -/
import Derived.Test.YtncbkbfkdgggkaaQWn18
namespace Go.Proofs.Ytncbkbfkdgggkaa
open Go.RowKit

set_option maxRecDepth 100000 in
theorem exB_2 : (List.range 168).all (fun d => exB 2 d) = true := by decide +kernel
set_option maxRecDepth 100000 in
theorem exB_3 : (List.range 168).all (fun d => exB 3 d) = true := by decide +kernel

end Go.Proofs.Ytncbkbfkdgggkaa
