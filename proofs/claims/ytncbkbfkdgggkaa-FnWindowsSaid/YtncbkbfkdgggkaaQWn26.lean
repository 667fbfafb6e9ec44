/- The decays' factors, the halves [14, 15]: the kernel's reckoning. (printed by mkExT.py). -/
import Derived.Test.YtncbkbfkdgggkaaQWn18
namespace Go.Proofs.Ytncbkbfkdgggkaa
open Go.RowKit

set_option maxRecDepth 100000 in
theorem exB_14 : (List.range 168).all (fun d => exB 14 d) = true := by decide +kernel
set_option maxRecDepth 100000 in
theorem exB_15 : (List.range 168).all (fun d => exB 15 d) = true := by decide +kernel

end Go.Proofs.Ytncbkbfkdgggkaa
