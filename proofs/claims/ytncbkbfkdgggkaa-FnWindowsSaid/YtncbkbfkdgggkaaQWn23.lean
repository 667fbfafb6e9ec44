/- The decays' factors, the halves [8, 9]: the kernel's reckoning. (printed by mkExT.py). -/
import Derived.Test.YtncbkbfkdgggkaaQWn18
namespace Go.Proofs.Ytncbkbfkdgggkaa
open Go.RowKit

set_option maxRecDepth 100000 in
theorem exB_8 : (List.range 168).all (fun d => exB 8 d) = true := by decide +kernel
set_option maxRecDepth 100000 in
theorem exB_9 : (List.range 168).all (fun d => exB 9 d) = true := by decide +kernel

end Go.Proofs.Ytncbkbfkdgggkaa
