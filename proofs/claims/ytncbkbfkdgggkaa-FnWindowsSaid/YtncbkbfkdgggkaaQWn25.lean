/- The decays' factors, the halves [12, 13]: the kernel's reckoning. (printed by mkExT.py). -/
import Derived.Test.YtncbkbfkdgggkaaQWn18
namespace Go.Proofs.Ytncbkbfkdgggkaa
open Go.RowKit

set_option maxRecDepth 100000 in
theorem exB_12 : (List.range 168).all (fun d => exB 12 d) = true := by decide +kernel
set_option maxRecDepth 100000 in
theorem exB_13 : (List.range 168).all (fun d => exB 13 d) = true := by decide +kernel

end Go.Proofs.Ytncbkbfkdgggkaa
