/- The decays' factors, the halves [6, 7]: the kernel's reckoning. (printed by mkExT.py). -/
import Derived.Test.YtncbkbfkdgggkaaQWn18
namespace Go.Proofs.Ytncbkbfkdgggkaa
open Go.RowKit

set_option maxRecDepth 100000 in
theorem exB_6 : (List.range 168).all (fun d => exB 6 d) = true := by decide +kernel
set_option maxRecDepth 100000 in
theorem exB_7 : (List.range 168).all (fun d => exB 7 d) = true := by decide +kernel

end Go.Proofs.Ytncbkbfkdgggkaa
