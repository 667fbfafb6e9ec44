/- The decays' factors, the halves [4, 5]: the kernel's reckoning. (printed by mkExT.py). -/
import Derived.Test.YtncbkbfkdgggkaaQWn18
namespace Go.Proofs.Ytncbkbfkdgggkaa
open Go.RowKit

set_option maxRecDepth 100000 in
theorem exB_4 : (List.range 168).all (fun d => exB 4 d) = true := by decide +kernel
set_option maxRecDepth 100000 in
theorem exB_5 : (List.range 168).all (fun d => exB 5 d) = true := by decide +kernel

end Go.Proofs.Ytncbkbfkdgggkaa
