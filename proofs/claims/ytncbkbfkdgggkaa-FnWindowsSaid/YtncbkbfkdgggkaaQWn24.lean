/- The decays' factors, the halves [10, 11]: the kernel's reckoning. (printed by mkExT.py). -/
import Derived.Test.YtncbkbfkdgggkaaQWn18
namespace Go.Proofs.Ytncbkbfkdgggkaa
open Go.RowKit

set_option maxRecDepth 100000 in
theorem exB_10 : (List.range 168).all (fun d => exB 10 d) = true := by decide +kernel
set_option maxRecDepth 100000 in
theorem exB_11 : (List.range 168).all (fun d => exB 11 d) = true := by decide +kernel

end Go.Proofs.Ytncbkbfkdgggkaa
