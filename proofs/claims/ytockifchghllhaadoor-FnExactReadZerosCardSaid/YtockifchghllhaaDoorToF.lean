/- The walks of the laws' small helpers on slices of float32. -/
import Derived.Test.YtockifchghllhaaDoorRows
import Derived.Test.YtockifchghllhaaDoorLib
namespace Go.Proofs.YtockifchghllhaaDoor
open Go.RowKit

theorem info_f : (Tryd.prog.info? 205).map (fun i => (i.zero, i.size, i.bytes)) = some (some (.float .f32 0), 1, 4) := by kernel_rfl

end Go.Proofs.YtockifchghllhaaDoor
