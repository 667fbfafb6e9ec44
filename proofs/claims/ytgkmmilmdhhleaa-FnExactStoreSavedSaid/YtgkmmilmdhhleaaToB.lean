/- The walks of the laws' small helpers on slices of bool. -/
import Derived.Test.YtgkmmilmdhhleaaRows
import Derived.Test.YtgkmmilmdhhleaaLib
namespace Go.Proofs.Ytgkmmilmdhhleaa
open Go.RowKit

theorem und_bs : Try.prog.underlying 65 = some (.slice (Try.prog.elem 65)) := by kernel_rfl
theorem siz_bs (w : World) : (sizeOf (Try.prog.elem 65)).run Try.prog w = .ok 1 w := by kernel_rfl
theorem und_bse : Try.prog.underlying 65 = some (.slice 4) := by kernel_rfl
theorem info_b : (Try.prog.info? 4).map (fun i => (i.zero, i.size, i.bytes)) = some (some (.bool false), 1, 1) := by kernel_rfl

end Go.Proofs.Ytgkmmilmdhhleaa
