/- The walks of the laws' small helpers on slices of float32. -/
import Derived.Test.YtihbckoldblpcaaRows
import Derived.Test.YtihbckoldblpcaaLib
namespace Go.Proofs.Ytihbckoldblpcaa
open Go.RowKit

theorem und_fs : Try.prog.underlying 50 = some (.slice (Try.prog.elem 50)) := by kernel_rfl
theorem siz_fs (w : World) : (sizeOf (Try.prog.elem 50)).run Try.prog w = .ok 1 w := by kernel_rfl
theorem und_fse : Try.prog.underlying 50 = some (.slice 22) := by kernel_rfl
theorem info_f : (Try.prog.info? 22).map (fun i => (i.zero, i.size, i.bytes)) = some (some (.float .f32 0), 1, 4) := by kernel_rfl

end Go.Proofs.Ytihbckoldblpcaa
