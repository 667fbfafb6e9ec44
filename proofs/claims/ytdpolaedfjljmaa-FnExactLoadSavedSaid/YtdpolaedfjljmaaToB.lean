/- The walks of the laws' small helpers on slices of bool. -/
import Derived.Test.YtdpolaedfjljmaaRows
import Derived.Test.YtdpolaedfjljmaaLib
namespace Go.Proofs.Ytdpolaedfjljmaa
open Go.RowKit

theorem und_bs : Try.prog.underlying 60 = some (.slice (Try.prog.elem 60)) := by kernel_rfl
theorem siz_bs (w : World) : (sizeOf (Try.prog.elem 60)).run Try.prog w = .ok 1 w := by kernel_rfl
theorem und_bse : Try.prog.underlying 60 = some (.slice 4) := by kernel_rfl
theorem info_b : (Try.prog.info? 4).map (fun i => (i.zero, i.size, i.bytes)) = some (some (.bool false), 1, 1) := by kernel_rfl

end Go.Proofs.Ytdpolaedfjljmaa
