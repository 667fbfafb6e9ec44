/- The walks of the laws' small helpers on slices of bool. -/
import Derived.Test.YtfecdmenliohhaaRows
import Derived.Test.YtfecdmenliohhaaQLe6
set_option linter.unusedVariables false
set_option linter.unusedSimpArgs false
namespace Go.Proofs.Ytfecdmenliohhaa
open Go.RowKit

theorem info_b : (Try.prog.info? 4).map (fun i => (i.zero, i.size, i.bytes)) = some (some (.bool false), 1, 1) := by kernel_rfl

end Go.Proofs.Ytfecdmenliohhaa
