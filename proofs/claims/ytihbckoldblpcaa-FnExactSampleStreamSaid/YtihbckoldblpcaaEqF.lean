/- eq.. on lists of float32. -/
import Derived.Test.YtihbckoldblpcaaSame
namespace Go.Proofs.Ytihbckoldblpcaa
open Go.RowKit

theorem und_f32 : (Try.prog.underlying 22).isSome = true := by kernel_rfl
theorem und_f64 : Try.prog.underlying 78 = some (.float .f64) := by kernel_rfl

end Go.Proofs.Ytihbckoldblpcaa
