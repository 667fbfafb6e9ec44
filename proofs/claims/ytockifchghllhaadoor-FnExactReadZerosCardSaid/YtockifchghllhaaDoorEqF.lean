/- eq.. on lists of float32. -/
import Derived.Test.YtockifchghllhaaDoorSame
namespace Go.Proofs.YtockifchghllhaaDoor
open Go.RowKit

theorem und_f32 : (Tryd.prog.underlying 205).isSome = true := by kernel_rfl
end Go.Proofs.YtockifchghllhaaDoor
