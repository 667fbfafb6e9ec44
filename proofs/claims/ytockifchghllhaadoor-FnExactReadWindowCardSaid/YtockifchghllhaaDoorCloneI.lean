/- slices.Clone at []int64. -/
import Derived.Test.YtockifchghllhaaDoorToI
namespace Go.Proofs.YtockifchghllhaaDoor
open Go.RowKit

end Go.Proofs.YtockifchghllhaaDoor
