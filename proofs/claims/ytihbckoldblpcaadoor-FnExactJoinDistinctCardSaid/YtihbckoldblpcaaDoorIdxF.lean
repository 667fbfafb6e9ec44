/- slices.IndexFunc and slices.ContainsFunc at []float32, for whatever closure. -/
import Derived.Test.YtihbckoldblpcaaDoorToF
namespace Go.Proofs.YtihbckoldblpcaaDoor
open Go.RowKit

end Go.Proofs.YtihbckoldblpcaaDoor
