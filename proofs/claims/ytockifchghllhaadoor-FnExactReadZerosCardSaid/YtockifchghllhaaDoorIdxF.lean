/- slices.IndexFunc and slices.ContainsFunc at []float32, for whatever closure. -/
import Derived.Test.YtockifchghllhaaDoorToF
namespace Go.Proofs.YtockifchghllhaaDoor
open Go.RowKit

end Go.Proofs.YtockifchghllhaaDoor
