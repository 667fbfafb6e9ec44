/- eq.. on lists of float32. -/
import Derived.Test.YtihbckoldblpcaaDoorSame
namespace Go.Proofs.YtihbckoldblpcaaDoor
open Go.RowKit

end Go.Proofs.YtihbckoldblpcaaDoor
