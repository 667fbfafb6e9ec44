/- The walks of the laws' small helpers on slices of float32. -/
import Derived.Test.YtihbckoldblpcaaDoorRows
import Derived.Test.YtihbckoldblpcaaDoorLib
namespace Go.Proofs.YtihbckoldblpcaaDoor
open Go.RowKit

end Go.Proofs.YtihbckoldblpcaaDoor
