/- The lower median, in plain words. -/
import Derived.Test.YtihbckoldblpcaaSortL
namespace Go.Proofs.Ytihbckoldblpcaa
open Go.RowKit

/-- The lower median. -/
def midR (ys : List Int) : Int := at0 ys ((ys.length - 1) / 2)
def midG (zs : List Int) : Int := midR (srt zs)

end Go.Proofs.Ytihbckoldblpcaa
