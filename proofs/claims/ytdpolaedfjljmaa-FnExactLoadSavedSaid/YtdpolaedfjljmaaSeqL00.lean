/- Are two slices equal: L00. -/
import Derived.Test.YtdpolaedfjljmaaToI
namespace Go.Proofs.Ytdpolaedfjljmaa
open Go.RowKit

end Go.Proofs.Ytdpolaedfjljmaa
