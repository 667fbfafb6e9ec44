/- A bit is brought into a window: the reference's text. -/
import Derived.Test.YtockifchghllhaaDoorPutW
import Derived.Test.YtockifchghllhaaDoorWinB
import Derived.Test.YtockifchghllhaaDoorCalm
import Derived.Deep.LoopGhost
import Derived.Deep.DrawnRows
namespace Go.Proofs.YtockifchghllhaaDoor
open Go.RowKit
attribute [local go_sem ↓] Go.wp_at_zero Go.wp_at_succ

end Go.Proofs.YtockifchghllhaaDoor
