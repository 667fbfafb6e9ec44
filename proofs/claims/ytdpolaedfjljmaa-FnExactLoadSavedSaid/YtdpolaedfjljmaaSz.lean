/- Sizes: the room that is left. -/
import Derived.Test.YtdpolaedfjljmaaToI
import Derived.Test.YtdpolaedfjljmaaToB
namespace Go.Proofs.Ytdpolaedfjljmaa
open Go.RowKit

def room (l s : Int) : Int := if l < s then -1 else l - s
theorem room_no {l s : Int} (h : l < s) : room l s = -1 := if_pos h
theorem room_yes {l s : Int} (h : ¬ l < s) : room l s = l - s := if_neg h



end Go.Proofs.Ytdpolaedfjljmaa
