/- slices.Sort at []int64, on a list of the call's own. -/
import Derived.Test.YtncbkbfkdgggkaaQWn0
import Derived.Test.YtncbkbfkdgggkaaQWn5
import Derived.Test.YtncbkbfkdgggkaaQWn3
import Derived.Sort.OwnSortedInts
namespace Go.Proofs.Ytncbkbfkdgggkaa
open Go.RowKit Go.Sort Go.Proofs Go.ChangeShapes Go.WideShapes

end Go.Proofs.Ytncbkbfkdgggkaa
