/- CountWindow and BoundsOfWindow: small parts. -/
import Derived.Test.YtockifchghllhaaDoorWinT
import Derived.Test.YtockifchghllhaaDoorWinY
namespace Go.Proofs.YtockifchghllhaaDoor
open Go.RowKit

/-- A sum, as int64 adds. -/
def sumW (xs : List Int) : Int := xs.foldl (fun s x => wrap64 (s + x)) 0
theorem sumW_snoc {xs : List Int} {k : Nat} (h : k < xs.length) {x s : Int} (hx : xs[k] = x) (hs : sumW (xs.take k) = s) : sumW (xs.take (k + 1)) = wrap64 (s + x) := by
  unfold sumW at hs ⊢
  rw [List.take_add_one, List.foldl_append, List.getElem?_eq_getElem h, hx, hs]; rfl

end Go.Proofs.YtockifchghllhaaDoor
