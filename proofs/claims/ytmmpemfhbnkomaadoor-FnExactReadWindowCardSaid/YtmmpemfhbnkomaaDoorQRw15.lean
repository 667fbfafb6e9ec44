/- A bit is brought into a window: the reference's text. PutWindow in the reference's text. -/
import Derived.Test.YtmmpemfhbnkomaaDoorQRw14
import Derived.Test.YtmmpemfhbnkomaaDoorQRw13
import Derived.Test.YtmmpemfhbnkomaaDoorQRw0
import Derived.Deep.LoopGhost
import Derived.Deep.DrawnRows
set_option linter.unusedVariables false
set_option linter.unusedSimpArgs false
namespace Go.Proofs.YtmmpemfhbnkomaaDoor
open Go.RowKit
attribute [local go_sem ↓] Go.wp_at_zero Go.wp_at_succ

end Go.Proofs.YtmmpemfhbnkomaaDoor

namespace Go.Proofs.YtmmpemfhbnkomaaDoor
open Go.RowKit
attribute [local go_sem ↓] Go.wp_at_zero Go.wp_at_succ

/-- What the times and sizes become. -/
def putP (L P : Int) (ts ss : List Int) (t : Int) (b : Bool) : Pr := putR P (put0 (ts.drop (keptI ts (t - L))) (ss.drop (keptI ts (t - L))) t b)
def putOk (L P : Int) (ts ss : List Int) (t : Int) (b : Bool) : Bool := lateB L P ts ss t && winB L P (putP L P ts ss t b).1 (putP L P ts ss t b).2
/-- A window in new memory, its two slices apart, and a bool. -/
def RetWinX (w : World) (L P : Int) (xs ys : List Int) (b : Bool) (en : Ending) (w' : World) : Prop :=
  ∃ a c a' c', en = .returned (.tuple #[winV L P a xs.length c a' ys.length c', .bool b]) ∧ Own (Value.int .i64) 2 w' w.heap.size a c xs ∧ Own (Value.int .i64) 2 w' w.heap.size a' c' ys ∧ Sep a a' ∧ Below w.heap.size w w'
/-- A window if ok, and whether. -/
def RetPut (w : World) (L P : Int) (Q : Pr) (ok : Bool) (en : Ending) (w' : World) : Prop :=
  RetWinX w (if ok then L else 0) (if ok then P else 0) (if ok then Q.1 else []) (if ok then Q.2 else []) ok en w'
theorem retPut_yes {w w' : World} {L P : Int} {QT QS : List Int} {en : Ending} (h : RetWinX w L P QT QS true en w') : RetPut w L P (QT, QS) true en w' := h
theorem retPut_no {w w' : World} {L P : Int} {Q : Pr} {en : Ending} (h : RetWinX w 0 0 [] [] false en w') : RetPut w L P Q false en w' := h
theorem retWinX_no {w w' : World} (hb : Below w.heap.size w w') : RetWinX w 0 0 [] [] false (.returned (.tuple #[winV 0 0 none 0 0 none 0 0, .bool false])) w' :=
  ⟨none, 0, none, 0, rfl, own_nil _ _ _ _, own_nil _ _ _ _, fun p q hp => by simp at hp, hb⟩

end Go.Proofs.YtmmpemfhbnkomaaDoor
