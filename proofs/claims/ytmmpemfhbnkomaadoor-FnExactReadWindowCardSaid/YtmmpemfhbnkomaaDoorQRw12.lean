/- What a window keeps, in the program's text: where it is valid. -/
import Derived.Test.YtmmpemfhbnkomaaDoorQRw4
import Derived.Test.YtmmpemfhbnkomaaDoorQRw0
import Derived.Deep.DrawnRows
import Derived.Deep.Cut
import Derived.Deep.DeepCutAuto
import Derived.Deep.CutBlock
set_option linter.unusedVariables false
set_option linter.unusedSimpArgs false
namespace Go.Proofs.YtmmpemfhbnkomaaDoor
open Go.RowKit
attribute [local go_sem ↓] Go.wp_at_zero Go.wp_at_succ

/-- The first index with a time that is new enough; all of them, if there is none. -/
def keptI (ts : List Int) (c : Int) : Nat := ts.findIdx (fun x => decide (c < x))

/-- A window in new memory, and 'true'. -/
def RetWin (w : World) (L P : Int) (xs ys : List Int) (en : Ending) (w' : World) : Prop :=
  ∃ a c a' c', en = .returned (.tuple #[winV L P a xs.length c a' ys.length c', .bool true]) ∧ Own (Value.int .i64) 2 w' w.heap.size a c xs ∧ Own (Value.int .i64) 2 w' w.heap.size a' c' ys ∧ Below w.heap.size w w'

def RetWin2 (w : World) (L P : Int) (xs ys : List Int) (en : Ending) (w' : World) : Prop :=
  ∃ a c a' c', en = .returned (.tuple #[winV L P a xs.length c a' ys.length c', .bool true]) ∧ Own (Value.int .i64) 2 w' w.heap.size a c xs ∧ Own (Value.int .i64) 2 w' w.heap.size a' c' ys ∧ Sep a a' ∧ Below w.heap.size w w'

theorem farK {w : World} {n o : Nat} {v0 v1 v2 v3 : Value} {u : Value} (hc : w.cell? ⟨n, o, none⟩ = some u) :
    ((((w.setCell ⟨n + 1 + 1, 0, none⟩ v0).setCell ⟨n + 1 + 1, 1, none⟩ v1).setCell ⟨n + 1 + 1, 2, none⟩ v2).setCell ⟨n + 1 + 1, 3, none⟩ v3).cell? ⟨n, o, none⟩ = some u := by
  have h : n + 1 + 1 ≠ n := by omega
  rw [World.cell?_setCell_far _ _ _ _ h, World.cell?_setCell_far _ _ _ _ h, World.cell?_setCell_far _ _ _ _ h, World.cell?_setCell_far _ _ _ _ h]
  exact hc

end Go.Proofs.YtmmpemfhbnkomaaDoor
