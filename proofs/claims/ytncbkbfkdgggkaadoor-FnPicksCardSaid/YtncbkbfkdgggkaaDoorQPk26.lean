/- slices.SortStableFunc at []int64: the parts joined. -/
import Derived.Test.YtncbkbfkdgggkaaDoorQPk18
import Derived.Test.YtncbkbfkdgggkaaDoorQPk25
set_option linter.unusedVariables false
set_option linter.unusedSimpArgs false
namespace Go.Proofs.YtncbkbfkdgggkaaDoor
open Go.RowKit

theorem sortStable_own {F : Nat} {caps : Array Value} {val K : Int → Int} {cf : Int → Int → Int} {T : Int → Prop} {w : World} {base : Nat} {a : Option Addr} {c : Nat} {ts : List Int}
    (ho : Own (vI val) 2 w base a c ts) (hn : ts.length ≤ 1048576) (hc : CmpOk Tryd.prog F caps w (a.map (·.block)) val K cf T) (hT : All T ts) (hK : Mono K) (hS : Stab K ts) :
    Calls Tryd.prog 53 #[.slice a ts.length c, .func (.func F) #[] caps] w (SortedW val w base a c ts) :=
  sortStableM_own ho hn hc hT hK hS (fun n => mergeDone hK n)

end Go.Proofs.YtncbkbfkdgggkaaDoor
