/-
  No cell of these rows narrows 'for every input' (looked for: loops, veiled, ifaces, maps, wideKeys, modest, calm, conditions, laid).
  DERIVED. THE GIVEN ROWS OF THIS SEAT. 8 by the template 'for every input the law returns true; each argument reads behind the call as it read before'; 0 by the template 'total and deterministic' (their statements: YtkmmedhgpmeniaaTotals.lean).
  GIVEN WITH THE SEED: the statements are not yours to turn. If you find one false, say at which input.
  Laid BY PROGRAM, IN A SANDBOX (cutbox-rows.mjs): the forced cells as the released guide's own fill.sh prints them over the translation 271870fde6a90ef2… (all of the seat's roots in one cut). By AI agents, Wed Nov 11 2026. No macro, syntax, notation, axiom, sorry.
-/
import Derived.Test.YtkmmedhgpmeniaaChecked
import GoSem.Claim
import GoSem.ClaimJoined
import GoSem.ClaimMapViews
import Derived.JoinedTies
import Derived.KernelRfl
namespace Go.Proofs.Ytkmmedhgpmeniaa
/- THE CELL 'sum', in the pinned program and in every row, IS THE sha256 OF THE DUMP (.gsa) THAT YtkmmedhgpmeniaaProg.lean LOADS. Nothing in Lean hashes anything: it is a label: what it is worth is what the hold of that sum in a sandbox is worth. -/
noncomputable def Try.pinned : Pinned := { name := "ytkmmedhgpmeniaa", sum := "271870fde6a90ef2f17462961a55ae71da7df7e3827fb5ae3f89fc3fbc9b923d", checked := Try.checked }
namespace Rows
def none {H : Type} : Left H := { results := [], args := [] }

/-- 'laws.FnExactPlaneBits': WHATEVER THE INPUT: true; the input reads as it did. -/
def fnExactPlaneBitsSpec : ChangeSpec := { name := "fnExactPlaneBits", fn := fun _ => fun
  | [d1, d2] => { results := [.lit (.bool true)], args := [d1, d2] }
  | _ => none }
def fnExactPlaneBitsRow : OpenClaim := { program := "ytkmmedhgpmeniaa", sum := "271870fde6a90ef2f17462961a55ae71da7df7e3827fb5ae3f89fc3fbc9b923d", func := "loop.example/g01347/laws.FnExactPlaneBits", spec := "fnExactPlaneBits", unfollowed := true, recurses := true, apart := false }
def FnExactPlaneBitsSaid : Prop := fnExactPlaneBitsRow.holds Try.pinned (OpenSpec.ofChange fnExactPlaneBitsSpec)

/-- ITS FALSE NEIGHBOUR: 'it returns false'. Refute it at one input. -/
def fnExactPlaneBitsWrong : ChangeSpec := { name := "fnExactPlaneBits", fn := fun _ => fun
  | [d1, d2] => { results := [.lit (.bool false)], args := [d1, d2] }
  | _ => none }
def FnExactPlaneBitsWrongFalsely : Prop := fnExactPlaneBitsRow.holds Try.pinned (OpenSpec.ofChange fnExactPlaneBitsWrong)

/-- 'laws.FnExactNewDesk': WHATEVER THE INPUT: true; the input reads as it did. -/
def fnExactNewDeskSpec : ChangeSpec := { name := "fnExactNewDesk", fn := fun _ => fun
  | [] => { results := [.lit (.bool true)], args := [] }
  | _ => none }
def fnExactNewDeskRow : OpenClaim := { program := "ytkmmedhgpmeniaa", sum := "271870fde6a90ef2f17462961a55ae71da7df7e3827fb5ae3f89fc3fbc9b923d", func := "loop.example/g01347/laws.FnExactNewDesk", spec := "fnExactNewDesk", unfollowed := true, recurses := true, apart := false }
def FnExactNewDeskSaid : Prop := fnExactNewDeskRow.holds Try.pinned (OpenSpec.ofChange fnExactNewDeskSpec)

/-- ITS FALSE NEIGHBOUR: 'it returns false'. Refute it at one input. -/
def fnExactNewDeskWrong : ChangeSpec := { name := "fnExactNewDesk", fn := fun _ => fun
  | [] => { results := [.lit (.bool false)], args := [] }
  | _ => none }
def FnExactNewDeskWrongFalsely : Prop := fnExactNewDeskRow.holds Try.pinned (OpenSpec.ofChange fnExactNewDeskWrong)

/-- 'laws.FnExactMiddleOfWindow': WHATEVER THE INPUT: true; the input reads as it did. -/
def fnExactMiddleOfWindowSpec : ChangeSpec := { name := "fnExactMiddleOfWindow", fn := fun _ => fun
  | [d1, d2] => { results := [.lit (.bool true)], args := [d1, d2] }
  | _ => none }
def fnExactMiddleOfWindowRow : OpenClaim := { program := "ytkmmedhgpmeniaa", sum := "271870fde6a90ef2f17462961a55ae71da7df7e3827fb5ae3f89fc3fbc9b923d", func := "loop.example/g01347/laws.FnExactMiddleOfWindow", spec := "fnExactMiddleOfWindow", unfollowed := true, recurses := true, apart := false }
def FnExactMiddleOfWindowSaid : Prop := fnExactMiddleOfWindowRow.holds Try.pinned (OpenSpec.ofChange fnExactMiddleOfWindowSpec)

/-- ITS FALSE NEIGHBOUR: 'it returns false'. Refute it at one input. -/
def fnExactMiddleOfWindowWrong : ChangeSpec := { name := "fnExactMiddleOfWindow", fn := fun _ => fun
  | [d1, d2] => { results := [.lit (.bool false)], args := [d1, d2] }
  | _ => none }
def FnExactMiddleOfWindowWrongFalsely : Prop := fnExactMiddleOfWindowRow.holds Try.pinned (OpenSpec.ofChange fnExactMiddleOfWindowWrong)

/-- 'laws.FnExactShrinkVector': WHATEVER THE INPUT: true; the input reads as it did. -/
def fnExactShrinkVectorSpec : ChangeSpec := { name := "fnExactShrinkVector", fn := fun _ => fun
  | [d1, d2] => { results := [.lit (.bool true)], args := [d1, d2] }
  | _ => none }
def fnExactShrinkVectorRow : OpenClaim := { program := "ytkmmedhgpmeniaa", sum := "271870fde6a90ef2f17462961a55ae71da7df7e3827fb5ae3f89fc3fbc9b923d", func := "loop.example/g01347/laws.FnExactShrinkVector", spec := "fnExactShrinkVector", inPlace := ["math.sqrt"], unfollowed := true, recurses := true, apart := false }
def FnExactShrinkVectorSaid : Prop := fnExactShrinkVectorRow.holds Try.pinned (OpenSpec.ofChange fnExactShrinkVectorSpec)

/-- ITS FALSE NEIGHBOUR: 'it returns false'. Refute it at one input. -/
def fnExactShrinkVectorWrong : ChangeSpec := { name := "fnExactShrinkVector", fn := fun _ => fun
  | [d1, d2] => { results := [.lit (.bool false)], args := [d1, d2] }
  | _ => none }
def FnExactShrinkVectorWrongFalsely : Prop := fnExactShrinkVectorRow.holds Try.pinned (OpenSpec.ofChange fnExactShrinkVectorWrong)

/-- 'laws.FnExactPutWindow': WHATEVER THE INPUT: true; the input reads as it did. -/
def fnExactPutWindowSpec : ChangeSpec := { name := "fnExactPutWindow", fn := fun _ => fun
  | [d1, d2, d3] => { results := [.lit (.bool true)], args := [d1, d2, d3] }
  | _ => none }
def fnExactPutWindowRow : OpenClaim := { program := "ytkmmedhgpmeniaa", sum := "271870fde6a90ef2f17462961a55ae71da7df7e3827fb5ae3f89fc3fbc9b923d", func := "loop.example/g01347/laws.FnExactPutWindow", spec := "fnExactPutWindow", unfollowed := true, recurses := true, apart := false }
def FnExactPutWindowSaid : Prop := fnExactPutWindowRow.holds Try.pinned (OpenSpec.ofChange fnExactPutWindowSpec)

/-- ITS FALSE NEIGHBOUR: 'it returns false'. Refute it at one input. -/
def fnExactPutWindowWrong : ChangeSpec := { name := "fnExactPutWindow", fn := fun _ => fun
  | [d1, d2, d3] => { results := [.lit (.bool false)], args := [d1, d2, d3] }
  | _ => none }
def FnExactPutWindowWrongFalsely : Prop := fnExactPutWindowRow.holds Try.pinned (OpenSpec.ofChange fnExactPutWindowWrong)

/-- 'laws.FnExactValidDesk': WHATEVER THE INPUT: true; the input reads as it did. -/
def fnExactValidDeskSpec : ChangeSpec := { name := "fnExactValidDesk", fn := fun _ => fun
  | [d] => { results := [.lit (.bool true)], args := [d] }
  | _ => none }
def fnExactValidDeskRow : OpenClaim := { program := "ytkmmedhgpmeniaa", sum := "271870fde6a90ef2f17462961a55ae71da7df7e3827fb5ae3f89fc3fbc9b923d", func := "loop.example/g01347/laws.FnExactValidDesk", spec := "fnExactValidDesk", unfollowed := true, recurses := true, apart := false }
def FnExactValidDeskSaid : Prop := fnExactValidDeskRow.holds Try.pinned (OpenSpec.ofChange fnExactValidDeskSpec)

/-- ITS FALSE NEIGHBOUR: 'it returns false'. Refute it at one input. -/
def fnExactValidDeskWrong : ChangeSpec := { name := "fnExactValidDesk", fn := fun _ => fun
  | [d] => { results := [.lit (.bool false)], args := [d] }
  | _ => none }
def FnExactValidDeskWrongFalsely : Prop := fnExactValidDeskRow.holds Try.pinned (OpenSpec.ofChange fnExactValidDeskWrong)

/-- 'laws.FnExactNearPairs': WHATEVER THE INPUT: true; the input reads as it did. -/
def fnExactNearPairsSpec : ChangeSpec := { name := "fnExactNearPairs", fn := fun _ => fun
  | [d1, d2] => { results := [.lit (.bool true)], args := [d1, d2] }
  | _ => none }
def fnExactNearPairsRow : OpenClaim := { program := "ytkmmedhgpmeniaa", sum := "271870fde6a90ef2f17462961a55ae71da7df7e3827fb5ae3f89fc3fbc9b923d", func := "loop.example/g01347/laws.FnExactNearPairs", spec := "fnExactNearPairs", inPlace := ["math.sqrt"], unfollowed := true, recurses := true, apart := false }
def FnExactNearPairsSaid : Prop := fnExactNearPairsRow.holds Try.pinned (OpenSpec.ofChange fnExactNearPairsSpec)

/-- ITS FALSE NEIGHBOUR: 'it returns false'. Refute it at one input. -/
def fnExactNearPairsWrong : ChangeSpec := { name := "fnExactNearPairs", fn := fun _ => fun
  | [d1, d2] => { results := [.lit (.bool false)], args := [d1, d2] }
  | _ => none }
def FnExactNearPairsWrongFalsely : Prop := fnExactNearPairsRow.holds Try.pinned (OpenSpec.ofChange fnExactNearPairsWrong)

/-- 'laws.FnExactOftenInWindow': WHATEVER THE INPUT: true; the input reads as it did. -/
def fnExactOftenInWindowSpec : ChangeSpec := { name := "fnExactOftenInWindow", fn := fun _ => fun
  | [d1, d2] => { results := [.lit (.bool true)], args := [d1, d2] }
  | _ => none }
def fnExactOftenInWindowRow : OpenClaim := { program := "ytkmmedhgpmeniaa", sum := "271870fde6a90ef2f17462961a55ae71da7df7e3827fb5ae3f89fc3fbc9b923d", func := "loop.example/g01347/laws.FnExactOftenInWindow", spec := "fnExactOftenInWindow", unfollowed := true, recurses := true, apart := false }
def FnExactOftenInWindowSaid : Prop := fnExactOftenInWindowRow.holds Try.pinned (OpenSpec.ofChange fnExactOftenInWindowSpec)

/-- ITS FALSE NEIGHBOUR: 'it returns false'. Refute it at one input. -/
def fnExactOftenInWindowWrong : ChangeSpec := { name := "fnExactOftenInWindow", fn := fun _ => fun
  | [d1, d2] => { results := [.lit (.bool false)], args := [d1, d2] }
  | _ => none }
def FnExactOftenInWindowWrongFalsely : Prop := fnExactOftenInWindowRow.holds Try.pinned (OpenSpec.ofChange fnExactOftenInWindowWrong)

/- THE SECOND FORM. 'bulk': how many values and letters a reading holds, each counted each time it is reached (what is shared counts as often as it is met; a slice's spare places count too). A statement '..UptoSaid' is the law's where the arguments, and the package variables that the reading takes, are together of bulk at most 1048576: NARROWER than '..Said'. Prove '..Said' where nothing that the law and all that it calls make is longer than what came in: it says more and counts as full. Else prove '..UptoSaid'. A law counts once. -/
mutual
def uptoBulk {H : Type} : DataW H → Nat
  | .lit (.string bytes) => bytes.length + 1
  | .lit _ => 1
  | .nil => 1
  | .ptr d => uptoBulk d + 1
  | .slice elems spare => uptoBulkAll elems + uptoBulkAll spare + 1
  | .agg parts => uptoBulkAll parts + 1
  | .iface _ d => uptoBulk d + 1
  | .map entries => uptoBulkEntries entries + 1
  | .held _ => 1
def uptoBulkAll {H : Type} : List (DataW H) → Nat
  | [] => 0
  | d :: r => uptoBulk d + uptoBulkAll r
def uptoBulkEntries {H : Type} : List (Lit × DataW H) → Nat
  | [] => 0
  | x :: r => uptoBulkEntry x + uptoBulkEntries r
def uptoBulkEntry {H : Type} : Lit × DataW H → Nat
  | (.string bytes, d) => bytes.length + uptoBulk d + 1
  | (_, d) => uptoBulk d + 1
 end
def uptoSmall : (H : Type) → List (DataW H) → Bool := fun _ ds => decide (uptoBulkAll ds ≤ 1048576)
def OpenSpec.upto (s : _root_.Go.ChangeSpec) : _root_.Go.OpenSpec := { _root_.Go.OpenSpec.ofChange s with cond := some uptoSmall }

/-- 'laws.FnExactPlaneBits', WHERE WHAT IT READS IS OF BULK AT MOST 1048576: true; the input reads as it did. -/
def fnExactPlaneBitsUptoRow : OpenClaim := { program := "ytkmmedhgpmeniaa", sum := "271870fde6a90ef2f17462961a55ae71da7df7e3827fb5ae3f89fc3fbc9b923d", func := "loop.example/g01347/laws.FnExactPlaneBits", spec := "fnExactPlaneBits", unfollowed := true, recurses := true, apart := false, narrowed := true }
def FnExactPlaneBitsUptoSaid : Prop := fnExactPlaneBitsUptoRow.holds Try.pinned (OpenSpec.upto fnExactPlaneBitsSpec)

/-- 'laws.FnExactNewDesk', WHERE WHAT IT READS IS OF BULK AT MOST 1048576: true; the input reads as it did. -/
def fnExactNewDeskUptoRow : OpenClaim := { program := "ytkmmedhgpmeniaa", sum := "271870fde6a90ef2f17462961a55ae71da7df7e3827fb5ae3f89fc3fbc9b923d", func := "loop.example/g01347/laws.FnExactNewDesk", spec := "fnExactNewDesk", unfollowed := true, recurses := true, apart := false, narrowed := true }
def FnExactNewDeskUptoSaid : Prop := fnExactNewDeskUptoRow.holds Try.pinned (OpenSpec.upto fnExactNewDeskSpec)

/-- 'laws.FnExactMiddleOfWindow', WHERE WHAT IT READS IS OF BULK AT MOST 1048576: true; the input reads as it did. -/
def fnExactMiddleOfWindowUptoRow : OpenClaim := { program := "ytkmmedhgpmeniaa", sum := "271870fde6a90ef2f17462961a55ae71da7df7e3827fb5ae3f89fc3fbc9b923d", func := "loop.example/g01347/laws.FnExactMiddleOfWindow", spec := "fnExactMiddleOfWindow", unfollowed := true, recurses := true, apart := false, narrowed := true }
def FnExactMiddleOfWindowUptoSaid : Prop := fnExactMiddleOfWindowUptoRow.holds Try.pinned (OpenSpec.upto fnExactMiddleOfWindowSpec)

/-- 'laws.FnExactShrinkVector', WHERE WHAT IT READS IS OF BULK AT MOST 1048576: true; the input reads as it did. -/
def fnExactShrinkVectorUptoRow : OpenClaim := { program := "ytkmmedhgpmeniaa", sum := "271870fde6a90ef2f17462961a55ae71da7df7e3827fb5ae3f89fc3fbc9b923d", func := "loop.example/g01347/laws.FnExactShrinkVector", spec := "fnExactShrinkVector", inPlace := ["math.sqrt"], unfollowed := true, recurses := true, apart := false, narrowed := true }
def FnExactShrinkVectorUptoSaid : Prop := fnExactShrinkVectorUptoRow.holds Try.pinned (OpenSpec.upto fnExactShrinkVectorSpec)

/-- 'laws.FnExactPutWindow', WHERE WHAT IT READS IS OF BULK AT MOST 1048576: true; the input reads as it did. -/
def fnExactPutWindowUptoRow : OpenClaim := { program := "ytkmmedhgpmeniaa", sum := "271870fde6a90ef2f17462961a55ae71da7df7e3827fb5ae3f89fc3fbc9b923d", func := "loop.example/g01347/laws.FnExactPutWindow", spec := "fnExactPutWindow", unfollowed := true, recurses := true, apart := false, narrowed := true }
def FnExactPutWindowUptoSaid : Prop := fnExactPutWindowUptoRow.holds Try.pinned (OpenSpec.upto fnExactPutWindowSpec)

/-- 'laws.FnExactValidDesk', WHERE WHAT IT READS IS OF BULK AT MOST 1048576: true; the input reads as it did. -/
def fnExactValidDeskUptoRow : OpenClaim := { program := "ytkmmedhgpmeniaa", sum := "271870fde6a90ef2f17462961a55ae71da7df7e3827fb5ae3f89fc3fbc9b923d", func := "loop.example/g01347/laws.FnExactValidDesk", spec := "fnExactValidDesk", unfollowed := true, recurses := true, apart := false, narrowed := true }
def FnExactValidDeskUptoSaid : Prop := fnExactValidDeskUptoRow.holds Try.pinned (OpenSpec.upto fnExactValidDeskSpec)

/-- 'laws.FnExactNearPairs', WHERE WHAT IT READS IS OF BULK AT MOST 1048576: true; the input reads as it did. -/
def fnExactNearPairsUptoRow : OpenClaim := { program := "ytkmmedhgpmeniaa", sum := "271870fde6a90ef2f17462961a55ae71da7df7e3827fb5ae3f89fc3fbc9b923d", func := "loop.example/g01347/laws.FnExactNearPairs", spec := "fnExactNearPairs", inPlace := ["math.sqrt"], unfollowed := true, recurses := true, apart := false, narrowed := true }
def FnExactNearPairsUptoSaid : Prop := fnExactNearPairsUptoRow.holds Try.pinned (OpenSpec.upto fnExactNearPairsSpec)

/-- 'laws.FnExactOftenInWindow', WHERE WHAT IT READS IS OF BULK AT MOST 1048576: true; the input reads as it did. -/
def fnExactOftenInWindowUptoRow : OpenClaim := { program := "ytkmmedhgpmeniaa", sum := "271870fde6a90ef2f17462961a55ae71da7df7e3827fb5ae3f89fc3fbc9b923d", func := "loop.example/g01347/laws.FnExactOftenInWindow", spec := "fnExactOftenInWindow", unfollowed := true, recurses := true, apart := false, narrowed := true }
def FnExactOftenInWindowUptoSaid : Prop := fnExactOftenInWindowUptoRow.holds Try.pinned (OpenSpec.upto fnExactOftenInWindowSpec)

end Rows
end Go.Proofs.Ytkmmedhgpmeniaa
