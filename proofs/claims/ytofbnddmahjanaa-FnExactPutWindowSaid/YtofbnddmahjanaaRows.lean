/-
  No cell of these rows narrows 'for every input' (looked for: loops, veiled, ifaces, maps, wideKeys, modest, calm, conditions, laid).
  DERIVED. THE GIVEN ROWS OF THIS SEAT. 8 by the template 'for every input the law returns true; each argument reads behind the call as it read before'; 0 by the template 'total and deterministic' (their statements: YtofbnddmahjanaaTotals.lean).
  GIVEN WITH THE SEED: the statements are not yours to turn. If you find one false, say at which input.
  Laid BY PROGRAM, IN A SANDBOX (cutbox-rows.mjs): the forced cells as the released guide's own fill.sh prints them over the translation 1f67468dbf2cb193… (all of the seat's roots in one cut). By AI agents, Wed Nov 11 2026. No macro, syntax, notation, axiom, sorry.
-/
import Derived.Test.YtofbnddmahjanaaChecked
import GoSem.Claim
import GoSem.ClaimJoined
import GoSem.ClaimMapViews
import Derived.JoinedTies
import Derived.KernelRfl
namespace Go.Proofs.Ytofbnddmahjanaa
/- THE CELL 'sum', in the pinned program and in every row, IS THE sha256 OF THE DUMP (.gsa) THAT YtofbnddmahjanaaProg.lean LOADS. Nothing in Lean hashes anything: it is a label: what it is worth is what the hold of that sum in a sandbox is worth. -/
noncomputable def Try.pinned : Pinned := { name := "ytofbnddmahjanaa", sum := "1f67468dbf2cb19390115ad9bfb70f9168299d4c90c60132d749d67d8e82b311", checked := Try.checked }
namespace Rows
def none {H : Type} : Left H := { results := [], args := [] }

/-- 'laws.FnExactJoinDecays': WHATEVER THE INPUT: true; the input reads as it did. -/
def fnExactJoinDecaysSpec : ChangeSpec := { name := "fnExactJoinDecays", fn := fun _ => fun
  | [d1, d2] => { results := [.lit (.bool true)], args := [d1, d2] }
  | _ => none }
def fnExactJoinDecaysRow : OpenClaim := { program := "ytofbnddmahjanaa", sum := "1f67468dbf2cb19390115ad9bfb70f9168299d4c90c60132d749d67d8e82b311", func := "loop.example/g01347/laws.FnExactJoinDecays", spec := "fnExactJoinDecays", inPlace := ["math.Float64frombits"], apart := false }
def FnExactJoinDecaysSaid : Prop := fnExactJoinDecaysRow.holds Try.pinned (OpenSpec.ofChange fnExactJoinDecaysSpec)

/-- ITS FALSE NEIGHBOUR: 'it returns false'. Refute it at one input. -/
def fnExactJoinDecaysWrong : ChangeSpec := { name := "fnExactJoinDecays", fn := fun _ => fun
  | [d1, d2] => { results := [.lit (.bool false)], args := [d1, d2] }
  | _ => none }
def FnExactJoinDecaysWrongFalsely : Prop := fnExactJoinDecaysRow.holds Try.pinned (OpenSpec.ofChange fnExactJoinDecaysWrong)

/-- 'laws.FnExactBandPairs': WHATEVER THE INPUT: true; the input reads as it did. -/
def fnExactBandPairsSpec : ChangeSpec := { name := "fnExactBandPairs", fn := fun _ => fun
  | [d1, d2] => { results := [.lit (.bool true)], args := [d1, d2] }
  | _ => none }
def fnExactBandPairsRow : OpenClaim := { program := "ytofbnddmahjanaa", sum := "1f67468dbf2cb19390115ad9bfb70f9168299d4c90c60132d749d67d8e82b311", func := "loop.example/g01347/laws.FnExactBandPairs", spec := "fnExactBandPairs", unfollowed := true, recurses := true, apart := false }
def FnExactBandPairsSaid : Prop := fnExactBandPairsRow.holds Try.pinned (OpenSpec.ofChange fnExactBandPairsSpec)

/-- ITS FALSE NEIGHBOUR: 'it returns false'. Refute it at one input. -/
def fnExactBandPairsWrong : ChangeSpec := { name := "fnExactBandPairs", fn := fun _ => fun
  | [d1, d2] => { results := [.lit (.bool false)], args := [d1, d2] }
  | _ => none }
def FnExactBandPairsWrongFalsely : Prop := fnExactBandPairsRow.holds Try.pinned (OpenSpec.ofChange fnExactBandPairsWrong)

/-- 'laws.FnExactSameSaved': WHATEVER THE INPUT: true; the input reads as it did. -/
def fnExactSameSavedSpec : ChangeSpec := { name := "fnExactSameSaved", fn := fun _ => fun
  | [d1, d2] => { results := [.lit (.bool true)], args := [d1, d2] }
  | _ => none }
def fnExactSameSavedRow : OpenClaim := { program := "ytofbnddmahjanaa", sum := "1f67468dbf2cb19390115ad9bfb70f9168299d4c90c60132d749d67d8e82b311", func := "loop.example/g01347/laws.FnExactSameSaved", spec := "fnExactSameSaved", unfollowed := true, recurses := true, apart := false }
def FnExactSameSavedSaid : Prop := fnExactSameSavedRow.holds Try.pinned (OpenSpec.ofChange fnExactSameSavedSpec)

/-- ITS FALSE NEIGHBOUR: 'it returns false'. Refute it at one input. -/
def fnExactSameSavedWrong : ChangeSpec := { name := "fnExactSameSaved", fn := fun _ => fun
  | [d1, d2] => { results := [.lit (.bool false)], args := [d1, d2] }
  | _ => none }
def FnExactSameSavedWrongFalsely : Prop := fnExactSameSavedRow.holds Try.pinned (OpenSpec.ofChange fnExactSameSavedWrong)

/-- 'laws.FnExactNewDesk': WHATEVER THE INPUT: true; the input reads as it did. -/
def fnExactNewDeskSpec : ChangeSpec := { name := "fnExactNewDesk", fn := fun _ => fun
  | [] => { results := [.lit (.bool true)], args := [] }
  | _ => none }
def fnExactNewDeskRow : OpenClaim := { program := "ytofbnddmahjanaa", sum := "1f67468dbf2cb19390115ad9bfb70f9168299d4c90c60132d749d67d8e82b311", func := "loop.example/g01347/laws.FnExactNewDesk", spec := "fnExactNewDesk", unfollowed := true, recurses := true, apart := false }
def FnExactNewDeskSaid : Prop := fnExactNewDeskRow.holds Try.pinned (OpenSpec.ofChange fnExactNewDeskSpec)

/-- ITS FALSE NEIGHBOUR: 'it returns false'. Refute it at one input. -/
def fnExactNewDeskWrong : ChangeSpec := { name := "fnExactNewDesk", fn := fun _ => fun
  | [] => { results := [.lit (.bool false)], args := [] }
  | _ => none }
def FnExactNewDeskWrongFalsely : Prop := fnExactNewDeskRow.holds Try.pinned (OpenSpec.ofChange fnExactNewDeskWrong)

/-- 'laws.FnExactMiddleOfWindow': WHATEVER THE INPUT: true; the input reads as it did. -/
def fnExactMiddleOfWindowSpec : ChangeSpec := { name := "fnExactMiddleOfWindow", fn := fun _ => fun
  | [d1, d2] => { results := [.lit (.bool true)], args := [d1, d2] }
  | _ => none }
def fnExactMiddleOfWindowRow : OpenClaim := { program := "ytofbnddmahjanaa", sum := "1f67468dbf2cb19390115ad9bfb70f9168299d4c90c60132d749d67d8e82b311", func := "loop.example/g01347/laws.FnExactMiddleOfWindow", spec := "fnExactMiddleOfWindow", unfollowed := true, recurses := true, apart := false }
def FnExactMiddleOfWindowSaid : Prop := fnExactMiddleOfWindowRow.holds Try.pinned (OpenSpec.ofChange fnExactMiddleOfWindowSpec)

/-- ITS FALSE NEIGHBOUR: 'it returns false'. Refute it at one input. -/
def fnExactMiddleOfWindowWrong : ChangeSpec := { name := "fnExactMiddleOfWindow", fn := fun _ => fun
  | [d1, d2] => { results := [.lit (.bool false)], args := [d1, d2] }
  | _ => none }
def FnExactMiddleOfWindowWrongFalsely : Prop := fnExactMiddleOfWindowRow.holds Try.pinned (OpenSpec.ofChange fnExactMiddleOfWindowWrong)

/-- 'laws.FnExactPutWindow': WHATEVER THE INPUT: true; the input reads as it did. -/
def fnExactPutWindowSpec : ChangeSpec := { name := "fnExactPutWindow", fn := fun _ => fun
  | [d1, d2, d3] => { results := [.lit (.bool true)], args := [d1, d2, d3] }
  | _ => none }
def fnExactPutWindowRow : OpenClaim := { program := "ytofbnddmahjanaa", sum := "1f67468dbf2cb19390115ad9bfb70f9168299d4c90c60132d749d67d8e82b311", func := "loop.example/g01347/laws.FnExactPutWindow", spec := "fnExactPutWindow", unfollowed := true, recurses := true, apart := false }
def FnExactPutWindowSaid : Prop := fnExactPutWindowRow.holds Try.pinned (OpenSpec.ofChange fnExactPutWindowSpec)

/-- ITS FALSE NEIGHBOUR: 'it returns false'. Refute it at one input. -/
def fnExactPutWindowWrong : ChangeSpec := { name := "fnExactPutWindow", fn := fun _ => fun
  | [d1, d2, d3] => { results := [.lit (.bool false)], args := [d1, d2, d3] }
  | _ => none }
def FnExactPutWindowWrongFalsely : Prop := fnExactPutWindowRow.holds Try.pinned (OpenSpec.ofChange fnExactPutWindowWrong)

/-- 'laws.FnExactNearPairs': WHATEVER THE INPUT: true; the input reads as it did. -/
def fnExactNearPairsSpec : ChangeSpec := { name := "fnExactNearPairs", fn := fun _ => fun
  | [d1, d2] => { results := [.lit (.bool true)], args := [d1, d2] }
  | _ => none }
def fnExactNearPairsRow : OpenClaim := { program := "ytofbnddmahjanaa", sum := "1f67468dbf2cb19390115ad9bfb70f9168299d4c90c60132d749d67d8e82b311", func := "loop.example/g01347/laws.FnExactNearPairs", spec := "fnExactNearPairs", inPlace := ["math.sqrt"], unfollowed := true, recurses := true, apart := false }
def FnExactNearPairsSaid : Prop := fnExactNearPairsRow.holds Try.pinned (OpenSpec.ofChange fnExactNearPairsSpec)

/-- ITS FALSE NEIGHBOUR: 'it returns false'. Refute it at one input. -/
def fnExactNearPairsWrong : ChangeSpec := { name := "fnExactNearPairs", fn := fun _ => fun
  | [d1, d2] => { results := [.lit (.bool false)], args := [d1, d2] }
  | _ => none }
def FnExactNearPairsWrongFalsely : Prop := fnExactNearPairsRow.holds Try.pinned (OpenSpec.ofChange fnExactNearPairsWrong)

/-- 'laws.FnExactOftenInWindow': WHATEVER THE INPUT: true; the input reads as it did. -/
def fnExactOftenInWindowSpec : ChangeSpec := { name := "fnExactOftenInWindow", fn := fun _ => fun
  | [d1, d2] => { results := [.lit (.bool true)], args := [d1, d2] }
  | _ => none }
def fnExactOftenInWindowRow : OpenClaim := { program := "ytofbnddmahjanaa", sum := "1f67468dbf2cb19390115ad9bfb70f9168299d4c90c60132d749d67d8e82b311", func := "loop.example/g01347/laws.FnExactOftenInWindow", spec := "fnExactOftenInWindow", unfollowed := true, recurses := true, apart := false }
def FnExactOftenInWindowSaid : Prop := fnExactOftenInWindowRow.holds Try.pinned (OpenSpec.ofChange fnExactOftenInWindowSpec)

/-- ITS FALSE NEIGHBOUR: 'it returns false'. Refute it at one input. -/
def fnExactOftenInWindowWrong : ChangeSpec := { name := "fnExactOftenInWindow", fn := fun _ => fun
  | [d1, d2] => { results := [.lit (.bool false)], args := [d1, d2] }
  | _ => none }
def FnExactOftenInWindowWrongFalsely : Prop := fnExactOftenInWindowRow.holds Try.pinned (OpenSpec.ofChange fnExactOftenInWindowWrong)

/- THE SECOND FORM. 'bulk': how many values and letters a reading holds, each counted each time it is reached (what is shared counts as often as it is met; a slice's spare places count too). A statement '..UptoSaid' is the law's where the arguments, and the package variables that the reading takes, are together of bulk at most 1048576: NARROWER than '..Said'. Prove '..Said' where nothing that the law and all that it calls make is longer than what came in: it says more and counts as full. Else prove '..UptoSaid'. A law counts once. -/
mutual
def uptoBulk {H : Type} : DataW H → Nat
  | .lit (.string bytes) => bytes.length + 1
  | .lit _ => 1
  | .nil => 1
  | .ptr d => uptoBulk d + 1
  | .slice elems spare => uptoBulkAll elems + uptoBulkAll spare + 1
  | .agg parts => uptoBulkAll parts + 1
  | .iface _ d => uptoBulk d + 1
  | .map entries => uptoBulkEntries entries + 1
  | .held _ => 1
def uptoBulkAll {H : Type} : List (DataW H) → Nat
  | [] => 0
  | d :: r => uptoBulk d + uptoBulkAll r
def uptoBulkEntries {H : Type} : List (Lit × DataW H) → Nat
  | [] => 0
  | x :: r => uptoBulkEntry x + uptoBulkEntries r
def uptoBulkEntry {H : Type} : Lit × DataW H → Nat
  | (.string bytes, d) => bytes.length + uptoBulk d + 1
  | (_, d) => uptoBulk d + 1
 end
def uptoSmall : (H : Type) → List (DataW H) → Bool := fun _ ds => decide (uptoBulkAll ds ≤ 1048576)
def OpenSpec.upto (s : _root_.Go.ChangeSpec) : _root_.Go.OpenSpec := { _root_.Go.OpenSpec.ofChange s with cond := some uptoSmall }

/-- 'laws.FnExactJoinDecays', WHERE WHAT IT READS IS OF BULK AT MOST 1048576: true; the input reads as it did. -/
def fnExactJoinDecaysUptoRow : OpenClaim := { program := "ytofbnddmahjanaa", sum := "1f67468dbf2cb19390115ad9bfb70f9168299d4c90c60132d749d67d8e82b311", func := "loop.example/g01347/laws.FnExactJoinDecays", spec := "fnExactJoinDecays", inPlace := ["math.Float64frombits"], apart := false, narrowed := true }
def FnExactJoinDecaysUptoSaid : Prop := fnExactJoinDecaysUptoRow.holds Try.pinned (OpenSpec.upto fnExactJoinDecaysSpec)

/-- 'laws.FnExactBandPairs', WHERE WHAT IT READS IS OF BULK AT MOST 1048576: true; the input reads as it did. -/
def fnExactBandPairsUptoRow : OpenClaim := { program := "ytofbnddmahjanaa", sum := "1f67468dbf2cb19390115ad9bfb70f9168299d4c90c60132d749d67d8e82b311", func := "loop.example/g01347/laws.FnExactBandPairs", spec := "fnExactBandPairs", unfollowed := true, recurses := true, apart := false, narrowed := true }
def FnExactBandPairsUptoSaid : Prop := fnExactBandPairsUptoRow.holds Try.pinned (OpenSpec.upto fnExactBandPairsSpec)

/-- 'laws.FnExactSameSaved', WHERE WHAT IT READS IS OF BULK AT MOST 1048576: true; the input reads as it did. -/
def fnExactSameSavedUptoRow : OpenClaim := { program := "ytofbnddmahjanaa", sum := "1f67468dbf2cb19390115ad9bfb70f9168299d4c90c60132d749d67d8e82b311", func := "loop.example/g01347/laws.FnExactSameSaved", spec := "fnExactSameSaved", unfollowed := true, recurses := true, apart := false, narrowed := true }
def FnExactSameSavedUptoSaid : Prop := fnExactSameSavedUptoRow.holds Try.pinned (OpenSpec.upto fnExactSameSavedSpec)

/-- 'laws.FnExactNewDesk', WHERE WHAT IT READS IS OF BULK AT MOST 1048576: true; the input reads as it did. -/
def fnExactNewDeskUptoRow : OpenClaim := { program := "ytofbnddmahjanaa", sum := "1f67468dbf2cb19390115ad9bfb70f9168299d4c90c60132d749d67d8e82b311", func := "loop.example/g01347/laws.FnExactNewDesk", spec := "fnExactNewDesk", unfollowed := true, recurses := true, apart := false, narrowed := true }
def FnExactNewDeskUptoSaid : Prop := fnExactNewDeskUptoRow.holds Try.pinned (OpenSpec.upto fnExactNewDeskSpec)

/-- 'laws.FnExactMiddleOfWindow', WHERE WHAT IT READS IS OF BULK AT MOST 1048576: true; the input reads as it did. -/
def fnExactMiddleOfWindowUptoRow : OpenClaim := { program := "ytofbnddmahjanaa", sum := "1f67468dbf2cb19390115ad9bfb70f9168299d4c90c60132d749d67d8e82b311", func := "loop.example/g01347/laws.FnExactMiddleOfWindow", spec := "fnExactMiddleOfWindow", unfollowed := true, recurses := true, apart := false, narrowed := true }
def FnExactMiddleOfWindowUptoSaid : Prop := fnExactMiddleOfWindowUptoRow.holds Try.pinned (OpenSpec.upto fnExactMiddleOfWindowSpec)

/-- 'laws.FnExactPutWindow', WHERE WHAT IT READS IS OF BULK AT MOST 1048576: true; the input reads as it did. -/
def fnExactPutWindowUptoRow : OpenClaim := { program := "ytofbnddmahjanaa", sum := "1f67468dbf2cb19390115ad9bfb70f9168299d4c90c60132d749d67d8e82b311", func := "loop.example/g01347/laws.FnExactPutWindow", spec := "fnExactPutWindow", unfollowed := true, recurses := true, apart := false, narrowed := true }
def FnExactPutWindowUptoSaid : Prop := fnExactPutWindowUptoRow.holds Try.pinned (OpenSpec.upto fnExactPutWindowSpec)

/-- 'laws.FnExactNearPairs', WHERE WHAT IT READS IS OF BULK AT MOST 1048576: true; the input reads as it did. -/
def fnExactNearPairsUptoRow : OpenClaim := { program := "ytofbnddmahjanaa", sum := "1f67468dbf2cb19390115ad9bfb70f9168299d4c90c60132d749d67d8e82b311", func := "loop.example/g01347/laws.FnExactNearPairs", spec := "fnExactNearPairs", inPlace := ["math.sqrt"], unfollowed := true, recurses := true, apart := false, narrowed := true }
def FnExactNearPairsUptoSaid : Prop := fnExactNearPairsUptoRow.holds Try.pinned (OpenSpec.upto fnExactNearPairsSpec)

/-- 'laws.FnExactOftenInWindow', WHERE WHAT IT READS IS OF BULK AT MOST 1048576: true; the input reads as it did. -/
def fnExactOftenInWindowUptoRow : OpenClaim := { program := "ytofbnddmahjanaa", sum := "1f67468dbf2cb19390115ad9bfb70f9168299d4c90c60132d749d67d8e82b311", func := "loop.example/g01347/laws.FnExactOftenInWindow", spec := "fnExactOftenInWindow", unfollowed := true, recurses := true, apart := false, narrowed := true }
def FnExactOftenInWindowUptoSaid : Prop := fnExactOftenInWindowUptoRow.holds Try.pinned (OpenSpec.upto fnExactOftenInWindowSpec)

end Rows
end Go.Proofs.Ytofbnddmahjanaa
