/-
  No cell of these rows narrows 'for every input' (looked for: loops, veiled, ifaces, maps, wideKeys, modest, calm, conditions, laid).
  DERIVED. THE GIVEN ROWS OF THIS SEAT. 12 by the template 'for every input the law returns true; each argument reads behind the call as it read before'; 0 by the template 'total and deterministic' (their statements: YtbgchlllblkhiaaTotals.lean).
  GIVEN WITH THE SEED: the statements are not yours to turn. If you find one false, say at which input.
  Laid BY PROGRAM, IN A SANDBOX (cutbox-rows.mjs): the forced cells as the released guide's own fill.sh prints them over the translation 33900130cc189984… (all of the seat's roots in one cut). By AI agents, Wed Nov 11 2026. No macro, syntax, notation, axiom, sorry.
-/
import Derived.Test.YtbgchlllblkhiaaChecked
import GoSem.Claim
import GoSem.ClaimJoined
import GoSem.ClaimMapViews
import Derived.JoinedTies
import Derived.KernelRfl
namespace Go.Proofs.Ytbgchlllblkhiaa
/- THE CELL 'sum', in the pinned program and in every row, IS THE sha256 OF THE DUMP (.gsa) THAT YtbgchlllblkhiaaProg.lean LOADS. Nothing in Lean hashes anything: it is a label: what it is worth is what the hold of that sum in a sandbox is worth. -/
noncomputable def Try.pinned : Pinned := { name := "ytbgchlllblkhiaa", sum := "33900130cc189984a580d4b7e0c6ac30d67ad57fccbff7cc822d4c993539f2e7", checked := Try.checked }
namespace Rows
def none {H : Type} : Left H := { results := [], args := [] }

/-- 'laws.FnExactDotOf': WHATEVER THE INPUT: true; the input reads as it did. -/
def fnExactDotOfSpec : ChangeSpec := { name := "fnExactDotOf", fn := fun _ => fun
  | [d1, d2] => { results := [.lit (.bool true)], args := [d1, d2] }
  | _ => none }
def fnExactDotOfRow : OpenClaim := { program := "ytbgchlllblkhiaa", sum := "33900130cc189984a580d4b7e0c6ac30d67ad57fccbff7cc822d4c993539f2e7", func := "loop.example/g01347/laws.FnExactDotOf", spec := "fnExactDotOf", unfollowed := true, recurses := true, apart := false }
def FnExactDotOfSaid : Prop := fnExactDotOfRow.holds Try.pinned (OpenSpec.ofChange fnExactDotOfSpec)

/-- ITS FALSE NEIGHBOUR: 'it returns false'. Refute it at one input. -/
def fnExactDotOfWrong : ChangeSpec := { name := "fnExactDotOf", fn := fun _ => fun
  | [d1, d2] => { results := [.lit (.bool false)], args := [d1, d2] }
  | _ => none }
def FnExactDotOfWrongFalsely : Prop := fnExactDotOfRow.holds Try.pinned (OpenSpec.ofChange fnExactDotOfWrong)

/-- 'laws.FnExactForestOf': WHATEVER THE INPUT: true; the input reads as it did. -/
def fnExactForestOfSpec : ChangeSpec := { name := "fnExactForestOf", fn := fun _ => fun
  | [d1, d2] => { results := [.lit (.bool true)], args := [d1, d2] }
  | _ => none }
def fnExactForestOfRow : OpenClaim := { program := "ytbgchlllblkhiaa", sum := "33900130cc189984a580d4b7e0c6ac30d67ad57fccbff7cc822d4c993539f2e7", func := "loop.example/g01347/laws.FnExactForestOf", spec := "fnExactForestOf", unfollowed := true, recurses := true, apart := false }
def FnExactForestOfSaid : Prop := fnExactForestOfRow.holds Try.pinned (OpenSpec.ofChange fnExactForestOfSpec)

/-- ITS FALSE NEIGHBOUR: 'it returns false'. Refute it at one input. -/
def fnExactForestOfWrong : ChangeSpec := { name := "fnExactForestOf", fn := fun _ => fun
  | [d1, d2] => { results := [.lit (.bool false)], args := [d1, d2] }
  | _ => none }
def FnExactForestOfWrongFalsely : Prop := fnExactForestOfRow.holds Try.pinned (OpenSpec.ofChange fnExactForestOfWrong)

/-- 'laws.FnExactSignRow': WHATEVER THE INPUT: true; the input reads as it did. -/
def fnExactSignRowSpec : ChangeSpec := { name := "fnExactSignRow", fn := fun _ => fun
  | [d1, d2] => { results := [.lit (.bool true)], args := [d1, d2] }
  | _ => none }
def fnExactSignRowRow : OpenClaim := { program := "ytbgchlllblkhiaa", sum := "33900130cc189984a580d4b7e0c6ac30d67ad57fccbff7cc822d4c993539f2e7", func := "loop.example/g01347/laws.FnExactSignRow", spec := "fnExactSignRow", unfollowed := true, recurses := true, apart := false }
def FnExactSignRowSaid : Prop := fnExactSignRowRow.holds Try.pinned (OpenSpec.ofChange fnExactSignRowSpec)

/-- ITS FALSE NEIGHBOUR: 'it returns false'. Refute it at one input. -/
def fnExactSignRowWrong : ChangeSpec := { name := "fnExactSignRow", fn := fun _ => fun
  | [d1, d2] => { results := [.lit (.bool false)], args := [d1, d2] }
  | _ => none }
def FnExactSignRowWrongFalsely : Prop := fnExactSignRowRow.holds Try.pinned (OpenSpec.ofChange fnExactSignRowWrong)

/-- 'laws.FnExactJoinDecays': WHATEVER THE INPUT: true; the input reads as it did. -/
def fnExactJoinDecaysSpec : ChangeSpec := { name := "fnExactJoinDecays", fn := fun _ => fun
  | [d1, d2] => { results := [.lit (.bool true)], args := [d1, d2] }
  | _ => none }
def fnExactJoinDecaysRow : OpenClaim := { program := "ytbgchlllblkhiaa", sum := "33900130cc189984a580d4b7e0c6ac30d67ad57fccbff7cc822d4c993539f2e7", func := "loop.example/g01347/laws.FnExactJoinDecays", spec := "fnExactJoinDecays", inPlace := ["math.Float64frombits"], apart := false }
def FnExactJoinDecaysSaid : Prop := fnExactJoinDecaysRow.holds Try.pinned (OpenSpec.ofChange fnExactJoinDecaysSpec)

/-- ITS FALSE NEIGHBOUR: 'it returns false'. Refute it at one input. -/
def fnExactJoinDecaysWrong : ChangeSpec := { name := "fnExactJoinDecays", fn := fun _ => fun
  | [d1, d2] => { results := [.lit (.bool false)], args := [d1, d2] }
  | _ => none }
def FnExactJoinDecaysWrongFalsely : Prop := fnExactJoinDecaysRow.holds Try.pinned (OpenSpec.ofChange fnExactJoinDecaysWrong)

/-- 'laws.FnExactNormOf': WHATEVER THE INPUT: true; the input reads as it did. -/
def fnExactNormOfSpec : ChangeSpec := { name := "fnExactNormOf", fn := fun _ => fun
  | [d] => { results := [.lit (.bool true)], args := [d] }
  | _ => none }
def fnExactNormOfRow : OpenClaim := { program := "ytbgchlllblkhiaa", sum := "33900130cc189984a580d4b7e0c6ac30d67ad57fccbff7cc822d4c993539f2e7", func := "loop.example/g01347/laws.FnExactNormOf", spec := "fnExactNormOf", inPlace := ["math.sqrt"], unfollowed := true, recurses := true, apart := false }
def FnExactNormOfSaid : Prop := fnExactNormOfRow.holds Try.pinned (OpenSpec.ofChange fnExactNormOfSpec)

/-- ITS FALSE NEIGHBOUR: 'it returns false'. Refute it at one input. -/
def fnExactNormOfWrong : ChangeSpec := { name := "fnExactNormOf", fn := fun _ => fun
  | [d] => { results := [.lit (.bool false)], args := [d] }
  | _ => none }
def FnExactNormOfWrongFalsely : Prop := fnExactNormOfRow.holds Try.pinned (OpenSpec.ofChange fnExactNormOfWrong)

/-- 'laws.FnExactBandPairs': WHATEVER THE INPUT: true; the input reads as it did. -/
def fnExactBandPairsSpec : ChangeSpec := { name := "fnExactBandPairs", fn := fun _ => fun
  | [d1, d2] => { results := [.lit (.bool true)], args := [d1, d2] }
  | _ => none }
def fnExactBandPairsRow : OpenClaim := { program := "ytbgchlllblkhiaa", sum := "33900130cc189984a580d4b7e0c6ac30d67ad57fccbff7cc822d4c993539f2e7", func := "loop.example/g01347/laws.FnExactBandPairs", spec := "fnExactBandPairs", unfollowed := true, recurses := true, apart := false }
def FnExactBandPairsSaid : Prop := fnExactBandPairsRow.holds Try.pinned (OpenSpec.ofChange fnExactBandPairsSpec)

/-- ITS FALSE NEIGHBOUR: 'it returns false'. Refute it at one input. -/
def fnExactBandPairsWrong : ChangeSpec := { name := "fnExactBandPairs", fn := fun _ => fun
  | [d1, d2] => { results := [.lit (.bool false)], args := [d1, d2] }
  | _ => none }
def FnExactBandPairsWrongFalsely : Prop := fnExactBandPairsRow.holds Try.pinned (OpenSpec.ofChange fnExactBandPairsWrong)

/-- 'laws.FnExactEdgeSketch': WHATEVER THE INPUT: true; the input reads as it did. -/
def fnExactEdgeSketchSpec : ChangeSpec := { name := "fnExactEdgeSketch", fn := fun _ => fun
  | [d1, d2, d3, d4] => { results := [.lit (.bool true)], args := [d1, d2, d3, d4] }
  | _ => none }
def fnExactEdgeSketchRow : OpenClaim := { program := "ytbgchlllblkhiaa", sum := "33900130cc189984a580d4b7e0c6ac30d67ad57fccbff7cc822d4c993539f2e7", func := "loop.example/g01347/laws.FnExactEdgeSketch", spec := "fnExactEdgeSketch", unfollowed := true, recurses := true, apart := false }
def FnExactEdgeSketchSaid : Prop := fnExactEdgeSketchRow.holds Try.pinned (OpenSpec.ofChange fnExactEdgeSketchSpec)

/-- ITS FALSE NEIGHBOUR: 'it returns false'. Refute it at one input. -/
def fnExactEdgeSketchWrong : ChangeSpec := { name := "fnExactEdgeSketch", fn := fun _ => fun
  | [d1, d2, d3, d4] => { results := [.lit (.bool false)], args := [d1, d2, d3, d4] }
  | _ => none }
def FnExactEdgeSketchWrongFalsely : Prop := fnExactEdgeSketchRow.holds Try.pinned (OpenSpec.ofChange fnExactEdgeSketchWrong)

/-- 'laws.FnExactSignSketch': WHATEVER THE INPUT: true; the input reads as it did. -/
def fnExactSignSketchSpec : ChangeSpec := { name := "fnExactSignSketch", fn := fun _ => fun
  | [d1, d2] => { results := [.lit (.bool true)], args := [d1, d2] }
  | _ => none }
def fnExactSignSketchRow : OpenClaim := { program := "ytbgchlllblkhiaa", sum := "33900130cc189984a580d4b7e0c6ac30d67ad57fccbff7cc822d4c993539f2e7", func := "loop.example/g01347/laws.FnExactSignSketch", spec := "fnExactSignSketch", unfollowed := true, recurses := true, apart := false }
def FnExactSignSketchSaid : Prop := fnExactSignSketchRow.holds Try.pinned (OpenSpec.ofChange fnExactSignSketchSpec)

/-- ITS FALSE NEIGHBOUR: 'it returns false'. Refute it at one input. -/
def fnExactSignSketchWrong : ChangeSpec := { name := "fnExactSignSketch", fn := fun _ => fun
  | [d1, d2] => { results := [.lit (.bool false)], args := [d1, d2] }
  | _ => none }
def FnExactSignSketchWrongFalsely : Prop := fnExactSignSketchRow.holds Try.pinned (OpenSpec.ofChange fnExactSignSketchWrong)

/-- 'laws.FnExactCountWindow': WHATEVER THE INPUT: true; the input reads as it did. -/
def fnExactCountWindowSpec : ChangeSpec := { name := "fnExactCountWindow", fn := fun _ => fun
  | [d1, d2] => { results := [.lit (.bool true)], args := [d1, d2] }
  | _ => none }
def fnExactCountWindowRow : OpenClaim := { program := "ytbgchlllblkhiaa", sum := "33900130cc189984a580d4b7e0c6ac30d67ad57fccbff7cc822d4c993539f2e7", func := "loop.example/g01347/laws.FnExactCountWindow", spec := "fnExactCountWindow", unfollowed := true, recurses := true, apart := false }
def FnExactCountWindowSaid : Prop := fnExactCountWindowRow.holds Try.pinned (OpenSpec.ofChange fnExactCountWindowSpec)

/-- ITS FALSE NEIGHBOUR: 'it returns false'. Refute it at one input. -/
def fnExactCountWindowWrong : ChangeSpec := { name := "fnExactCountWindow", fn := fun _ => fun
  | [d1, d2] => { results := [.lit (.bool false)], args := [d1, d2] }
  | _ => none }
def FnExactCountWindowWrongFalsely : Prop := fnExactCountWindowRow.holds Try.pinned (OpenSpec.ofChange fnExactCountWindowWrong)

/-- 'laws.FnExactBoundsOfWindow': WHATEVER THE INPUT: true; the input reads as it did. -/
def fnExactBoundsOfWindowSpec : ChangeSpec := { name := "fnExactBoundsOfWindow", fn := fun _ => fun
  | [d1, d2] => { results := [.lit (.bool true)], args := [d1, d2] }
  | _ => none }
def fnExactBoundsOfWindowRow : OpenClaim := { program := "ytbgchlllblkhiaa", sum := "33900130cc189984a580d4b7e0c6ac30d67ad57fccbff7cc822d4c993539f2e7", func := "loop.example/g01347/laws.FnExactBoundsOfWindow", spec := "fnExactBoundsOfWindow", unfollowed := true, recurses := true, apart := false }
def FnExactBoundsOfWindowSaid : Prop := fnExactBoundsOfWindowRow.holds Try.pinned (OpenSpec.ofChange fnExactBoundsOfWindowSpec)

/-- ITS FALSE NEIGHBOUR: 'it returns false'. Refute it at one input. -/
def fnExactBoundsOfWindowWrong : ChangeSpec := { name := "fnExactBoundsOfWindow", fn := fun _ => fun
  | [d1, d2] => { results := [.lit (.bool false)], args := [d1, d2] }
  | _ => none }
def FnExactBoundsOfWindowWrongFalsely : Prop := fnExactBoundsOfWindowRow.holds Try.pinned (OpenSpec.ofChange fnExactBoundsOfWindowWrong)

/-- 'laws.FnExactSameSaved': WHATEVER THE INPUT: true; the input reads as it did. -/
def fnExactSameSavedSpec : ChangeSpec := { name := "fnExactSameSaved", fn := fun _ => fun
  | [d1, d2] => { results := [.lit (.bool true)], args := [d1, d2] }
  | _ => none }
def fnExactSameSavedRow : OpenClaim := { program := "ytbgchlllblkhiaa", sum := "33900130cc189984a580d4b7e0c6ac30d67ad57fccbff7cc822d4c993539f2e7", func := "loop.example/g01347/laws.FnExactSameSaved", spec := "fnExactSameSaved", unfollowed := true, recurses := true, apart := false }
def FnExactSameSavedSaid : Prop := fnExactSameSavedRow.holds Try.pinned (OpenSpec.ofChange fnExactSameSavedSpec)

/-- ITS FALSE NEIGHBOUR: 'it returns false'. Refute it at one input. -/
def fnExactSameSavedWrong : ChangeSpec := { name := "fnExactSameSaved", fn := fun _ => fun
  | [d1, d2] => { results := [.lit (.bool false)], args := [d1, d2] }
  | _ => none }
def FnExactSameSavedWrongFalsely : Prop := fnExactSameSavedRow.holds Try.pinned (OpenSpec.ofChange fnExactSameSavedWrong)

/-- 'laws.FnExactSameDesk': WHATEVER THE INPUT: true; the input reads as it did. -/
def fnExactSameDeskSpec : ChangeSpec := { name := "fnExactSameDesk", fn := fun _ => fun
  | [d1, d2] => { results := [.lit (.bool true)], args := [d1, d2] }
  | _ => none }
def fnExactSameDeskRow : OpenClaim := { program := "ytbgchlllblkhiaa", sum := "33900130cc189984a580d4b7e0c6ac30d67ad57fccbff7cc822d4c993539f2e7", func := "loop.example/g01347/laws.FnExactSameDesk", spec := "fnExactSameDesk", apart := false }
def FnExactSameDeskSaid : Prop := fnExactSameDeskRow.holds Try.pinned (OpenSpec.ofChange fnExactSameDeskSpec)

/-- ITS FALSE NEIGHBOUR: 'it returns false'. Refute it at one input. -/
def fnExactSameDeskWrong : ChangeSpec := { name := "fnExactSameDesk", fn := fun _ => fun
  | [d1, d2] => { results := [.lit (.bool false)], args := [d1, d2] }
  | _ => none }
def FnExactSameDeskWrongFalsely : Prop := fnExactSameDeskRow.holds Try.pinned (OpenSpec.ofChange fnExactSameDeskWrong)

/- THE SECOND FORM. 'bulk': how many values and letters a reading holds, each counted each time it is reached (what is shared counts as often as it is met; a slice's spare places count too). A statement '..UptoSaid' is the law's where the arguments, and the package variables that the reading takes, are together of bulk at most 1048576: NARROWER than '..Said'. Prove '..Said' where nothing that the law and all that it calls make is longer than what came in: it says more and counts as full. Else prove '..UptoSaid'. A law counts once. -/
mutual
def uptoBulk {H : Type} : DataW H → Nat
  | .lit (.string bytes) => bytes.length + 1
  | .lit _ => 1
  | .nil => 1
  | .ptr d => uptoBulk d + 1
  | .slice elems spare => uptoBulkAll elems + uptoBulkAll spare + 1
  | .agg parts => uptoBulkAll parts + 1
  | .iface _ d => uptoBulk d + 1
  | .map entries => uptoBulkEntries entries + 1
  | .held _ => 1
def uptoBulkAll {H : Type} : List (DataW H) → Nat
  | [] => 0
  | d :: r => uptoBulk d + uptoBulkAll r
def uptoBulkEntries {H : Type} : List (Lit × DataW H) → Nat
  | [] => 0
  | x :: r => uptoBulkEntry x + uptoBulkEntries r
def uptoBulkEntry {H : Type} : Lit × DataW H → Nat
  | (.string bytes, d) => bytes.length + uptoBulk d + 1
  | (_, d) => uptoBulk d + 1
 end
def uptoSmall : (H : Type) → List (DataW H) → Bool := fun _ ds => decide (uptoBulkAll ds ≤ 1048576)
def OpenSpec.upto (s : _root_.Go.ChangeSpec) : _root_.Go.OpenSpec := { _root_.Go.OpenSpec.ofChange s with cond := some uptoSmall }

/-- 'laws.FnExactDotOf', WHERE WHAT IT READS IS OF BULK AT MOST 1048576: true; the input reads as it did. -/
def fnExactDotOfUptoRow : OpenClaim := { program := "ytbgchlllblkhiaa", sum := "33900130cc189984a580d4b7e0c6ac30d67ad57fccbff7cc822d4c993539f2e7", func := "loop.example/g01347/laws.FnExactDotOf", spec := "fnExactDotOf", unfollowed := true, recurses := true, apart := false, narrowed := true }
def FnExactDotOfUptoSaid : Prop := fnExactDotOfUptoRow.holds Try.pinned (OpenSpec.upto fnExactDotOfSpec)

/-- 'laws.FnExactForestOf', WHERE WHAT IT READS IS OF BULK AT MOST 1048576: true; the input reads as it did. -/
def fnExactForestOfUptoRow : OpenClaim := { program := "ytbgchlllblkhiaa", sum := "33900130cc189984a580d4b7e0c6ac30d67ad57fccbff7cc822d4c993539f2e7", func := "loop.example/g01347/laws.FnExactForestOf", spec := "fnExactForestOf", unfollowed := true, recurses := true, apart := false, narrowed := true }
def FnExactForestOfUptoSaid : Prop := fnExactForestOfUptoRow.holds Try.pinned (OpenSpec.upto fnExactForestOfSpec)

/-- 'laws.FnExactSignRow', WHERE WHAT IT READS IS OF BULK AT MOST 1048576: true; the input reads as it did. -/
def fnExactSignRowUptoRow : OpenClaim := { program := "ytbgchlllblkhiaa", sum := "33900130cc189984a580d4b7e0c6ac30d67ad57fccbff7cc822d4c993539f2e7", func := "loop.example/g01347/laws.FnExactSignRow", spec := "fnExactSignRow", unfollowed := true, recurses := true, apart := false, narrowed := true }
def FnExactSignRowUptoSaid : Prop := fnExactSignRowUptoRow.holds Try.pinned (OpenSpec.upto fnExactSignRowSpec)

/-- 'laws.FnExactJoinDecays', WHERE WHAT IT READS IS OF BULK AT MOST 1048576: true; the input reads as it did. -/
def fnExactJoinDecaysUptoRow : OpenClaim := { program := "ytbgchlllblkhiaa", sum := "33900130cc189984a580d4b7e0c6ac30d67ad57fccbff7cc822d4c993539f2e7", func := "loop.example/g01347/laws.FnExactJoinDecays", spec := "fnExactJoinDecays", inPlace := ["math.Float64frombits"], apart := false, narrowed := true }
def FnExactJoinDecaysUptoSaid : Prop := fnExactJoinDecaysUptoRow.holds Try.pinned (OpenSpec.upto fnExactJoinDecaysSpec)

/-- 'laws.FnExactNormOf', WHERE WHAT IT READS IS OF BULK AT MOST 1048576: true; the input reads as it did. -/
def fnExactNormOfUptoRow : OpenClaim := { program := "ytbgchlllblkhiaa", sum := "33900130cc189984a580d4b7e0c6ac30d67ad57fccbff7cc822d4c993539f2e7", func := "loop.example/g01347/laws.FnExactNormOf", spec := "fnExactNormOf", inPlace := ["math.sqrt"], unfollowed := true, recurses := true, apart := false, narrowed := true }
def FnExactNormOfUptoSaid : Prop := fnExactNormOfUptoRow.holds Try.pinned (OpenSpec.upto fnExactNormOfSpec)

/-- 'laws.FnExactBandPairs', WHERE WHAT IT READS IS OF BULK AT MOST 1048576: true; the input reads as it did. -/
def fnExactBandPairsUptoRow : OpenClaim := { program := "ytbgchlllblkhiaa", sum := "33900130cc189984a580d4b7e0c6ac30d67ad57fccbff7cc822d4c993539f2e7", func := "loop.example/g01347/laws.FnExactBandPairs", spec := "fnExactBandPairs", unfollowed := true, recurses := true, apart := false, narrowed := true }
def FnExactBandPairsUptoSaid : Prop := fnExactBandPairsUptoRow.holds Try.pinned (OpenSpec.upto fnExactBandPairsSpec)

/-- 'laws.FnExactEdgeSketch', WHERE WHAT IT READS IS OF BULK AT MOST 1048576: true; the input reads as it did. -/
def fnExactEdgeSketchUptoRow : OpenClaim := { program := "ytbgchlllblkhiaa", sum := "33900130cc189984a580d4b7e0c6ac30d67ad57fccbff7cc822d4c993539f2e7", func := "loop.example/g01347/laws.FnExactEdgeSketch", spec := "fnExactEdgeSketch", unfollowed := true, recurses := true, apart := false, narrowed := true }
def FnExactEdgeSketchUptoSaid : Prop := fnExactEdgeSketchUptoRow.holds Try.pinned (OpenSpec.upto fnExactEdgeSketchSpec)

/-- 'laws.FnExactSignSketch', WHERE WHAT IT READS IS OF BULK AT MOST 1048576: true; the input reads as it did. -/
def fnExactSignSketchUptoRow : OpenClaim := { program := "ytbgchlllblkhiaa", sum := "33900130cc189984a580d4b7e0c6ac30d67ad57fccbff7cc822d4c993539f2e7", func := "loop.example/g01347/laws.FnExactSignSketch", spec := "fnExactSignSketch", unfollowed := true, recurses := true, apart := false, narrowed := true }
def FnExactSignSketchUptoSaid : Prop := fnExactSignSketchUptoRow.holds Try.pinned (OpenSpec.upto fnExactSignSketchSpec)

/-- 'laws.FnExactCountWindow', WHERE WHAT IT READS IS OF BULK AT MOST 1048576: true; the input reads as it did. -/
def fnExactCountWindowUptoRow : OpenClaim := { program := "ytbgchlllblkhiaa", sum := "33900130cc189984a580d4b7e0c6ac30d67ad57fccbff7cc822d4c993539f2e7", func := "loop.example/g01347/laws.FnExactCountWindow", spec := "fnExactCountWindow", unfollowed := true, recurses := true, apart := false, narrowed := true }
def FnExactCountWindowUptoSaid : Prop := fnExactCountWindowUptoRow.holds Try.pinned (OpenSpec.upto fnExactCountWindowSpec)

/-- 'laws.FnExactBoundsOfWindow', WHERE WHAT IT READS IS OF BULK AT MOST 1048576: true; the input reads as it did. -/
def fnExactBoundsOfWindowUptoRow : OpenClaim := { program := "ytbgchlllblkhiaa", sum := "33900130cc189984a580d4b7e0c6ac30d67ad57fccbff7cc822d4c993539f2e7", func := "loop.example/g01347/laws.FnExactBoundsOfWindow", spec := "fnExactBoundsOfWindow", unfollowed := true, recurses := true, apart := false, narrowed := true }
def FnExactBoundsOfWindowUptoSaid : Prop := fnExactBoundsOfWindowUptoRow.holds Try.pinned (OpenSpec.upto fnExactBoundsOfWindowSpec)

/-- 'laws.FnExactSameSaved', WHERE WHAT IT READS IS OF BULK AT MOST 1048576: true; the input reads as it did. -/
def fnExactSameSavedUptoRow : OpenClaim := { program := "ytbgchlllblkhiaa", sum := "33900130cc189984a580d4b7e0c6ac30d67ad57fccbff7cc822d4c993539f2e7", func := "loop.example/g01347/laws.FnExactSameSaved", spec := "fnExactSameSaved", unfollowed := true, recurses := true, apart := false, narrowed := true }
def FnExactSameSavedUptoSaid : Prop := fnExactSameSavedUptoRow.holds Try.pinned (OpenSpec.upto fnExactSameSavedSpec)

/-- 'laws.FnExactSameDesk', WHERE WHAT IT READS IS OF BULK AT MOST 1048576: true; the input reads as it did. -/
def fnExactSameDeskUptoRow : OpenClaim := { program := "ytbgchlllblkhiaa", sum := "33900130cc189984a580d4b7e0c6ac30d67ad57fccbff7cc822d4c993539f2e7", func := "loop.example/g01347/laws.FnExactSameDesk", spec := "fnExactSameDesk", apart := false, narrowed := true }
def FnExactSameDeskUptoSaid : Prop := fnExactSameDeskUptoRow.holds Try.pinned (OpenSpec.upto fnExactSameDeskSpec)

end Rows
end Go.Proofs.Ytbgchlllblkhiaa
