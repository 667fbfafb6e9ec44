/-
  No cell of these rows narrows 'for every input' (looked for: loops, veiled, ifaces, maps, wideKeys, modest, calm, conditions, laid).
  DERIVED. THE GIVEN ROWS OF THIS SEAT. 11 by the template 'for every input the law returns true; each argument reads behind the call as it read before'; 0 by the template 'total and deterministic' (their statements: YtgkmmilmdhhleaaTotals.lean).
  GIVEN WITH THE SEED: the statements are not yours to turn. If you find one false, say at which input.
  Laid BY PROGRAM, IN A SANDBOX (cutbox-rows.mjs): the forced cells as the released guide's own fill.sh prints them over the translation 26c5e620b33df0c3… (all of the seat's roots in one cut). By AI agents, Wed Nov 11 2026. No macro, syntax, notation, axiom, sorry.
-/
import Derived.Test.YtgkmmilmdhhleaaChecked
import GoSem.Claim
import GoSem.ClaimJoined
import GoSem.ClaimMapViews
import Derived.JoinedTies
import Derived.KernelRfl
namespace Go.Proofs.Ytgkmmilmdhhleaa
/- THE CELL 'sum', in the pinned program and in every row, IS THE sha256 OF THE DUMP (.gsa) THAT YtgkmmilmdhhleaaProg.lean LOADS. Nothing in Lean hashes anything: it is a label: what it is worth is what the hold of that sum in a sandbox is worth. -/
noncomputable def Try.pinned : Pinned := { name := "ytgkmmilmdhhleaa", sum := "26c5e620b33df0c3fb88bd97571c981facdd223a2dbe391744c27e2f267b4780", checked := Try.checked }
namespace Rows
def none {H : Type} : Left H := { results := [], args := [] }

/-- 'laws.FnExactJoinDecays': WHATEVER THE INPUT: true; the input reads as it did. -/
def fnExactJoinDecaysSpec : ChangeSpec := { name := "fnExactJoinDecays", fn := fun _ => fun
  | [d1, d2] => { results := [.lit (.bool true)], args := [d1, d2] }
  | _ => none }
def fnExactJoinDecaysRow : OpenClaim := { program := "ytgkmmilmdhhleaa", sum := "26c5e620b33df0c3fb88bd97571c981facdd223a2dbe391744c27e2f267b4780", func := "loop.example/g01347/laws.FnExactJoinDecays", spec := "fnExactJoinDecays", inPlace := ["math.Float64frombits"], apart := false }
def FnExactJoinDecaysSaid : Prop := fnExactJoinDecaysRow.holds Try.pinned (OpenSpec.ofChange fnExactJoinDecaysSpec)

/-- ITS FALSE NEIGHBOUR: 'it returns false'. Refute it at one input. -/
def fnExactJoinDecaysWrong : ChangeSpec := { name := "fnExactJoinDecays", fn := fun _ => fun
  | [d1, d2] => { results := [.lit (.bool false)], args := [d1, d2] }
  | _ => none }
def FnExactJoinDecaysWrongFalsely : Prop := fnExactJoinDecaysRow.holds Try.pinned (OpenSpec.ofChange fnExactJoinDecaysWrong)

/-- 'laws.FnExactEdgeSketch': WHATEVER THE INPUT: true; the input reads as it did. -/
def fnExactEdgeSketchSpec : ChangeSpec := { name := "fnExactEdgeSketch", fn := fun _ => fun
  | [d1, d2, d3, d4] => { results := [.lit (.bool true)], args := [d1, d2, d3, d4] }
  | _ => none }
def fnExactEdgeSketchRow : OpenClaim := { program := "ytgkmmilmdhhleaa", sum := "26c5e620b33df0c3fb88bd97571c981facdd223a2dbe391744c27e2f267b4780", func := "loop.example/g01347/laws.FnExactEdgeSketch", spec := "fnExactEdgeSketch", unfollowed := true, recurses := true, apart := false }
def FnExactEdgeSketchSaid : Prop := fnExactEdgeSketchRow.holds Try.pinned (OpenSpec.ofChange fnExactEdgeSketchSpec)

/-- ITS FALSE NEIGHBOUR: 'it returns false'. Refute it at one input. -/
def fnExactEdgeSketchWrong : ChangeSpec := { name := "fnExactEdgeSketch", fn := fun _ => fun
  | [d1, d2, d3, d4] => { results := [.lit (.bool false)], args := [d1, d2, d3, d4] }
  | _ => none }
def FnExactEdgeSketchWrongFalsely : Prop := fnExactEdgeSketchRow.holds Try.pinned (OpenSpec.ofChange fnExactEdgeSketchWrong)

/-- 'laws.FnExactSameSaved': WHATEVER THE INPUT: true; the input reads as it did. -/
def fnExactSameSavedSpec : ChangeSpec := { name := "fnExactSameSaved", fn := fun _ => fun
  | [d1, d2] => { results := [.lit (.bool true)], args := [d1, d2] }
  | _ => none }
def fnExactSameSavedRow : OpenClaim := { program := "ytgkmmilmdhhleaa", sum := "26c5e620b33df0c3fb88bd97571c981facdd223a2dbe391744c27e2f267b4780", func := "loop.example/g01347/laws.FnExactSameSaved", spec := "fnExactSameSaved", unfollowed := true, recurses := true, apart := false }
def FnExactSameSavedSaid : Prop := fnExactSameSavedRow.holds Try.pinned (OpenSpec.ofChange fnExactSameSavedSpec)

/-- ITS FALSE NEIGHBOUR: 'it returns false'. Refute it at one input. -/
def fnExactSameSavedWrong : ChangeSpec := { name := "fnExactSameSaved", fn := fun _ => fun
  | [d1, d2] => { results := [.lit (.bool false)], args := [d1, d2] }
  | _ => none }
def FnExactSameSavedWrongFalsely : Prop := fnExactSameSavedRow.holds Try.pinned (OpenSpec.ofChange fnExactSameSavedWrong)

/-- 'laws.FnExactLineOf': WHATEVER THE INPUT: true; the input reads as it did. -/
def fnExactLineOfSpec : ChangeSpec := { name := "fnExactLineOf", fn := fun _ => fun
  | [d1, d2] => { results := [.lit (.bool true)], args := [d1, d2] }
  | _ => none }
def fnExactLineOfRow : OpenClaim := { program := "ytgkmmilmdhhleaa", sum := "26c5e620b33df0c3fb88bd97571c981facdd223a2dbe391744c27e2f267b4780", func := "loop.example/g01347/laws.FnExactLineOf", spec := "fnExactLineOf", inPlace := ["math.Float32frombits", "math.Float64frombits", "math.Float64bits"], unfollowed := true, recurses := true, apart := false }
def FnExactLineOfSaid : Prop := fnExactLineOfRow.holds Try.pinned (OpenSpec.ofChange fnExactLineOfSpec)

/-- ITS FALSE NEIGHBOUR: 'it returns false'. Refute it at one input. -/
def fnExactLineOfWrong : ChangeSpec := { name := "fnExactLineOf", fn := fun _ => fun
  | [d1, d2] => { results := [.lit (.bool false)], args := [d1, d2] }
  | _ => none }
def FnExactLineOfWrongFalsely : Prop := fnExactLineOfRow.holds Try.pinned (OpenSpec.ofChange fnExactLineOfWrong)

/-- 'laws.FnExactLinesOf': WHATEVER THE INPUT: true; the input reads as it did. -/
def fnExactLinesOfSpec : ChangeSpec := { name := "fnExactLinesOf", fn := fun _ => fun
  | [d] => { results := [.lit (.bool true)], args := [d] }
  | _ => none }
def fnExactLinesOfRow : OpenClaim := { program := "ytgkmmilmdhhleaa", sum := "26c5e620b33df0c3fb88bd97571c981facdd223a2dbe391744c27e2f267b4780", func := "loop.example/g01347/laws.FnExactLinesOf", spec := "fnExactLinesOf", inPlace := ["math.Float32frombits", "math.Float64frombits", "math.Float64bits"], unfollowed := true, recurses := true, apart := false }
def FnExactLinesOfSaid : Prop := fnExactLinesOfRow.holds Try.pinned (OpenSpec.ofChange fnExactLinesOfSpec)

/-- ITS FALSE NEIGHBOUR: 'it returns false'. Refute it at one input. -/
def fnExactLinesOfWrong : ChangeSpec := { name := "fnExactLinesOf", fn := fun _ => fun
  | [d] => { results := [.lit (.bool false)], args := [d] }
  | _ => none }
def FnExactLinesOfWrongFalsely : Prop := fnExactLinesOfRow.holds Try.pinned (OpenSpec.ofChange fnExactLinesOfWrong)

/-- 'laws.FnBanded': WHATEVER THE INPUT: true; the input reads as it did. -/
def fnBandedSpec : ChangeSpec := { name := "fnBanded", fn := fun _ => fun
  | [d1, d2] => { results := [.lit (.bool true)], args := [d1, d2] }
  | _ => none }
def fnBandedRow : OpenClaim := { program := "ytgkmmilmdhhleaa", sum := "26c5e620b33df0c3fb88bd97571c981facdd223a2dbe391744c27e2f267b4780", func := "loop.example/g01347/laws.FnBanded", spec := "fnBanded", inPlace := ["math.sqrt"], unfollowed := true, recurses := true, apart := false }
def FnBandedSaid : Prop := fnBandedRow.holds Try.pinned (OpenSpec.ofChange fnBandedSpec)

/-- ITS FALSE NEIGHBOUR: 'it returns false'. Refute it at one input. -/
def fnBandedWrong : ChangeSpec := { name := "fnBanded", fn := fun _ => fun
  | [d1, d2] => { results := [.lit (.bool false)], args := [d1, d2] }
  | _ => none }
def FnBandedWrongFalsely : Prop := fnBandedRow.holds Try.pinned (OpenSpec.ofChange fnBandedWrong)

/-- 'laws.FnExactValidSaved': WHATEVER THE INPUT: true; the input reads as it did. -/
def fnExactValidSavedSpec : ChangeSpec := { name := "fnExactValidSaved", fn := fun _ => fun
  | [d] => { results := [.lit (.bool true)], args := [d] }
  | _ => none }
def fnExactValidSavedRow : OpenClaim := { program := "ytgkmmilmdhhleaa", sum := "26c5e620b33df0c3fb88bd97571c981facdd223a2dbe391744c27e2f267b4780", func := "loop.example/g01347/laws.FnExactValidSaved", spec := "fnExactValidSaved", unfollowed := true, recurses := true, apart := false }
def FnExactValidSavedSaid : Prop := fnExactValidSavedRow.holds Try.pinned (OpenSpec.ofChange fnExactValidSavedSpec)

/-- ITS FALSE NEIGHBOUR: 'it returns false'. Refute it at one input. -/
def fnExactValidSavedWrong : ChangeSpec := { name := "fnExactValidSaved", fn := fun _ => fun
  | [d] => { results := [.lit (.bool false)], args := [d] }
  | _ => none }
def FnExactValidSavedWrongFalsely : Prop := fnExactValidSavedRow.holds Try.pinned (OpenSpec.ofChange fnExactValidSavedWrong)

/-- 'laws.FnExactStoreSaved': WHATEVER THE INPUT: true; the input reads as it did. -/
def fnExactStoreSavedSpec : ChangeSpec := { name := "fnExactStoreSaved", fn := fun _ => fun
  | [d] => { results := [.lit (.bool true)], args := [d] }
  | _ => none }
def fnExactStoreSavedRow : OpenClaim := { program := "ytgkmmilmdhhleaa", sum := "26c5e620b33df0c3fb88bd97571c981facdd223a2dbe391744c27e2f267b4780", func := "loop.example/g01347/laws.FnExactStoreSaved", spec := "fnExactStoreSaved", unfollowed := true, recurses := true, apart := false }
def FnExactStoreSavedSaid : Prop := fnExactStoreSavedRow.holds Try.pinned (OpenSpec.ofChange fnExactStoreSavedSpec)

/-- ITS FALSE NEIGHBOUR: 'it returns false'. Refute it at one input. -/
def fnExactStoreSavedWrong : ChangeSpec := { name := "fnExactStoreSaved", fn := fun _ => fun
  | [d] => { results := [.lit (.bool false)], args := [d] }
  | _ => none }
def FnExactStoreSavedWrongFalsely : Prop := fnExactStoreSavedRow.holds Try.pinned (OpenSpec.ofChange fnExactStoreSavedWrong)

/-- 'laws.FnExactStoreAll': WHATEVER THE INPUT: true; the input reads as it did. -/
def fnExactStoreAllSpec : ChangeSpec := { name := "fnExactStoreAll", fn := fun _ => fun
  | [d] => { results := [.lit (.bool true)], args := [d] }
  | _ => none }
def fnExactStoreAllRow : OpenClaim := { program := "ytgkmmilmdhhleaa", sum := "26c5e620b33df0c3fb88bd97571c981facdd223a2dbe391744c27e2f267b4780", func := "loop.example/g01347/laws.FnExactStoreAll", spec := "fnExactStoreAll", unfollowed := true, recurses := true, apart := false }
def FnExactStoreAllSaid : Prop := fnExactStoreAllRow.holds Try.pinned (OpenSpec.ofChange fnExactStoreAllSpec)

/-- ITS FALSE NEIGHBOUR: 'it returns false'. Refute it at one input. -/
def fnExactStoreAllWrong : ChangeSpec := { name := "fnExactStoreAll", fn := fun _ => fun
  | [d] => { results := [.lit (.bool false)], args := [d] }
  | _ => none }
def FnExactStoreAllWrongFalsely : Prop := fnExactStoreAllRow.holds Try.pinned (OpenSpec.ofChange fnExactStoreAllWrong)

/-- 'laws.FnExactLoadSaved': WHATEVER THE INPUT: true; the input reads as it did. -/
def fnExactLoadSavedSpec : ChangeSpec := { name := "fnExactLoadSaved", fn := fun _ => fun
  | [d] => { results := [.lit (.bool true)], args := [d] }
  | _ => none }
def fnExactLoadSavedRow : OpenClaim := { program := "ytgkmmilmdhhleaa", sum := "26c5e620b33df0c3fb88bd97571c981facdd223a2dbe391744c27e2f267b4780", func := "loop.example/g01347/laws.FnExactLoadSaved", spec := "fnExactLoadSaved", unfollowed := true, recurses := true, apart := false }
def FnExactLoadSavedSaid : Prop := fnExactLoadSavedRow.holds Try.pinned (OpenSpec.ofChange fnExactLoadSavedSpec)

/-- ITS FALSE NEIGHBOUR: 'it returns false'. Refute it at one input. -/
def fnExactLoadSavedWrong : ChangeSpec := { name := "fnExactLoadSaved", fn := fun _ => fun
  | [d] => { results := [.lit (.bool false)], args := [d] }
  | _ => none }
def FnExactLoadSavedWrongFalsely : Prop := fnExactLoadSavedRow.holds Try.pinned (OpenSpec.ofChange fnExactLoadSavedWrong)

/-- 'laws.FnExactRecoverAll': WHATEVER THE INPUT: true; the input reads as it did. -/
def fnExactRecoverAllSpec : ChangeSpec := { name := "fnExactRecoverAll", fn := fun _ => fun
  | [d] => { results := [.lit (.bool true)], args := [d] }
  | _ => none }
def fnExactRecoverAllRow : OpenClaim := { program := "ytgkmmilmdhhleaa", sum := "26c5e620b33df0c3fb88bd97571c981facdd223a2dbe391744c27e2f267b4780", func := "loop.example/g01347/laws.FnExactRecoverAll", spec := "fnExactRecoverAll", unfollowed := true, recurses := true, apart := false }
def FnExactRecoverAllSaid : Prop := fnExactRecoverAllRow.holds Try.pinned (OpenSpec.ofChange fnExactRecoverAllSpec)

/-- ITS FALSE NEIGHBOUR: 'it returns false'. Refute it at one input. -/
def fnExactRecoverAllWrong : ChangeSpec := { name := "fnExactRecoverAll", fn := fun _ => fun
  | [d] => { results := [.lit (.bool false)], args := [d] }
  | _ => none }
def FnExactRecoverAllWrongFalsely : Prop := fnExactRecoverAllRow.holds Try.pinned (OpenSpec.ofChange fnExactRecoverAllWrong)

/- THE SECOND FORM. 'bulk': how many values and letters a reading holds, each counted each time it is reached (what is shared counts as often as it is met; a slice's spare places count too). A statement '..UptoSaid' is the law's where the arguments, and the package variables that the reading takes, are together of bulk at most 1048576: NARROWER than '..Said'. Prove '..Said' where nothing that the law and all that it calls make is longer than what came in: it says more and counts as full. Else prove '..UptoSaid'. A law counts once. -/
mutual
def uptoBulk {H : Type} : DataW H → Nat
  | .lit (.string bytes) => bytes.length + 1
  | .lit _ => 1
  | .nil => 1
  | .ptr d => uptoBulk d + 1
  | .slice elems spare => uptoBulkAll elems + uptoBulkAll spare + 1
  | .agg parts => uptoBulkAll parts + 1
  | .iface _ d => uptoBulk d + 1
  | .map entries => uptoBulkEntries entries + 1
  | .held _ => 1
def uptoBulkAll {H : Type} : List (DataW H) → Nat
  | [] => 0
  | d :: r => uptoBulk d + uptoBulkAll r
def uptoBulkEntries {H : Type} : List (Lit × DataW H) → Nat
  | [] => 0
  | x :: r => uptoBulkEntry x + uptoBulkEntries r
def uptoBulkEntry {H : Type} : Lit × DataW H → Nat
  | (.string bytes, d) => bytes.length + uptoBulk d + 1
  | (_, d) => uptoBulk d + 1
 end
def uptoSmall : (H : Type) → List (DataW H) → Bool := fun _ ds => decide (uptoBulkAll ds ≤ 1048576)
def OpenSpec.upto (s : _root_.Go.ChangeSpec) : _root_.Go.OpenSpec := { _root_.Go.OpenSpec.ofChange s with cond := some uptoSmall }

/-- 'laws.FnExactJoinDecays', WHERE WHAT IT READS IS OF BULK AT MOST 1048576: true; the input reads as it did. -/
def fnExactJoinDecaysUptoRow : OpenClaim := { program := "ytgkmmilmdhhleaa", sum := "26c5e620b33df0c3fb88bd97571c981facdd223a2dbe391744c27e2f267b4780", func := "loop.example/g01347/laws.FnExactJoinDecays", spec := "fnExactJoinDecays", inPlace := ["math.Float64frombits"], apart := false, narrowed := true }
def FnExactJoinDecaysUptoSaid : Prop := fnExactJoinDecaysUptoRow.holds Try.pinned (OpenSpec.upto fnExactJoinDecaysSpec)

/-- 'laws.FnExactEdgeSketch', WHERE WHAT IT READS IS OF BULK AT MOST 1048576: true; the input reads as it did. -/
def fnExactEdgeSketchUptoRow : OpenClaim := { program := "ytgkmmilmdhhleaa", sum := "26c5e620b33df0c3fb88bd97571c981facdd223a2dbe391744c27e2f267b4780", func := "loop.example/g01347/laws.FnExactEdgeSketch", spec := "fnExactEdgeSketch", unfollowed := true, recurses := true, apart := false, narrowed := true }
def FnExactEdgeSketchUptoSaid : Prop := fnExactEdgeSketchUptoRow.holds Try.pinned (OpenSpec.upto fnExactEdgeSketchSpec)

/-- 'laws.FnExactSameSaved', WHERE WHAT IT READS IS OF BULK AT MOST 1048576: true; the input reads as it did. -/
def fnExactSameSavedUptoRow : OpenClaim := { program := "ytgkmmilmdhhleaa", sum := "26c5e620b33df0c3fb88bd97571c981facdd223a2dbe391744c27e2f267b4780", func := "loop.example/g01347/laws.FnExactSameSaved", spec := "fnExactSameSaved", unfollowed := true, recurses := true, apart := false, narrowed := true }
def FnExactSameSavedUptoSaid : Prop := fnExactSameSavedUptoRow.holds Try.pinned (OpenSpec.upto fnExactSameSavedSpec)

/-- 'laws.FnExactLineOf', WHERE WHAT IT READS IS OF BULK AT MOST 1048576: true; the input reads as it did. -/
def fnExactLineOfUptoRow : OpenClaim := { program := "ytgkmmilmdhhleaa", sum := "26c5e620b33df0c3fb88bd97571c981facdd223a2dbe391744c27e2f267b4780", func := "loop.example/g01347/laws.FnExactLineOf", spec := "fnExactLineOf", inPlace := ["math.Float32frombits", "math.Float64frombits", "math.Float64bits"], unfollowed := true, recurses := true, apart := false, narrowed := true }
def FnExactLineOfUptoSaid : Prop := fnExactLineOfUptoRow.holds Try.pinned (OpenSpec.upto fnExactLineOfSpec)

/-- 'laws.FnExactLinesOf', WHERE WHAT IT READS IS OF BULK AT MOST 1048576: true; the input reads as it did. -/
def fnExactLinesOfUptoRow : OpenClaim := { program := "ytgkmmilmdhhleaa", sum := "26c5e620b33df0c3fb88bd97571c981facdd223a2dbe391744c27e2f267b4780", func := "loop.example/g01347/laws.FnExactLinesOf", spec := "fnExactLinesOf", inPlace := ["math.Float32frombits", "math.Float64frombits", "math.Float64bits"], unfollowed := true, recurses := true, apart := false, narrowed := true }
def FnExactLinesOfUptoSaid : Prop := fnExactLinesOfUptoRow.holds Try.pinned (OpenSpec.upto fnExactLinesOfSpec)

/-- 'laws.FnBanded', WHERE WHAT IT READS IS OF BULK AT MOST 1048576: true; the input reads as it did. -/
def fnBandedUptoRow : OpenClaim := { program := "ytgkmmilmdhhleaa", sum := "26c5e620b33df0c3fb88bd97571c981facdd223a2dbe391744c27e2f267b4780", func := "loop.example/g01347/laws.FnBanded", spec := "fnBanded", inPlace := ["math.sqrt"], unfollowed := true, recurses := true, apart := false, narrowed := true }
def FnBandedUptoSaid : Prop := fnBandedUptoRow.holds Try.pinned (OpenSpec.upto fnBandedSpec)

/-- 'laws.FnExactValidSaved', WHERE WHAT IT READS IS OF BULK AT MOST 1048576: true; the input reads as it did. -/
def fnExactValidSavedUptoRow : OpenClaim := { program := "ytgkmmilmdhhleaa", sum := "26c5e620b33df0c3fb88bd97571c981facdd223a2dbe391744c27e2f267b4780", func := "loop.example/g01347/laws.FnExactValidSaved", spec := "fnExactValidSaved", unfollowed := true, recurses := true, apart := false, narrowed := true }
def FnExactValidSavedUptoSaid : Prop := fnExactValidSavedUptoRow.holds Try.pinned (OpenSpec.upto fnExactValidSavedSpec)

/-- 'laws.FnExactStoreSaved', WHERE WHAT IT READS IS OF BULK AT MOST 1048576: true; the input reads as it did. -/
def fnExactStoreSavedUptoRow : OpenClaim := { program := "ytgkmmilmdhhleaa", sum := "26c5e620b33df0c3fb88bd97571c981facdd223a2dbe391744c27e2f267b4780", func := "loop.example/g01347/laws.FnExactStoreSaved", spec := "fnExactStoreSaved", unfollowed := true, recurses := true, apart := false, narrowed := true }
def FnExactStoreSavedUptoSaid : Prop := fnExactStoreSavedUptoRow.holds Try.pinned (OpenSpec.upto fnExactStoreSavedSpec)

/-- 'laws.FnExactStoreAll', WHERE WHAT IT READS IS OF BULK AT MOST 1048576: true; the input reads as it did. -/
def fnExactStoreAllUptoRow : OpenClaim := { program := "ytgkmmilmdhhleaa", sum := "26c5e620b33df0c3fb88bd97571c981facdd223a2dbe391744c27e2f267b4780", func := "loop.example/g01347/laws.FnExactStoreAll", spec := "fnExactStoreAll", unfollowed := true, recurses := true, apart := false, narrowed := true }
def FnExactStoreAllUptoSaid : Prop := fnExactStoreAllUptoRow.holds Try.pinned (OpenSpec.upto fnExactStoreAllSpec)

/-- 'laws.FnExactLoadSaved', WHERE WHAT IT READS IS OF BULK AT MOST 1048576: true; the input reads as it did. -/
def fnExactLoadSavedUptoRow : OpenClaim := { program := "ytgkmmilmdhhleaa", sum := "26c5e620b33df0c3fb88bd97571c981facdd223a2dbe391744c27e2f267b4780", func := "loop.example/g01347/laws.FnExactLoadSaved", spec := "fnExactLoadSaved", unfollowed := true, recurses := true, apart := false, narrowed := true }
def FnExactLoadSavedUptoSaid : Prop := fnExactLoadSavedUptoRow.holds Try.pinned (OpenSpec.upto fnExactLoadSavedSpec)

/-- 'laws.FnExactRecoverAll', WHERE WHAT IT READS IS OF BULK AT MOST 1048576: true; the input reads as it did. -/
def fnExactRecoverAllUptoRow : OpenClaim := { program := "ytgkmmilmdhhleaa", sum := "26c5e620b33df0c3fb88bd97571c981facdd223a2dbe391744c27e2f267b4780", func := "loop.example/g01347/laws.FnExactRecoverAll", spec := "fnExactRecoverAll", unfollowed := true, recurses := true, apart := false, narrowed := true }
def FnExactRecoverAllUptoSaid : Prop := fnExactRecoverAllUptoRow.holds Try.pinned (OpenSpec.upto fnExactRecoverAllSpec)

end Rows
end Go.Proofs.Ytgkmmilmdhhleaa
