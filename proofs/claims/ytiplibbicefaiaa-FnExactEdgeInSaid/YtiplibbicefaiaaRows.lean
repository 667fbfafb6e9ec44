/-
  No cell of these rows narrows 'for every input' (looked for: loops, veiled, ifaces, maps, wideKeys, modest, calm, conditions, laid).
  DERIVED. THE GIVEN ROWS OF THIS SEAT. 4 by the template 'for every input the law returns true; each argument reads behind the call as it read before'; 0 by the template 'total and deterministic' (their statements: YtiplibbicefaiaaTotals.lean).
  GIVEN WITH THE SEED: the statements are not yours to turn. If you find one false, say at which input.
  Laid BY PROGRAM, IN A SANDBOX (cutbox-rows.mjs): the forced cells as the released guide's own fill.sh prints them over the translation 41d2ad2de08a7f6b… (all of the seat's roots in one cut). By AI agents, Wed Nov 11 2026. No macro, syntax, notation, axiom, sorry.
-/
import Derived.Test.YtiplibbicefaiaaChecked
import GoSem.Claim
import GoSem.ClaimJoined
import GoSem.ClaimMapViews
import Derived.JoinedTies
import Derived.KernelRfl
namespace Go.Proofs.Ytiplibbicefaiaa
/- THE CELL 'sum', in the pinned program and in every row, IS THE sha256 OF THE DUMP (.gsa) THAT YtiplibbicefaiaaProg.lean LOADS. Nothing in Lean hashes anything: it is a label: what it is worth is what the hold of that sum in a sandbox is worth. -/
noncomputable def Try.pinned : Pinned := { name := "ytiplibbicefaiaa", sum := "41d2ad2de08a7f6bb605e9a5e5bce9eb4d06e73100daec7fb6c6748b284a304a", checked := Try.checked }
namespace Rows
def none {H : Type} : Left H := { results := [], args := [] }

/-- 'laws.FnExactAngleAbout': WHATEVER THE INPUT: true; the input reads as it did. -/
def fnExactAngleAboutSpec : ChangeSpec := { name := "fnExactAngleAbout", fn := fun _ => fun
  | [d1, d2] => { results := [.lit (.bool true)], args := [d1, d2] }
  | _ => none }
def fnExactAngleAboutRow : OpenClaim := { program := "ytiplibbicefaiaa", sum := "41d2ad2de08a7f6bb605e9a5e5bce9eb4d06e73100daec7fb6c6748b284a304a", func := "loop.example/g01347/laws.FnExactAngleAbout", spec := "fnExactAngleAbout", apart := false }
def FnExactAngleAboutSaid : Prop := fnExactAngleAboutRow.holds Try.pinned (OpenSpec.ofChange fnExactAngleAboutSpec)

/-- ITS FALSE NEIGHBOUR: 'it returns false'. Refute it at one input. -/
def fnExactAngleAboutWrong : ChangeSpec := { name := "fnExactAngleAbout", fn := fun _ => fun
  | [d1, d2] => { results := [.lit (.bool false)], args := [d1, d2] }
  | _ => none }
def FnExactAngleAboutWrongFalsely : Prop := fnExactAngleAboutRow.holds Try.pinned (OpenSpec.ofChange fnExactAngleAboutWrong)

/-- 'laws.FnExactIsVector': WHATEVER THE INPUT: true; the input reads as it did. -/
def fnExactIsVectorSpec : ChangeSpec := { name := "fnExactIsVector", fn := fun _ => fun
  | [d] => { results := [.lit (.bool true)], args := [d] }
  | _ => none }
def fnExactIsVectorRow : OpenClaim := { program := "ytiplibbicefaiaa", sum := "41d2ad2de08a7f6bb605e9a5e5bce9eb4d06e73100daec7fb6c6748b284a304a", func := "loop.example/g01347/laws.FnExactIsVector", spec := "fnExactIsVector", unfollowed := true, recurses := true, apart := false }
def FnExactIsVectorSaid : Prop := fnExactIsVectorRow.holds Try.pinned (OpenSpec.ofChange fnExactIsVectorSpec)

/-- ITS FALSE NEIGHBOUR: 'it returns false'. Refute it at one input. -/
def fnExactIsVectorWrong : ChangeSpec := { name := "fnExactIsVector", fn := fun _ => fun
  | [d] => { results := [.lit (.bool false)], args := [d] }
  | _ => none }
def FnExactIsVectorWrongFalsely : Prop := fnExactIsVectorRow.holds Try.pinned (OpenSpec.ofChange fnExactIsVectorWrong)

/-- 'laws.FnExactEdgeIn': WHATEVER THE INPUT: true; the input reads as it did. -/
def fnExactEdgeInSpec : ChangeSpec := { name := "fnExactEdgeIn", fn := fun _ => fun
  | [d1, d2] => { results := [.lit (.bool true)], args := [d1, d2] }
  | _ => none }
def fnExactEdgeInRow : OpenClaim := { program := "ytiplibbicefaiaa", sum := "41d2ad2de08a7f6bb605e9a5e5bce9eb4d06e73100daec7fb6c6748b284a304a", func := "loop.example/g01347/laws.FnExactEdgeIn", spec := "fnExactEdgeIn", unfollowed := true, recurses := true, apart := false }
def FnExactEdgeInSaid : Prop := fnExactEdgeInRow.holds Try.pinned (OpenSpec.ofChange fnExactEdgeInSpec)

/-- ITS FALSE NEIGHBOUR: 'it returns false'. Refute it at one input. -/
def fnExactEdgeInWrong : ChangeSpec := { name := "fnExactEdgeIn", fn := fun _ => fun
  | [d1, d2] => { results := [.lit (.bool false)], args := [d1, d2] }
  | _ => none }
def FnExactEdgeInWrongFalsely : Prop := fnExactEdgeInRow.holds Try.pinned (OpenSpec.ofChange fnExactEdgeInWrong)

/-- 'laws.FnExactJoinSketch': WHATEVER THE INPUT: true; the input reads as it did. -/
def fnExactJoinSketchSpec : ChangeSpec := { name := "fnExactJoinSketch", fn := fun _ => fun
  | [d1, d2] => { results := [.lit (.bool true)], args := [d1, d2] }
  | _ => none }
def fnExactJoinSketchRow : OpenClaim := { program := "ytiplibbicefaiaa", sum := "41d2ad2de08a7f6bb605e9a5e5bce9eb4d06e73100daec7fb6c6748b284a304a", func := "loop.example/g01347/laws.FnExactJoinSketch", spec := "fnExactJoinSketch", unfollowed := true, recurses := true, apart := false }
def FnExactJoinSketchSaid : Prop := fnExactJoinSketchRow.holds Try.pinned (OpenSpec.ofChange fnExactJoinSketchSpec)

/-- ITS FALSE NEIGHBOUR: 'it returns false'. Refute it at one input. -/
def fnExactJoinSketchWrong : ChangeSpec := { name := "fnExactJoinSketch", fn := fun _ => fun
  | [d1, d2] => { results := [.lit (.bool false)], args := [d1, d2] }
  | _ => none }
def FnExactJoinSketchWrongFalsely : Prop := fnExactJoinSketchRow.holds Try.pinned (OpenSpec.ofChange fnExactJoinSketchWrong)

/- THE SECOND FORM. 'bulk': how many values and letters a reading holds, each counted each time it is reached (what is shared counts as often as it is met; a slice's spare places count too). A statement '..UptoSaid' is the law's where the arguments, and the package variables that the reading takes, are together of bulk at most 1048576: NARROWER than '..Said'. Prove '..Said' where nothing that the law and all that it calls make is longer than what came in: it says more and counts as full. Else prove '..UptoSaid'. A law counts once. -/
mutual
def uptoBulk {H : Type} : DataW H → Nat
  | .lit (.string bytes) => bytes.length + 1
  | .lit _ => 1
  | .nil => 1
  | .ptr d => uptoBulk d + 1
  | .slice elems spare => uptoBulkAll elems + uptoBulkAll spare + 1
  | .agg parts => uptoBulkAll parts + 1
  | .iface _ d => uptoBulk d + 1
  | .map entries => uptoBulkEntries entries + 1
  | .held _ => 1
def uptoBulkAll {H : Type} : List (DataW H) → Nat
  | [] => 0
  | d :: r => uptoBulk d + uptoBulkAll r
def uptoBulkEntries {H : Type} : List (Lit × DataW H) → Nat
  | [] => 0
  | x :: r => uptoBulkEntry x + uptoBulkEntries r
def uptoBulkEntry {H : Type} : Lit × DataW H → Nat
  | (.string bytes, d) => bytes.length + uptoBulk d + 1
  | (_, d) => uptoBulk d + 1
 end
def uptoSmall : (H : Type) → List (DataW H) → Bool := fun _ ds => decide (uptoBulkAll ds ≤ 1048576)
def OpenSpec.upto (s : _root_.Go.ChangeSpec) : _root_.Go.OpenSpec := { _root_.Go.OpenSpec.ofChange s with cond := some uptoSmall }

/-- 'laws.FnExactAngleAbout', WHERE WHAT IT READS IS OF BULK AT MOST 1048576: true; the input reads as it did. -/
def fnExactAngleAboutUptoRow : OpenClaim := { program := "ytiplibbicefaiaa", sum := "41d2ad2de08a7f6bb605e9a5e5bce9eb4d06e73100daec7fb6c6748b284a304a", func := "loop.example/g01347/laws.FnExactAngleAbout", spec := "fnExactAngleAbout", apart := false, narrowed := true }
def FnExactAngleAboutUptoSaid : Prop := fnExactAngleAboutUptoRow.holds Try.pinned (OpenSpec.upto fnExactAngleAboutSpec)

/-- 'laws.FnExactIsVector', WHERE WHAT IT READS IS OF BULK AT MOST 1048576: true; the input reads as it did. -/
def fnExactIsVectorUptoRow : OpenClaim := { program := "ytiplibbicefaiaa", sum := "41d2ad2de08a7f6bb605e9a5e5bce9eb4d06e73100daec7fb6c6748b284a304a", func := "loop.example/g01347/laws.FnExactIsVector", spec := "fnExactIsVector", unfollowed := true, recurses := true, apart := false, narrowed := true }
def FnExactIsVectorUptoSaid : Prop := fnExactIsVectorUptoRow.holds Try.pinned (OpenSpec.upto fnExactIsVectorSpec)

/-- 'laws.FnExactEdgeIn', WHERE WHAT IT READS IS OF BULK AT MOST 1048576: true; the input reads as it did. -/
def fnExactEdgeInUptoRow : OpenClaim := { program := "ytiplibbicefaiaa", sum := "41d2ad2de08a7f6bb605e9a5e5bce9eb4d06e73100daec7fb6c6748b284a304a", func := "loop.example/g01347/laws.FnExactEdgeIn", spec := "fnExactEdgeIn", unfollowed := true, recurses := true, apart := false, narrowed := true }
def FnExactEdgeInUptoSaid : Prop := fnExactEdgeInUptoRow.holds Try.pinned (OpenSpec.upto fnExactEdgeInSpec)

/-- 'laws.FnExactJoinSketch', WHERE WHAT IT READS IS OF BULK AT MOST 1048576: true; the input reads as it did. -/
def fnExactJoinSketchUptoRow : OpenClaim := { program := "ytiplibbicefaiaa", sum := "41d2ad2de08a7f6bb605e9a5e5bce9eb4d06e73100daec7fb6c6748b284a304a", func := "loop.example/g01347/laws.FnExactJoinSketch", spec := "fnExactJoinSketch", unfollowed := true, recurses := true, apart := false, narrowed := true }
def FnExactJoinSketchUptoSaid : Prop := fnExactJoinSketchUptoRow.holds Try.pinned (OpenSpec.upto fnExactJoinSketchSpec)

end Rows
end Go.Proofs.Ytiplibbicefaiaa
