/-
  No cell of these rows narrows 'for every input' (looked for: loops, veiled, ifaces, maps, wideKeys, modest, calm, conditions, laid).
  DERIVED. THE GIVEN ROWS OF THIS SEAT. 7 by the template 'for every input the law returns true; each argument reads behind the call as it read before'; 0 by the template 'total and deterministic' (their statements: YtihbckoldblpcaaTotals.lean).
  GIVEN WITH THE SEED: the statements are not yours to turn. If you find one false, say at which input.
  Laid BY PROGRAM, IN A SANDBOX (cutbox-rows.mjs): the forced cells as the released guide's own fill.sh prints them over the translation 89a21431080cf7a9… (all of the seat's roots in one cut). By AI agents, Wed Nov 11 2026. No macro, syntax, notation, axiom, sorry.
-/
import Derived.Test.YtihbckoldblpcaaChecked
import GoSem.Claim
import GoSem.ClaimJoined
import GoSem.ClaimMapViews
import Derived.JoinedTies
import Derived.KernelRfl
namespace Go.Proofs.Ytihbckoldblpcaa
/- THE CELL 'sum', in the pinned program and in every row, IS THE sha256 OF THE DUMP (.gsa) THAT YtihbckoldblpcaaProg.lean LOADS. Nothing in Lean hashes anything: it is a label: what it is worth is what the hold of that sum in a sandbox is worth. -/
noncomputable def Try.pinned : Pinned := { name := "ytihbckoldblpcaa", sum := "89a21431080cf7a9e17f75b85b50422b444e0348633623d7626749603a8d54fc", checked := Try.checked }
namespace Rows
def none {H : Type} : Left H := { results := [], args := [] }

/-- 'laws.FnExactJoinDecays': WHATEVER THE INPUT: true; the input reads as it did. -/
def fnExactJoinDecaysSpec : ChangeSpec := { name := "fnExactJoinDecays", fn := fun _ => fun
  | [d1, d2] => { results := [.lit (.bool true)], args := [d1, d2] }
  | _ => none }
def fnExactJoinDecaysRow : OpenClaim := { program := "ytihbckoldblpcaa", sum := "89a21431080cf7a9e17f75b85b50422b444e0348633623d7626749603a8d54fc", func := "loop.example/g01347/laws.FnExactJoinDecays", spec := "fnExactJoinDecays", inPlace := ["math.Float64frombits"], apart := false }
def FnExactJoinDecaysSaid : Prop := fnExactJoinDecaysRow.holds Try.pinned (OpenSpec.ofChange fnExactJoinDecaysSpec)

/-- ITS FALSE NEIGHBOUR: 'it returns false'. Refute it at one input. -/
def fnExactJoinDecaysWrong : ChangeSpec := { name := "fnExactJoinDecays", fn := fun _ => fun
  | [d1, d2] => { results := [.lit (.bool false)], args := [d1, d2] }
  | _ => none }
def FnExactJoinDecaysWrongFalsely : Prop := fnExactJoinDecaysRow.holds Try.pinned (OpenSpec.ofChange fnExactJoinDecaysWrong)

/-- 'laws.FnExactSameSaved': WHATEVER THE INPUT: true; the input reads as it did. -/
def fnExactSameSavedSpec : ChangeSpec := { name := "fnExactSameSaved", fn := fun _ => fun
  | [d1, d2] => { results := [.lit (.bool true)], args := [d1, d2] }
  | _ => none }
def fnExactSameSavedRow : OpenClaim := { program := "ytihbckoldblpcaa", sum := "89a21431080cf7a9e17f75b85b50422b444e0348633623d7626749603a8d54fc", func := "loop.example/g01347/laws.FnExactSameSaved", spec := "fnExactSameSaved", unfollowed := true, recurses := true, apart := false }
def FnExactSameSavedSaid : Prop := fnExactSameSavedRow.holds Try.pinned (OpenSpec.ofChange fnExactSameSavedSpec)

/-- ITS FALSE NEIGHBOUR: 'it returns false'. Refute it at one input. -/
def fnExactSameSavedWrong : ChangeSpec := { name := "fnExactSameSaved", fn := fun _ => fun
  | [d1, d2] => { results := [.lit (.bool false)], args := [d1, d2] }
  | _ => none }
def FnExactSameSavedWrongFalsely : Prop := fnExactSameSavedRow.holds Try.pinned (OpenSpec.ofChange fnExactSameSavedWrong)

/-- 'laws.FnExactMiddleOfWindow': WHATEVER THE INPUT: true; the input reads as it did. -/
def fnExactMiddleOfWindowSpec : ChangeSpec := { name := "fnExactMiddleOfWindow", fn := fun _ => fun
  | [d1, d2] => { results := [.lit (.bool true)], args := [d1, d2] }
  | _ => none }
def fnExactMiddleOfWindowRow : OpenClaim := { program := "ytihbckoldblpcaa", sum := "89a21431080cf7a9e17f75b85b50422b444e0348633623d7626749603a8d54fc", func := "loop.example/g01347/laws.FnExactMiddleOfWindow", spec := "fnExactMiddleOfWindow", unfollowed := true, recurses := true, apart := false }
def FnExactMiddleOfWindowSaid : Prop := fnExactMiddleOfWindowRow.holds Try.pinned (OpenSpec.ofChange fnExactMiddleOfWindowSpec)

/-- ITS FALSE NEIGHBOUR: 'it returns false'. Refute it at one input. -/
def fnExactMiddleOfWindowWrong : ChangeSpec := { name := "fnExactMiddleOfWindow", fn := fun _ => fun
  | [d1, d2] => { results := [.lit (.bool false)], args := [d1, d2] }
  | _ => none }
def FnExactMiddleOfWindowWrongFalsely : Prop := fnExactMiddleOfWindowRow.holds Try.pinned (OpenSpec.ofChange fnExactMiddleOfWindowWrong)

/-- 'laws.FnBanded': WHATEVER THE INPUT: true; the input reads as it did. -/
def fnBandedSpec : ChangeSpec := { name := "fnBanded", fn := fun _ => fun
  | [d1, d2] => { results := [.lit (.bool true)], args := [d1, d2] }
  | _ => none }
def fnBandedRow : OpenClaim := { program := "ytihbckoldblpcaa", sum := "89a21431080cf7a9e17f75b85b50422b444e0348633623d7626749603a8d54fc", func := "loop.example/g01347/laws.FnBanded", spec := "fnBanded", inPlace := ["math.sqrt"], unfollowed := true, recurses := true, apart := false }
def FnBandedSaid : Prop := fnBandedRow.holds Try.pinned (OpenSpec.ofChange fnBandedSpec)

/-- ITS FALSE NEIGHBOUR: 'it returns false'. Refute it at one input. -/
def fnBandedWrong : ChangeSpec := { name := "fnBanded", fn := fun _ => fun
  | [d1, d2] => { results := [.lit (.bool false)], args := [d1, d2] }
  | _ => none }
def FnBandedWrongFalsely : Prop := fnBandedRow.holds Try.pinned (OpenSpec.ofChange fnBandedWrong)

/-- 'laws.FnExactOftenInWindow': WHATEVER THE INPUT: true; the input reads as it did. -/
def fnExactOftenInWindowSpec : ChangeSpec := { name := "fnExactOftenInWindow", fn := fun _ => fun
  | [d1, d2] => { results := [.lit (.bool true)], args := [d1, d2] }
  | _ => none }
def fnExactOftenInWindowRow : OpenClaim := { program := "ytihbckoldblpcaa", sum := "89a21431080cf7a9e17f75b85b50422b444e0348633623d7626749603a8d54fc", func := "loop.example/g01347/laws.FnExactOftenInWindow", spec := "fnExactOftenInWindow", unfollowed := true, recurses := true, apart := false }
def FnExactOftenInWindowSaid : Prop := fnExactOftenInWindowRow.holds Try.pinned (OpenSpec.ofChange fnExactOftenInWindowSpec)

/-- ITS FALSE NEIGHBOUR: 'it returns false'. Refute it at one input. -/
def fnExactOftenInWindowWrong : ChangeSpec := { name := "fnExactOftenInWindow", fn := fun _ => fun
  | [d1, d2] => { results := [.lit (.bool false)], args := [d1, d2] }
  | _ => none }
def FnExactOftenInWindowWrongFalsely : Prop := fnExactOftenInWindowRow.holds Try.pinned (OpenSpec.ofChange fnExactOftenInWindowWrong)

/-- 'laws.FnExactValidSaved': WHATEVER THE INPUT: true; the input reads as it did. -/
def fnExactValidSavedSpec : ChangeSpec := { name := "fnExactValidSaved", fn := fun _ => fun
  | [d] => { results := [.lit (.bool true)], args := [d] }
  | _ => none }
def fnExactValidSavedRow : OpenClaim := { program := "ytihbckoldblpcaa", sum := "89a21431080cf7a9e17f75b85b50422b444e0348633623d7626749603a8d54fc", func := "loop.example/g01347/laws.FnExactValidSaved", spec := "fnExactValidSaved", unfollowed := true, recurses := true, apart := false }
def FnExactValidSavedSaid : Prop := fnExactValidSavedRow.holds Try.pinned (OpenSpec.ofChange fnExactValidSavedSpec)

/-- ITS FALSE NEIGHBOUR: 'it returns false'. Refute it at one input. -/
def fnExactValidSavedWrong : ChangeSpec := { name := "fnExactValidSaved", fn := fun _ => fun
  | [d] => { results := [.lit (.bool false)], args := [d] }
  | _ => none }
def FnExactValidSavedWrongFalsely : Prop := fnExactValidSavedRow.holds Try.pinned (OpenSpec.ofChange fnExactValidSavedWrong)

/-- 'laws.FnExactSampleStream': WHATEVER THE INPUT: true; the input reads as it did. -/
def fnExactSampleStreamSpec : ChangeSpec := { name := "fnExactSampleStream", fn := fun _ => fun
  | [d1, d2, d3] => { results := [.lit (.bool true)], args := [d1, d2, d3] }
  | _ => none }
def fnExactSampleStreamRow : OpenClaim := { program := "ytihbckoldblpcaa", sum := "89a21431080cf7a9e17f75b85b50422b444e0348633623d7626749603a8d54fc", func := "loop.example/g01347/laws.FnExactSampleStream", spec := "fnExactSampleStream", unfollowed := true, recurses := true, apart := false }
def FnExactSampleStreamSaid : Prop := fnExactSampleStreamRow.holds Try.pinned (OpenSpec.ofChange fnExactSampleStreamSpec)

/-- ITS FALSE NEIGHBOUR: 'it returns false'. Refute it at one input. -/
def fnExactSampleStreamWrong : ChangeSpec := { name := "fnExactSampleStream", fn := fun _ => fun
  | [d1, d2, d3] => { results := [.lit (.bool false)], args := [d1, d2, d3] }
  | _ => none }
def FnExactSampleStreamWrongFalsely : Prop := fnExactSampleStreamRow.holds Try.pinned (OpenSpec.ofChange fnExactSampleStreamWrong)

/- THE SECOND FORM. 'bulk': how many values and letters a reading holds, each counted each time it is reached (what is shared counts as often as it is met; a slice's spare places count too). A statement '..UptoSaid' is the law's where the arguments, and the package variables that the reading takes, are together of bulk at most 1048576: NARROWER than '..Said'. Prove '..Said' where nothing that the law and all that it calls make is longer than what came in: it says more and counts as full. Else prove '..UptoSaid'. A law counts once. -/
mutual
def uptoBulk {H : Type} : DataW H → Nat
  | .lit (.string bytes) => bytes.length + 1
  | .lit _ => 1
  | .nil => 1
  | .ptr d => uptoBulk d + 1
  | .slice elems spare => uptoBulkAll elems + uptoBulkAll spare + 1
  | .agg parts => uptoBulkAll parts + 1
  | .iface _ d => uptoBulk d + 1
  | .map entries => uptoBulkEntries entries + 1
  | .held _ => 1
def uptoBulkAll {H : Type} : List (DataW H) → Nat
  | [] => 0
  | d :: r => uptoBulk d + uptoBulkAll r
def uptoBulkEntries {H : Type} : List (Lit × DataW H) → Nat
  | [] => 0
  | x :: r => uptoBulkEntry x + uptoBulkEntries r
def uptoBulkEntry {H : Type} : Lit × DataW H → Nat
  | (.string bytes, d) => bytes.length + uptoBulk d + 1
  | (_, d) => uptoBulk d + 1
 end
def uptoSmall : (H : Type) → List (DataW H) → Bool := fun _ ds => decide (uptoBulkAll ds ≤ 1048576)
def OpenSpec.upto (s : _root_.Go.ChangeSpec) : _root_.Go.OpenSpec := { _root_.Go.OpenSpec.ofChange s with cond := some uptoSmall }

/-- 'laws.FnExactJoinDecays', WHERE WHAT IT READS IS OF BULK AT MOST 1048576: true; the input reads as it did. -/
def fnExactJoinDecaysUptoRow : OpenClaim := { program := "ytihbckoldblpcaa", sum := "89a21431080cf7a9e17f75b85b50422b444e0348633623d7626749603a8d54fc", func := "loop.example/g01347/laws.FnExactJoinDecays", spec := "fnExactJoinDecays", inPlace := ["math.Float64frombits"], apart := false, narrowed := true }
def FnExactJoinDecaysUptoSaid : Prop := fnExactJoinDecaysUptoRow.holds Try.pinned (OpenSpec.upto fnExactJoinDecaysSpec)

/-- 'laws.FnExactSameSaved', WHERE WHAT IT READS IS OF BULK AT MOST 1048576: true; the input reads as it did. -/
def fnExactSameSavedUptoRow : OpenClaim := { program := "ytihbckoldblpcaa", sum := "89a21431080cf7a9e17f75b85b50422b444e0348633623d7626749603a8d54fc", func := "loop.example/g01347/laws.FnExactSameSaved", spec := "fnExactSameSaved", unfollowed := true, recurses := true, apart := false, narrowed := true }
def FnExactSameSavedUptoSaid : Prop := fnExactSameSavedUptoRow.holds Try.pinned (OpenSpec.upto fnExactSameSavedSpec)

/-- 'laws.FnExactMiddleOfWindow', WHERE WHAT IT READS IS OF BULK AT MOST 1048576: true; the input reads as it did. -/
def fnExactMiddleOfWindowUptoRow : OpenClaim := { program := "ytihbckoldblpcaa", sum := "89a21431080cf7a9e17f75b85b50422b444e0348633623d7626749603a8d54fc", func := "loop.example/g01347/laws.FnExactMiddleOfWindow", spec := "fnExactMiddleOfWindow", unfollowed := true, recurses := true, apart := false, narrowed := true }
def FnExactMiddleOfWindowUptoSaid : Prop := fnExactMiddleOfWindowUptoRow.holds Try.pinned (OpenSpec.upto fnExactMiddleOfWindowSpec)

/-- 'laws.FnBanded', WHERE WHAT IT READS IS OF BULK AT MOST 1048576: true; the input reads as it did. -/
def fnBandedUptoRow : OpenClaim := { program := "ytihbckoldblpcaa", sum := "89a21431080cf7a9e17f75b85b50422b444e0348633623d7626749603a8d54fc", func := "loop.example/g01347/laws.FnBanded", spec := "fnBanded", inPlace := ["math.sqrt"], unfollowed := true, recurses := true, apart := false, narrowed := true }
def FnBandedUptoSaid : Prop := fnBandedUptoRow.holds Try.pinned (OpenSpec.upto fnBandedSpec)

/-- 'laws.FnExactOftenInWindow', WHERE WHAT IT READS IS OF BULK AT MOST 1048576: true; the input reads as it did. -/
def fnExactOftenInWindowUptoRow : OpenClaim := { program := "ytihbckoldblpcaa", sum := "89a21431080cf7a9e17f75b85b50422b444e0348633623d7626749603a8d54fc", func := "loop.example/g01347/laws.FnExactOftenInWindow", spec := "fnExactOftenInWindow", unfollowed := true, recurses := true, apart := false, narrowed := true }
def FnExactOftenInWindowUptoSaid : Prop := fnExactOftenInWindowUptoRow.holds Try.pinned (OpenSpec.upto fnExactOftenInWindowSpec)

/-- 'laws.FnExactValidSaved', WHERE WHAT IT READS IS OF BULK AT MOST 1048576: true; the input reads as it did. -/
def fnExactValidSavedUptoRow : OpenClaim := { program := "ytihbckoldblpcaa", sum := "89a21431080cf7a9e17f75b85b50422b444e0348633623d7626749603a8d54fc", func := "loop.example/g01347/laws.FnExactValidSaved", spec := "fnExactValidSaved", unfollowed := true, recurses := true, apart := false, narrowed := true }
def FnExactValidSavedUptoSaid : Prop := fnExactValidSavedUptoRow.holds Try.pinned (OpenSpec.upto fnExactValidSavedSpec)

/-- 'laws.FnExactSampleStream', WHERE WHAT IT READS IS OF BULK AT MOST 1048576: true; the input reads as it did. -/
def fnExactSampleStreamUptoRow : OpenClaim := { program := "ytihbckoldblpcaa", sum := "89a21431080cf7a9e17f75b85b50422b444e0348633623d7626749603a8d54fc", func := "loop.example/g01347/laws.FnExactSampleStream", spec := "fnExactSampleStream", unfollowed := true, recurses := true, apart := false, narrowed := true }
def FnExactSampleStreamUptoSaid : Prop := fnExactSampleStreamUptoRow.holds Try.pinned (OpenSpec.upto fnExactSampleStreamSpec)

end Rows
end Go.Proofs.Ytihbckoldblpcaa
