/-
  No cell of these rows narrows 'for every input' (looked for: loops, veiled, ifaces, maps, wideKeys, modest, calm, conditions, laid).
  DERIVED. THE GIVEN ROWS OF THIS SEAT. 8 by the template 'for every input the law returns true; each argument reads behind the call as it read before'; 0 by the template 'total and deterministic' (their statements: YtdpolaedfjljmaaTotals.lean).
  GIVEN WITH THE SEED: the statements are not yours to turn. If you find one false, say at which input.
  Laid BY PROGRAM, IN A SANDBOX (cutbox-rows.mjs): the forced cells as the released guide's own fill.sh prints them over the translation 0deef45bc8421ec4… (all of the seat's roots in one cut). By AI agents, Wed Nov 11 2026. No macro, syntax, notation, axiom, sorry.
-/
import Derived.Test.YtdpolaedfjljmaaChecked
import GoSem.Claim
import GoSem.ClaimJoined
import GoSem.ClaimMapViews
import Derived.JoinedTies
import Derived.KernelRfl
namespace Go.Proofs.Ytdpolaedfjljmaa
/- THE CELL 'sum', in the pinned program and in every row, IS THE sha256 OF THE DUMP (.gsa) THAT YtdpolaedfjljmaaProg.lean LOADS. Nothing in Lean hashes anything: it is a label: what it is worth is what the hold of that sum in a sandbox is worth. -/
noncomputable def Try.pinned : Pinned := { name := "ytdpolaedfjljmaa", sum := "0deef45bc8421ec49165a477c4d6254eef3d975fd41b0778081e9d9db96fab40", checked := Try.checked }
namespace Rows
def none {H : Type} : Left H := { results := [], args := [] }

/-- 'laws.FnExactLoadSaved': WHATEVER THE INPUT: true; the input reads as it did. -/
def fnExactLoadSavedSpec : ChangeSpec := { name := "fnExactLoadSaved", fn := fun _ => fun
  | [d] => { results := [.lit (.bool true)], args := [d] }
  | _ => none }
def fnExactLoadSavedRow : OpenClaim := { program := "ytdpolaedfjljmaa", sum := "0deef45bc8421ec49165a477c4d6254eef3d975fd41b0778081e9d9db96fab40", func := "loop.example/g01347/laws.FnExactLoadSaved", spec := "fnExactLoadSaved", unfollowed := true, recurses := true, apart := false }
def FnExactLoadSavedSaid : Prop := fnExactLoadSavedRow.holds Try.pinned (OpenSpec.ofChange fnExactLoadSavedSpec)

/-- ITS FALSE NEIGHBOUR: 'it returns false'. Refute it at one input. -/
def fnExactLoadSavedWrong : ChangeSpec := { name := "fnExactLoadSaved", fn := fun _ => fun
  | [d] => { results := [.lit (.bool false)], args := [d] }
  | _ => none }
def FnExactLoadSavedWrongFalsely : Prop := fnExactLoadSavedRow.holds Try.pinned (OpenSpec.ofChange fnExactLoadSavedWrong)

/-- 'laws.FnExactRecoverAll': WHATEVER THE INPUT: true; the input reads as it did. -/
def fnExactRecoverAllSpec : ChangeSpec := { name := "fnExactRecoverAll", fn := fun _ => fun
  | [d] => { results := [.lit (.bool true)], args := [d] }
  | _ => none }
def fnExactRecoverAllRow : OpenClaim := { program := "ytdpolaedfjljmaa", sum := "0deef45bc8421ec49165a477c4d6254eef3d975fd41b0778081e9d9db96fab40", func := "loop.example/g01347/laws.FnExactRecoverAll", spec := "fnExactRecoverAll", unfollowed := true, recurses := true, apart := false }
def FnExactRecoverAllSaid : Prop := fnExactRecoverAllRow.holds Try.pinned (OpenSpec.ofChange fnExactRecoverAllSpec)

/-- ITS FALSE NEIGHBOUR: 'it returns false'. Refute it at one input. -/
def fnExactRecoverAllWrong : ChangeSpec := { name := "fnExactRecoverAll", fn := fun _ => fun
  | [d] => { results := [.lit (.bool false)], args := [d] }
  | _ => none }
def FnExactRecoverAllWrongFalsely : Prop := fnExactRecoverAllRow.holds Try.pinned (OpenSpec.ofChange fnExactRecoverAllWrong)

/-- 'laws.FnStoredOfAll': WHATEVER THE INPUT: true; the input reads as it did. -/
def fnStoredOfAllSpec : ChangeSpec := { name := "fnStoredOfAll", fn := fun _ => fun
  | [d1, d2, d3] => { results := [.lit (.bool true)], args := [d1, d2, d3] }
  | _ => none }
def fnStoredOfAllRow : OpenClaim := { program := "ytdpolaedfjljmaa", sum := "0deef45bc8421ec49165a477c4d6254eef3d975fd41b0778081e9d9db96fab40", func := "loop.example/g01347/laws.FnStoredOfAll", spec := "fnStoredOfAll", unfollowed := true, recurses := true, apart := false }
def FnStoredOfAllSaid : Prop := fnStoredOfAllRow.holds Try.pinned (OpenSpec.ofChange fnStoredOfAllSpec)

/-- ITS FALSE NEIGHBOUR: 'it returns false'. Refute it at one input. -/
def fnStoredOfAllWrong : ChangeSpec := { name := "fnStoredOfAll", fn := fun _ => fun
  | [d1, d2, d3] => { results := [.lit (.bool false)], args := [d1, d2, d3] }
  | _ => none }
def FnStoredOfAllWrongFalsely : Prop := fnStoredOfAllRow.holds Try.pinned (OpenSpec.ofChange fnStoredOfAllWrong)

/-- 'laws.FnSavedFiles': WHATEVER THE INPUT: true; the input reads as it did. -/
def fnSavedFilesSpec : ChangeSpec := { name := "fnSavedFiles", fn := fun _ => fun
  | [d1, d2] => { results := [.lit (.bool true)], args := [d1, d2] }
  | _ => none }
def fnSavedFilesRow : OpenClaim := { program := "ytdpolaedfjljmaa", sum := "0deef45bc8421ec49165a477c4d6254eef3d975fd41b0778081e9d9db96fab40", func := "loop.example/g01347/laws.FnSavedFiles", spec := "fnSavedFiles", unfollowed := true, recurses := true, apart := false }
def FnSavedFilesSaid : Prop := fnSavedFilesRow.holds Try.pinned (OpenSpec.ofChange fnSavedFilesSpec)

/-- ITS FALSE NEIGHBOUR: 'it returns false'. Refute it at one input. -/
def fnSavedFilesWrong : ChangeSpec := { name := "fnSavedFiles", fn := fun _ => fun
  | [d1, d2] => { results := [.lit (.bool false)], args := [d1, d2] }
  | _ => none }
def FnSavedFilesWrongFalsely : Prop := fnSavedFilesRow.holds Try.pinned (OpenSpec.ofChange fnSavedFilesWrong)

/-- 'laws.FnExactJoinDecays': WHATEVER THE INPUT: true; the input reads as it did. -/
def fnExactJoinDecaysSpec : ChangeSpec := { name := "fnExactJoinDecays", fn := fun _ => fun
  | [d1, d2] => { results := [.lit (.bool true)], args := [d1, d2] }
  | _ => none }
def fnExactJoinDecaysRow : OpenClaim := { program := "ytdpolaedfjljmaa", sum := "0deef45bc8421ec49165a477c4d6254eef3d975fd41b0778081e9d9db96fab40", func := "loop.example/g01347/laws.FnExactJoinDecays", spec := "fnExactJoinDecays", inPlace := ["math.Float64frombits"], apart := false }
def FnExactJoinDecaysSaid : Prop := fnExactJoinDecaysRow.holds Try.pinned (OpenSpec.ofChange fnExactJoinDecaysSpec)

/-- ITS FALSE NEIGHBOUR: 'it returns false'. Refute it at one input. -/
def fnExactJoinDecaysWrong : ChangeSpec := { name := "fnExactJoinDecays", fn := fun _ => fun
  | [d1, d2] => { results := [.lit (.bool false)], args := [d1, d2] }
  | _ => none }
def FnExactJoinDecaysWrongFalsely : Prop := fnExactJoinDecaysRow.holds Try.pinned (OpenSpec.ofChange fnExactJoinDecaysWrong)

/-- 'laws.FnBanded': WHATEVER THE INPUT: true; the input reads as it did. -/
def fnBandedSpec : ChangeSpec := { name := "fnBanded", fn := fun _ => fun
  | [d1, d2] => { results := [.lit (.bool true)], args := [d1, d2] }
  | _ => none }
def fnBandedRow : OpenClaim := { program := "ytdpolaedfjljmaa", sum := "0deef45bc8421ec49165a477c4d6254eef3d975fd41b0778081e9d9db96fab40", func := "loop.example/g01347/laws.FnBanded", spec := "fnBanded", inPlace := ["math.sqrt"], unfollowed := true, recurses := true, apart := false }
def FnBandedSaid : Prop := fnBandedRow.holds Try.pinned (OpenSpec.ofChange fnBandedSpec)

/-- ITS FALSE NEIGHBOUR: 'it returns false'. Refute it at one input. -/
def fnBandedWrong : ChangeSpec := { name := "fnBanded", fn := fun _ => fun
  | [d1, d2] => { results := [.lit (.bool false)], args := [d1, d2] }
  | _ => none }
def FnBandedWrongFalsely : Prop := fnBandedRow.holds Try.pinned (OpenSpec.ofChange fnBandedWrong)

/-- 'laws.FnExactLineOf': WHATEVER THE INPUT: true; the input reads as it did. -/
def fnExactLineOfSpec : ChangeSpec := { name := "fnExactLineOf", fn := fun _ => fun
  | [d1, d2] => { results := [.lit (.bool true)], args := [d1, d2] }
  | _ => none }
def fnExactLineOfRow : OpenClaim := { program := "ytdpolaedfjljmaa", sum := "0deef45bc8421ec49165a477c4d6254eef3d975fd41b0778081e9d9db96fab40", func := "loop.example/g01347/laws.FnExactLineOf", spec := "fnExactLineOf", inPlace := ["math.Float32frombits", "math.Float64frombits", "math.Float64bits"], unfollowed := true, recurses := true, apart := false }
def FnExactLineOfSaid : Prop := fnExactLineOfRow.holds Try.pinned (OpenSpec.ofChange fnExactLineOfSpec)

/-- ITS FALSE NEIGHBOUR: 'it returns false'. Refute it at one input. -/
def fnExactLineOfWrong : ChangeSpec := { name := "fnExactLineOf", fn := fun _ => fun
  | [d1, d2] => { results := [.lit (.bool false)], args := [d1, d2] }
  | _ => none }
def FnExactLineOfWrongFalsely : Prop := fnExactLineOfRow.holds Try.pinned (OpenSpec.ofChange fnExactLineOfWrong)

/-- 'laws.FnExactLinesOf': WHATEVER THE INPUT: true; the input reads as it did. -/
def fnExactLinesOfSpec : ChangeSpec := { name := "fnExactLinesOf", fn := fun _ => fun
  | [d] => { results := [.lit (.bool true)], args := [d] }
  | _ => none }
def fnExactLinesOfRow : OpenClaim := { program := "ytdpolaedfjljmaa", sum := "0deef45bc8421ec49165a477c4d6254eef3d975fd41b0778081e9d9db96fab40", func := "loop.example/g01347/laws.FnExactLinesOf", spec := "fnExactLinesOf", inPlace := ["math.Float32frombits", "math.Float64frombits", "math.Float64bits"], unfollowed := true, recurses := true, apart := false }
def FnExactLinesOfSaid : Prop := fnExactLinesOfRow.holds Try.pinned (OpenSpec.ofChange fnExactLinesOfSpec)

/-- ITS FALSE NEIGHBOUR: 'it returns false'. Refute it at one input. -/
def fnExactLinesOfWrong : ChangeSpec := { name := "fnExactLinesOf", fn := fun _ => fun
  | [d] => { results := [.lit (.bool false)], args := [d] }
  | _ => none }
def FnExactLinesOfWrongFalsely : Prop := fnExactLinesOfRow.holds Try.pinned (OpenSpec.ofChange fnExactLinesOfWrong)

/- THE SECOND FORM. 'bulk': how many values and letters a reading holds, each counted each time it is reached (what is shared counts as often as it is met; a slice's spare places count too). A statement '..UptoSaid' is the law's where the arguments, and the package variables that the reading takes, are together of bulk at most 1048576: NARROWER than '..Said'. Prove '..Said' where nothing that the law and all that it calls make is longer than what came in: it says more and counts as full. Else prove '..UptoSaid'. A law counts once. -/
mutual
def uptoBulk {H : Type} : DataW H → Nat
  | .lit (.string bytes) => bytes.length + 1
  | .lit _ => 1
  | .nil => 1
  | .ptr d => uptoBulk d + 1
  | .slice elems spare => uptoBulkAll elems + uptoBulkAll spare + 1
  | .agg parts => uptoBulkAll parts + 1
  | .iface _ d => uptoBulk d + 1
  | .map entries => uptoBulkEntries entries + 1
  | .held _ => 1
def uptoBulkAll {H : Type} : List (DataW H) → Nat
  | [] => 0
  | d :: r => uptoBulk d + uptoBulkAll r
def uptoBulkEntries {H : Type} : List (Lit × DataW H) → Nat
  | [] => 0
  | x :: r => uptoBulkEntry x + uptoBulkEntries r
def uptoBulkEntry {H : Type} : Lit × DataW H → Nat
  | (.string bytes, d) => bytes.length + uptoBulk d + 1
  | (_, d) => uptoBulk d + 1
 end
def uptoSmall : (H : Type) → List (DataW H) → Bool := fun _ ds => decide (uptoBulkAll ds ≤ 1048576)
def OpenSpec.upto (s : _root_.Go.ChangeSpec) : _root_.Go.OpenSpec := { _root_.Go.OpenSpec.ofChange s with cond := some uptoSmall }

/-- 'laws.FnExactLoadSaved', WHERE WHAT IT READS IS OF BULK AT MOST 1048576: true; the input reads as it did. -/
def fnExactLoadSavedUptoRow : OpenClaim := { program := "ytdpolaedfjljmaa", sum := "0deef45bc8421ec49165a477c4d6254eef3d975fd41b0778081e9d9db96fab40", func := "loop.example/g01347/laws.FnExactLoadSaved", spec := "fnExactLoadSaved", unfollowed := true, recurses := true, apart := false, narrowed := true }
def FnExactLoadSavedUptoSaid : Prop := fnExactLoadSavedUptoRow.holds Try.pinned (OpenSpec.upto fnExactLoadSavedSpec)

/-- 'laws.FnExactRecoverAll', WHERE WHAT IT READS IS OF BULK AT MOST 1048576: true; the input reads as it did. -/
def fnExactRecoverAllUptoRow : OpenClaim := { program := "ytdpolaedfjljmaa", sum := "0deef45bc8421ec49165a477c4d6254eef3d975fd41b0778081e9d9db96fab40", func := "loop.example/g01347/laws.FnExactRecoverAll", spec := "fnExactRecoverAll", unfollowed := true, recurses := true, apart := false, narrowed := true }
def FnExactRecoverAllUptoSaid : Prop := fnExactRecoverAllUptoRow.holds Try.pinned (OpenSpec.upto fnExactRecoverAllSpec)

/-- 'laws.FnStoredOfAll', WHERE WHAT IT READS IS OF BULK AT MOST 1048576: true; the input reads as it did. -/
def fnStoredOfAllUptoRow : OpenClaim := { program := "ytdpolaedfjljmaa", sum := "0deef45bc8421ec49165a477c4d6254eef3d975fd41b0778081e9d9db96fab40", func := "loop.example/g01347/laws.FnStoredOfAll", spec := "fnStoredOfAll", unfollowed := true, recurses := true, apart := false, narrowed := true }
def FnStoredOfAllUptoSaid : Prop := fnStoredOfAllUptoRow.holds Try.pinned (OpenSpec.upto fnStoredOfAllSpec)

/-- 'laws.FnSavedFiles', WHERE WHAT IT READS IS OF BULK AT MOST 1048576: true; the input reads as it did. -/
def fnSavedFilesUptoRow : OpenClaim := { program := "ytdpolaedfjljmaa", sum := "0deef45bc8421ec49165a477c4d6254eef3d975fd41b0778081e9d9db96fab40", func := "loop.example/g01347/laws.FnSavedFiles", spec := "fnSavedFiles", unfollowed := true, recurses := true, apart := false, narrowed := true }
def FnSavedFilesUptoSaid : Prop := fnSavedFilesUptoRow.holds Try.pinned (OpenSpec.upto fnSavedFilesSpec)

/-- 'laws.FnExactJoinDecays', WHERE WHAT IT READS IS OF BULK AT MOST 1048576: true; the input reads as it did. -/
def fnExactJoinDecaysUptoRow : OpenClaim := { program := "ytdpolaedfjljmaa", sum := "0deef45bc8421ec49165a477c4d6254eef3d975fd41b0778081e9d9db96fab40", func := "loop.example/g01347/laws.FnExactJoinDecays", spec := "fnExactJoinDecays", inPlace := ["math.Float64frombits"], apart := false, narrowed := true }
def FnExactJoinDecaysUptoSaid : Prop := fnExactJoinDecaysUptoRow.holds Try.pinned (OpenSpec.upto fnExactJoinDecaysSpec)

/-- 'laws.FnBanded', WHERE WHAT IT READS IS OF BULK AT MOST 1048576: true; the input reads as it did. -/
def fnBandedUptoRow : OpenClaim := { program := "ytdpolaedfjljmaa", sum := "0deef45bc8421ec49165a477c4d6254eef3d975fd41b0778081e9d9db96fab40", func := "loop.example/g01347/laws.FnBanded", spec := "fnBanded", inPlace := ["math.sqrt"], unfollowed := true, recurses := true, apart := false, narrowed := true }
def FnBandedUptoSaid : Prop := fnBandedUptoRow.holds Try.pinned (OpenSpec.upto fnBandedSpec)

/-- 'laws.FnExactLineOf', WHERE WHAT IT READS IS OF BULK AT MOST 1048576: true; the input reads as it did. -/
def fnExactLineOfUptoRow : OpenClaim := { program := "ytdpolaedfjljmaa", sum := "0deef45bc8421ec49165a477c4d6254eef3d975fd41b0778081e9d9db96fab40", func := "loop.example/g01347/laws.FnExactLineOf", spec := "fnExactLineOf", inPlace := ["math.Float32frombits", "math.Float64frombits", "math.Float64bits"], unfollowed := true, recurses := true, apart := false, narrowed := true }
def FnExactLineOfUptoSaid : Prop := fnExactLineOfUptoRow.holds Try.pinned (OpenSpec.upto fnExactLineOfSpec)

/-- 'laws.FnExactLinesOf', WHERE WHAT IT READS IS OF BULK AT MOST 1048576: true; the input reads as it did. -/
def fnExactLinesOfUptoRow : OpenClaim := { program := "ytdpolaedfjljmaa", sum := "0deef45bc8421ec49165a477c4d6254eef3d975fd41b0778081e9d9db96fab40", func := "loop.example/g01347/laws.FnExactLinesOf", spec := "fnExactLinesOf", inPlace := ["math.Float32frombits", "math.Float64frombits", "math.Float64bits"], unfollowed := true, recurses := true, apart := false, narrowed := true }
def FnExactLinesOfUptoSaid : Prop := fnExactLinesOfUptoRow.holds Try.pinned (OpenSpec.upto fnExactLinesOfSpec)

end Rows
end Go.Proofs.Ytdpolaedfjljmaa
