/-
  DERIVED. GIVEN WITH THE SEED: THE CARDS: each row of YtncbkbfkdgggkaaDoorRows.lean that lists a variable, with what it lists TIED to the program's text (the seventh form; the later family's looks); each row that meets fmt, with fmt's text TOLD by the authors' own Lean function (tested against real Go, not proved from fmt's source: count such statements apart). THE CARD IS WHAT COUNTS. Prove the row's statement (the work); the ties are given (YtncbkbfkdgggkaaDoorTie.lean); close each card by the builder's one call (the guide's Derived/Test/ToyasCard.lean, 'card_holds'). Laid BY PROGRAM, IN A SANDBOX (cutbox-door.mjs). By AI agents, Wed Nov 11 2026. No macro, syntax, notation, axiom, sorry.
-/
import Derived.Test.YtncbkbfkdgggkaaDoorRows
import GoSem.ClaimSeven
namespace Go.Proofs.YtncbkbfkdgggkaaDoor
namespace Rows

/-- THE TIED CARD OF 'laws.FnPicks'. -/
def fnPicksCard : Claim7 := { stood := { row := fnPicksRow, standIns := [], harness := (true, "fbd203e1e2c8a9daf7c6f26d17f80f45a849ee44de931eb96ba5954a8cffa059"), looks := false }, kinds := [], alts := [], laidByText := true, laidKinds := [.data], laidTests := true, laidLooks := .later }
def FnPicksCardSaid : Prop := Claim7.holds Tryd.pinned (.plain (OpenSpec.ofChange fnPicksSpec)) fnPicksCard

/-- THE SECOND FORM's CARD OF 'laws.FnPicks'. -/
def fnPicksUptoCard : Claim7 := { stood := { row := fnPicksUptoRow, standIns := [], harness := (true, "fbd203e1e2c8a9daf7c6f26d17f80f45a849ee44de931eb96ba5954a8cffa059"), looks := false }, kinds := [], alts := [], laidByText := true, laidKinds := [.data], laidTests := true, laidLooks := .later }
def FnPicksUptoCardSaid : Prop := Claim7.holds Tryd.pinned (.plain (OpenSpec.upto fnPicksSpec)) fnPicksUptoCard
end Rows
end Go.Proofs.YtncbkbfkdgggkaaDoor
