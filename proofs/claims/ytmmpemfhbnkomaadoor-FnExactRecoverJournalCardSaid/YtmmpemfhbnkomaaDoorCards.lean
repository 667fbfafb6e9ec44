/-
  DERIVED. GIVEN WITH THE SEED: THE CARDS: each row of YtmmpemfhbnkomaaDoorRows.lean that lists a variable, with what it lists TIED to the program's text (the seventh form; the later family's looks); each row that meets fmt, with fmt's text TOLD by the authors' own Lean function (tested against real Go, not proved from fmt's source: count such statements apart). THE CARD IS WHAT COUNTS. Prove the row's statement (the work); the ties are given (YtmmpemfhbnkomaaDoorTie.lean); close each card by the builder's one call (the guide's Derived/Test/ToyasCard.lean, 'card_holds'). Laid BY PROGRAM, IN A SANDBOX (cutbox-door.mjs). By AI agents, Wed Nov 11 2026. No macro, syntax, notation, axiom, sorry.
-/
import Derived.Test.YtmmpemfhbnkomaaDoorRows
import GoSem.ClaimSeven
namespace Go.Proofs.YtmmpemfhbnkomaaDoor
namespace Rows

/-- THE TIED CARD OF 'laws.FnExactRecoverJournal'. -/
def fnExactRecoverJournalCard : Claim7 := { stood := { row := fnExactRecoverJournalRow, standIns := [], harness := (true, "7f94dfcf7d084288cd69663122cbc52726fcb7689cc93c8a33d7351cda327174"), looks := true }, kinds := [], alts := [], laidByText := true, laidKinds := [.data, .data, .data], laidTests := true, laidLooks := .later }
def FnExactRecoverJournalCardSaid : Prop := Claim7.holds Tryd.pinned (.plain (OpenSpec.ofChange fnExactRecoverJournalSpec)) fnExactRecoverJournalCard

/-- THE TIED CARD OF 'laws.FnExactReadSieve'. -/
def fnExactReadSieveCard : Claim7 := { stood := { row := fnExactReadSieveRow, standIns := [], harness := (true, "7f94dfcf7d084288cd69663122cbc52726fcb7689cc93c8a33d7351cda327174"), looks := true }, kinds := [], alts := [], laidByText := true, laidKinds := [.data, .data, .data, .data, .sentinel, .sentinel, .pinned], laidTests := true, laidLooks := .later }
def FnExactReadSieveCardSaid : Prop := Claim7.holds Tryd.pinned (.plain (OpenSpec.ofChange fnExactReadSieveSpec)) fnExactReadSieveCard

/-- THE TIED CARD OF 'laws.FnExactReadZeros'. -/
def fnExactReadZerosCard : Claim7 := { stood := { row := fnExactReadZerosRow, standIns := [], harness := (true, "7f94dfcf7d084288cd69663122cbc52726fcb7689cc93c8a33d7351cda327174"), looks := true }, kinds := [], alts := [], laidByText := true, laidKinds := [.data, .data, .data, .data, .sentinel, .sentinel, .pinned], laidTests := true, laidLooks := .later }
def FnExactReadZerosCardSaid : Prop := Claim7.holds Tryd.pinned (.plain (OpenSpec.ofChange fnExactReadZerosSpec)) fnExactReadZerosCard

/-- THE TIED CARD OF 'laws.FnExactReadWindow'. -/
def fnExactReadWindowCard : Claim7 := { stood := { row := fnExactReadWindowRow, standIns := [], harness := (true, "7f94dfcf7d084288cd69663122cbc52726fcb7689cc93c8a33d7351cda327174"), looks := true }, kinds := [], alts := [], laidByText := true, laidKinds := [.data, .data, .data, .data, .sentinel, .sentinel, .pinned], laidTests := true, laidLooks := .later }
def FnExactReadWindowCardSaid : Prop := Claim7.holds Tryd.pinned (.plain (OpenSpec.ofChange fnExactReadWindowSpec)) fnExactReadWindowCard

/-- THE SECOND FORM's CARD OF 'laws.FnExactRecoverJournal'. -/
def fnExactRecoverJournalUptoCard : Claim7 := { stood := { row := fnExactRecoverJournalUptoRow, standIns := [], harness := (true, "7f94dfcf7d084288cd69663122cbc52726fcb7689cc93c8a33d7351cda327174"), looks := true }, kinds := [], alts := [], laidByText := true, laidKinds := [.data, .data, .data], laidTests := true, laidLooks := .later }
def FnExactRecoverJournalUptoCardSaid : Prop := Claim7.holds Tryd.pinned (.plain (OpenSpec.upto fnExactRecoverJournalSpec)) fnExactRecoverJournalUptoCard

/-- THE SECOND FORM's CARD OF 'laws.FnExactReadSieve'. -/
def fnExactReadSieveUptoCard : Claim7 := { stood := { row := fnExactReadSieveUptoRow, standIns := [], harness := (true, "7f94dfcf7d084288cd69663122cbc52726fcb7689cc93c8a33d7351cda327174"), looks := true }, kinds := [], alts := [], laidByText := true, laidKinds := [.data, .data, .data, .data, .sentinel, .sentinel, .pinned], laidTests := true, laidLooks := .later }
def FnExactReadSieveUptoCardSaid : Prop := Claim7.holds Tryd.pinned (.plain (OpenSpec.upto fnExactReadSieveSpec)) fnExactReadSieveUptoCard

/-- THE SECOND FORM's CARD OF 'laws.FnExactReadZeros'. -/
def fnExactReadZerosUptoCard : Claim7 := { stood := { row := fnExactReadZerosUptoRow, standIns := [], harness := (true, "7f94dfcf7d084288cd69663122cbc52726fcb7689cc93c8a33d7351cda327174"), looks := true }, kinds := [], alts := [], laidByText := true, laidKinds := [.data, .data, .data, .data, .sentinel, .sentinel, .pinned], laidTests := true, laidLooks := .later }
def FnExactReadZerosUptoCardSaid : Prop := Claim7.holds Tryd.pinned (.plain (OpenSpec.upto fnExactReadZerosSpec)) fnExactReadZerosUptoCard

/-- THE SECOND FORM's CARD OF 'laws.FnExactReadWindow'. -/
def fnExactReadWindowUptoCard : Claim7 := { stood := { row := fnExactReadWindowUptoRow, standIns := [], harness := (true, "7f94dfcf7d084288cd69663122cbc52726fcb7689cc93c8a33d7351cda327174"), looks := true }, kinds := [], alts := [], laidByText := true, laidKinds := [.data, .data, .data, .data, .sentinel, .sentinel, .pinned], laidTests := true, laidLooks := .later }
def FnExactReadWindowUptoCardSaid : Prop := Claim7.holds Tryd.pinned (.plain (OpenSpec.upto fnExactReadWindowSpec)) fnExactReadWindowUptoCard
end Rows
end Go.Proofs.YtmmpemfhbnkomaaDoor
