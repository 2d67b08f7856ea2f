/-
  DERIVED. GIVEN WITH THE SEED: THE CARDS: each row of YtmlnilkbolcknaaGreatDoorRows.lean that lists a variable, with what it lists TIED to the program's text (the seventh form; the later family's looks); each row that meets fmt, with fmt's text TOLD by the authors' own Lean function (tested against real Go, not proved from fmt's source: count such statements apart). THE CARD IS WHAT COUNTS. Prove the row's statement (the work); the ties are given (YtmlnilkbolcknaaGreatDoorTie.lean); close each card by the builder's one call (the guide's Derived/Test/ToyasCard.lean, 'card_holds'). Laid BY PROGRAM, IN A SANDBOX (cutbox-door.mjs). By AI agents, Wed Nov 11 2026. No macro, syntax, notation, axiom, sorry.
-/
import Derived.Test.YtmlnilkbolcknaaGreatDoorRows
import GoSem.ClaimSeven
namespace Go.Proofs.YtmlnilkbolcknaaGreatDoor
namespace Rows

/-- THE TIED CARD OF 'cantuslaw6.ScoreNotes'. -/
def scoreNotesCard : Claim7 := { stood := { row := scoreNotesRow, standIns := [], harness := (true, "cbcabe3ec1a824d6aaaaf0ce77f0e4770ea1c499531960a14bf5e6bfd5c0c93b"), looks := true }, kinds := [], alts := [], laidByText := true, laidKinds := [.data, .data, .data, .data, .pinned], laidTests := true, laidLooks := .later }
def ScoreNotesCardSaid : Prop := Claim7.holds Tryz.pinned (.plain (OpenSpec.ofChange scoreNotesSpec)) scoreNotesCard

/-- THE TIED CARD OF 'cantuslaw6.ScoreReads'. -/
def scoreReadsCard : Claim7 := { stood := { row := scoreReadsRow, standIns := [], harness := (true, "cbcabe3ec1a824d6aaaaf0ce77f0e4770ea1c499531960a14bf5e6bfd5c0c93b"), looks := true }, kinds := [], alts := [], laidByText := true, laidKinds := [.data, .data, .data, .data, .sentinel, .sentinel, .pinned], laidTests := true, laidLooks := .later }
def ScoreReadsCardSaid : Prop := Claim7.holds Tryz.pinned (.plain (OpenSpec.ofChange scoreReadsSpec)) scoreReadsCard

/-- THE TIED CARD OF 'cantuslaw6.ScoreTurns'. -/
def scoreTurnsCard : Claim7 := { stood := { row := scoreTurnsRow, standIns := [], harness := (true, "cbcabe3ec1a824d6aaaaf0ce77f0e4770ea1c499531960a14bf5e6bfd5c0c93b"), looks := true }, kinds := [], alts := [], laidByText := true, laidKinds := [.data, .data, .data, .data, .sentinel, .sentinel, .pinned], laidTests := true, laidLooks := .later }
def ScoreTurnsCardSaid : Prop := Claim7.holds Tryz.pinned (.plain (OpenSpec.ofChange scoreTurnsSpec)) scoreTurnsCard

/-- THE TIED CARD OF 'cantuslaw6.ScoreMoved'. -/
def scoreMovedCard : Claim7 := { stood := { row := scoreMovedRow, standIns := [], harness := (true, "cbcabe3ec1a824d6aaaaf0ce77f0e4770ea1c499531960a14bf5e6bfd5c0c93b"), looks := true }, kinds := [], alts := [], laidByText := true, laidKinds := [.data, .data, .data, .data, .sentinel, .sentinel, .pinned], laidTests := true, laidLooks := .later }
def ScoreMovedCardSaid : Prop := Claim7.holds Tryz.pinned (.plain (OpenSpec.ofChange scoreMovedSpec)) scoreMovedCard

/-- THE TIED CARD OF 'cantuslaw6.ScoreBars'. -/
def scoreBarsCard : Claim7 := { stood := { row := scoreBarsRow, standIns := [], harness := (true, "cbcabe3ec1a824d6aaaaf0ce77f0e4770ea1c499531960a14bf5e6bfd5c0c93b"), looks := true }, kinds := [], alts := [], laidByText := true, laidKinds := [.data, .data, .data, .data, .sentinel, .sentinel, .pinned], laidTests := true, laidLooks := .later }
def ScoreBarsCardSaid : Prop := Claim7.holds Tryz.pinned (.plain (OpenSpec.ofChange scoreBarsSpec)) scoreBarsCard

/-- THE SECOND FORM's CARD OF 'cantuslaw6.ScoreNotes'. -/
def scoreNotesUptoCard : Claim7 := { stood := { row := scoreNotesUptoRow, standIns := [], harness := (true, "cbcabe3ec1a824d6aaaaf0ce77f0e4770ea1c499531960a14bf5e6bfd5c0c93b"), looks := true }, kinds := [], alts := [], laidByText := true, laidKinds := [.data, .data, .data, .data, .pinned], laidTests := true, laidLooks := .later }
def ScoreNotesUptoCardSaid : Prop := Claim7.holds Tryz.pinned (.plain (OpenSpec.upto scoreNotesSpec)) scoreNotesUptoCard

/-- THE SECOND FORM's CARD OF 'cantuslaw6.ScoreReads'. -/
def scoreReadsUptoCard : Claim7 := { stood := { row := scoreReadsUptoRow, standIns := [], harness := (true, "cbcabe3ec1a824d6aaaaf0ce77f0e4770ea1c499531960a14bf5e6bfd5c0c93b"), looks := true }, kinds := [], alts := [], laidByText := true, laidKinds := [.data, .data, .data, .data, .sentinel, .sentinel, .pinned], laidTests := true, laidLooks := .later }
def ScoreReadsUptoCardSaid : Prop := Claim7.holds Tryz.pinned (.plain (OpenSpec.upto scoreReadsSpec)) scoreReadsUptoCard

/-- THE SECOND FORM's CARD OF 'cantuslaw6.ScoreTurns'. -/
def scoreTurnsUptoCard : Claim7 := { stood := { row := scoreTurnsUptoRow, standIns := [], harness := (true, "cbcabe3ec1a824d6aaaaf0ce77f0e4770ea1c499531960a14bf5e6bfd5c0c93b"), looks := true }, kinds := [], alts := [], laidByText := true, laidKinds := [.data, .data, .data, .data, .sentinel, .sentinel, .pinned], laidTests := true, laidLooks := .later }
def ScoreTurnsUptoCardSaid : Prop := Claim7.holds Tryz.pinned (.plain (OpenSpec.upto scoreTurnsSpec)) scoreTurnsUptoCard

/-- THE SECOND FORM's CARD OF 'cantuslaw6.ScoreMoved'. -/
def scoreMovedUptoCard : Claim7 := { stood := { row := scoreMovedUptoRow, standIns := [], harness := (true, "cbcabe3ec1a824d6aaaaf0ce77f0e4770ea1c499531960a14bf5e6bfd5c0c93b"), looks := true }, kinds := [], alts := [], laidByText := true, laidKinds := [.data, .data, .data, .data, .sentinel, .sentinel, .pinned], laidTests := true, laidLooks := .later }
def ScoreMovedUptoCardSaid : Prop := Claim7.holds Tryz.pinned (.plain (OpenSpec.upto scoreMovedSpec)) scoreMovedUptoCard

/-- THE SECOND FORM's CARD OF 'cantuslaw6.ScoreBars'. -/
def scoreBarsUptoCard : Claim7 := { stood := { row := scoreBarsUptoRow, standIns := [], harness := (true, "cbcabe3ec1a824d6aaaaf0ce77f0e4770ea1c499531960a14bf5e6bfd5c0c93b"), looks := true }, kinds := [], alts := [], laidByText := true, laidKinds := [.data, .data, .data, .data, .sentinel, .sentinel, .pinned], laidTests := true, laidLooks := .later }
def ScoreBarsUptoCardSaid : Prop := Claim7.holds Tryz.pinned (.plain (OpenSpec.upto scoreBarsSpec)) scoreBarsUptoCard
end Rows
end Go.Proofs.YtmlnilkbolcknaaGreatDoor
