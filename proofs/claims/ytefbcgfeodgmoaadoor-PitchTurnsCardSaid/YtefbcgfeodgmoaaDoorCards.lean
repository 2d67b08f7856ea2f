/-
  DERIVED. GIVEN WITH THE SEED: THE CARDS: each row of YtefbcgfeodgmoaaDoorRows.lean that lists a variable, with what it lists TIED to the program's text (the seventh form; the later family's looks); each row that meets fmt, with fmt's text TOLD by the authors' own Lean function (tested against real Go, not proved from fmt's source: count such statements apart). THE CARD IS WHAT COUNTS. Prove the row's statement (the work); the ties are given (YtefbcgfeodgmoaaDoorTie.lean); close each card by the builder's one call (the guide's Derived/Test/ToyasCard.lean, 'card_holds'). Laid BY PROGRAM, IN A SANDBOX (cutbox-door.mjs). By AI agents, Wed Nov 11 2026. No macro, syntax, notation, axiom, sorry.
-/
import Derived.Test.YtefbcgfeodgmoaaDoorRows
import GoSem.ClaimSeven
namespace Go.Proofs.YtefbcgfeodgmoaaDoor
namespace Rows

/-- THE TIED CARD OF 'cantuslaw2.PitchTurns'. -/
def pitchTurnsCard : Claim7 := { stood := { row := pitchTurnsRow, standIns := [], harness := (true, "6e081b77c693b186269ec64e49b7948918b5f4bd03cfe76421aa0e933e5fcc5c"), looks := true }, kinds := [], alts := [], laidByText := true, laidKinds := [.data, .data, .data, .data, .sentinel, .sentinel, .pinned], laidTests := true, laidLooks := .later }
def PitchTurnsCardSaid : Prop := Claim7.holds Tryd.pinned (.plain (OpenSpec.ofChange pitchTurnsSpec)) pitchTurnsCard

/-- THE SECOND FORM's CARD OF 'cantuslaw2.PitchTurns'. -/
def pitchTurnsUptoCard : Claim7 := { stood := { row := pitchTurnsUptoRow, standIns := [], harness := (true, "6e081b77c693b186269ec64e49b7948918b5f4bd03cfe76421aa0e933e5fcc5c"), looks := true }, kinds := [], alts := [], laidByText := true, laidKinds := [.data, .data, .data, .data, .sentinel, .sentinel, .pinned], laidTests := true, laidLooks := .later }
def PitchTurnsUptoCardSaid : Prop := Claim7.holds Tryd.pinned (.plain (OpenSpec.upto pitchTurnsSpec)) pitchTurnsUptoCard
end Rows
end Go.Proofs.YtefbcgfeodgmoaaDoor
