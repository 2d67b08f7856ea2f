/-
  DERIVED. GIVEN WITH THE SEED: THE CARDS: each row of YtlngkiipgkociaaGreatDoorRows.lean that lists a variable, with what it lists TIED to the program's text (the seventh form; the later family's looks); each row that meets fmt, with fmt's text TOLD by the authors' own Lean function (tested against real Go, not proved from fmt's source: count such statements apart). THE CARD IS WHAT COUNTS. Prove the row's statement (the work); the ties are given (YtlngkiipgkociaaGreatDoorTie.lean); close each card by the builder's one call (the guide's Derived/Test/ToyasCard.lean, 'card_holds'). Laid BY PROGRAM, IN A SANDBOX (cutbox-door.mjs). By AI agents, Wed Nov 11 2026. No macro, syntax, notation, axiom, sorry.
-/
import Derived.Test.YtlngkiipgkociaaGreatDoorRows
import GoSem.ClaimSeven
namespace Go.Proofs.YtlngkiipgkociaaGreatDoor
namespace Rows

/-- THE TIED CARD OF 'cantuslaw2.PitchTexts'. -/
def pitchTextsCard : Claim7 := { stood := { row := pitchTextsRow, standIns := [], harness := (true, "b69006a26692f9f33d348f9d41a7a4dc63873b89b28748035a08527934731614"), looks := true }, kinds := [], alts := [], laidByText := true, laidKinds := [.data, .data, .data, .data, .sentinel, .sentinel, .pinned], laidTests := true, laidLooks := .later }
def PitchTextsCardSaid : Prop := Claim7.holds Tryz.pinned (.plain (OpenSpec.ofChange pitchTextsSpec)) pitchTextsCard

/-- THE SECOND FORM's CARD OF 'cantuslaw2.PitchTexts'. -/
def pitchTextsUptoCard : Claim7 := { stood := { row := pitchTextsUptoRow, standIns := [], harness := (true, "b69006a26692f9f33d348f9d41a7a4dc63873b89b28748035a08527934731614"), looks := true }, kinds := [], alts := [], laidByText := true, laidKinds := [.data, .data, .data, .data, .sentinel, .sentinel, .pinned], laidTests := true, laidLooks := .later }
def PitchTextsUptoCardSaid : Prop := Claim7.holds Tryz.pinned (.plain (OpenSpec.upto pitchTextsSpec)) pitchTextsUptoCard
end Rows
end Go.Proofs.YtlngkiipgkociaaGreatDoor
