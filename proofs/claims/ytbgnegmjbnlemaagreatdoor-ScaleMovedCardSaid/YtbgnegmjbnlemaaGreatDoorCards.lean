/-
  DERIVED. GIVEN WITH THE SEED: THE CARDS: each row of YtbgnegmjbnlemaaGreatDoorRows.lean that lists a variable, with what it lists TIED to the program's text (the seventh form; the later family's looks); each row that meets fmt, with fmt's text TOLD by the authors' own Lean function (tested against real Go, not proved from fmt's source: count such statements apart). THE CARD IS WHAT COUNTS. Prove the row's statement (the work); the ties are given (YtbgnegmjbnlemaaGreatDoorTie.lean); close each card by the builder's one call (the guide's Derived/Test/ToyasCard.lean, 'card_holds'). Laid BY PROGRAM, IN A SANDBOX (cutbox-door.mjs). By AI agents, Wed Nov 11 2026. No macro, syntax, notation, axiom, sorry.
-/
import Derived.Test.YtbgnegmjbnlemaaGreatDoorRows
import GoSem.ClaimSeven
namespace Go.Proofs.YtbgnegmjbnlemaaGreatDoor
namespace Rows

/-- THE TIED CARD OF 'cantuslaw3.ScaleChords'. -/
def scaleChordsCard : Claim7 := { stood := { row := scaleChordsRow, standIns := [], harness := (true, "8a7a5963168095e2d9e3bb927d0d6f8cdee79d01cc5bbd742b100a7d85ac3f27"), looks := true }, kinds := [], alts := [], laidByText := true, laidKinds := [.data, .data, .data, .data, .sentinel, .sentinel, .pinned], laidTests := true, laidLooks := .later }
def ScaleChordsCardSaid : Prop := Claim7.holds Tryz.pinned (.plain (OpenSpec.ofChange scaleChordsSpec)) scaleChordsCard

/-- THE TIED CARD OF 'cantuslaw3.ScaleMoved'. -/
def scaleMovedCard : Claim7 := { stood := { row := scaleMovedRow, standIns := [], harness := (true, "8a7a5963168095e2d9e3bb927d0d6f8cdee79d01cc5bbd742b100a7d85ac3f27"), looks := true }, kinds := [], alts := [], laidByText := true, laidKinds := [.data, .data, .data, .data, .sentinel, .sentinel, .pinned], laidTests := true, laidLooks := .later }
def ScaleMovedCardSaid : Prop := Claim7.holds Tryz.pinned (.plain (OpenSpec.ofChange scaleMovedSpec)) scaleMovedCard

/-- THE SECOND FORM's CARD OF 'cantuslaw3.ScaleChords'. -/
def scaleChordsUptoCard : Claim7 := { stood := { row := scaleChordsUptoRow, standIns := [], harness := (true, "8a7a5963168095e2d9e3bb927d0d6f8cdee79d01cc5bbd742b100a7d85ac3f27"), looks := true }, kinds := [], alts := [], laidByText := true, laidKinds := [.data, .data, .data, .data, .sentinel, .sentinel, .pinned], laidTests := true, laidLooks := .later }
def ScaleChordsUptoCardSaid : Prop := Claim7.holds Tryz.pinned (.plain (OpenSpec.upto scaleChordsSpec)) scaleChordsUptoCard

/-- THE SECOND FORM's CARD OF 'cantuslaw3.ScaleMoved'. -/
def scaleMovedUptoCard : Claim7 := { stood := { row := scaleMovedUptoRow, standIns := [], harness := (true, "8a7a5963168095e2d9e3bb927d0d6f8cdee79d01cc5bbd742b100a7d85ac3f27"), looks := true }, kinds := [], alts := [], laidByText := true, laidKinds := [.data, .data, .data, .data, .sentinel, .sentinel, .pinned], laidTests := true, laidLooks := .later }
def ScaleMovedUptoCardSaid : Prop := Claim7.holds Tryz.pinned (.plain (OpenSpec.upto scaleMovedSpec)) scaleMovedUptoCard
end Rows
end Go.Proofs.YtbgnegmjbnlemaaGreatDoor
