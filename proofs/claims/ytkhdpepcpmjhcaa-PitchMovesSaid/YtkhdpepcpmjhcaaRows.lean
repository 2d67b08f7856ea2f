/-
  No cell of these rows narrows 'for every input' (looked for: loops, veiled, ifaces, maps, wideKeys, modest, calm, conditions, laid).
  DERIVED. THE GIVEN ROWS OF THIS SEAT. 3 by the template 'for every input the law returns true; each argument reads behind the call as it read before'; 0 by the template 'total and deterministic' (their statements: YtkhdpepcpmjhcaaTotals.lean).
  GIVEN WITH THE SEED: the statements are not yours to turn. If you find one false, say at which input.
  Laid BY PROGRAM, IN A SANDBOX (cutbox-rows.mjs): the forced cells as the released guide's own fill.sh prints them over the translation e1ff7a6caead4b1a… (all of the seat's roots in one cut). By AI agents, Wed Nov 11 2026. No macro, syntax, notation, axiom, sorry.
-/
import Derived.Test.YtkhdpepcpmjhcaaChecked
import GoSem.Claim
import GoSem.ClaimJoined
import GoSem.ClaimMapViews
import Derived.JoinedTies
import Derived.KernelRfl
namespace Go.Proofs.Ytkhdpepcpmjhcaa
/- THE CELL 'sum', in the pinned program and in every row, IS THE sha256 OF THE DUMP (.gsa) THAT YtkhdpepcpmjhcaaProg.lean LOADS. Nothing in Lean hashes anything: it is a label: what it is worth is what the hold of that sum in a sandbox is worth. -/
noncomputable def Try.pinned : Pinned := { name := "ytkhdpepcpmjhcaa", sum := "e1ff7a6caead4b1aefcd288b4b748cc79f5823816ae5060d3b063787d2612211", checked := Try.checked }
namespace Rows
def none {H : Type} : Left H := { results := [], args := [] }

/-- 'cantuslaw2.PitchMirror': WHATEVER THE INPUT: true; the input reads as it did. -/
def pitchMirrorSpec : ChangeSpec := { name := "pitchMirror", fn := fun _ => fun
  | [d1, d2, d3, d4] => { results := [.lit (.bool true)], args := [d1, d2, d3, d4] }
  | _ => none }
def pitchMirrorRow : OpenClaim := { program := "ytkhdpepcpmjhcaa", sum := "e1ff7a6caead4b1aefcd288b4b748cc79f5823816ae5060d3b063787d2612211", func := "cantus/cantuslaw2.PitchMirror", spec := "pitchMirror", apart := false }
def PitchMirrorSaid : Prop := pitchMirrorRow.holds Try.pinned (OpenSpec.ofChange pitchMirrorSpec)

/-- ITS FALSE NEIGHBOUR: 'it returns false'. Refute it at one input. -/
def pitchMirrorWrong : ChangeSpec := { name := "pitchMirror", fn := fun _ => fun
  | [d1, d2, d3, d4] => { results := [.lit (.bool false)], args := [d1, d2, d3, d4] }
  | _ => none }
def PitchMirrorWrongFalsely : Prop := pitchMirrorRow.holds Try.pinned (OpenSpec.ofChange pitchMirrorWrong)

/-- 'cantuslaw2.PitchTorsor': WHATEVER THE INPUT: true; the input reads as it did. -/
def pitchTorsorSpec : ChangeSpec := { name := "pitchTorsor", fn := fun _ => fun
  | [d1, d2, d3, d4, d5] => { results := [.lit (.bool true)], args := [d1, d2, d3, d4, d5] }
  | _ => none }
def pitchTorsorRow : OpenClaim := { program := "ytkhdpepcpmjhcaa", sum := "e1ff7a6caead4b1aefcd288b4b748cc79f5823816ae5060d3b063787d2612211", func := "cantus/cantuslaw2.PitchTorsor", spec := "pitchTorsor", apart := false }
def PitchTorsorSaid : Prop := pitchTorsorRow.holds Try.pinned (OpenSpec.ofChange pitchTorsorSpec)

/-- ITS FALSE NEIGHBOUR: 'it returns false'. Refute it at one input. -/
def pitchTorsorWrong : ChangeSpec := { name := "pitchTorsor", fn := fun _ => fun
  | [d1, d2, d3, d4, d5] => { results := [.lit (.bool false)], args := [d1, d2, d3, d4, d5] }
  | _ => none }
def PitchTorsorWrongFalsely : Prop := pitchTorsorRow.holds Try.pinned (OpenSpec.ofChange pitchTorsorWrong)

/-- 'cantuslaw2.PitchMoves': WHATEVER THE INPUT: true; the input reads as it did. -/
def pitchMovesSpec : ChangeSpec := { name := "pitchMoves", fn := fun _ => fun
  | [d1, d2, d3, d4] => { results := [.lit (.bool true)], args := [d1, d2, d3, d4] }
  | _ => none }
def pitchMovesRow : OpenClaim := { program := "ytkhdpepcpmjhcaa", sum := "e1ff7a6caead4b1aefcd288b4b748cc79f5823816ae5060d3b063787d2612211", func := "cantus/cantuslaw2.PitchMoves", spec := "pitchMoves", apart := false }
def PitchMovesSaid : Prop := pitchMovesRow.holds Try.pinned (OpenSpec.ofChange pitchMovesSpec)

/-- ITS FALSE NEIGHBOUR: 'it returns false'. Refute it at one input. -/
def pitchMovesWrong : ChangeSpec := { name := "pitchMoves", fn := fun _ => fun
  | [d1, d2, d3, d4] => { results := [.lit (.bool false)], args := [d1, d2, d3, d4] }
  | _ => none }
def PitchMovesWrongFalsely : Prop := pitchMovesRow.holds Try.pinned (OpenSpec.ofChange pitchMovesWrong)

/- THE SECOND FORM. 'bulk': how many values and letters a reading holds, each counted each time it is reached (what is shared counts as often as it is met; a slice's spare places count too). A statement '..UptoSaid' is the law's where the arguments, and the package variables that the reading takes, are together of bulk at most 1048576: NARROWER than '..Said'. Prove '..Said' where nothing that the law and all that it calls make is longer than what came in: it says more and counts as full. Else prove '..UptoSaid'. A law counts once. -/
mutual
def uptoBulk {H : Type} : DataW H → Nat
  | .lit (.string bytes) => bytes.length + 1
  | .lit _ => 1
  | .nil => 1
  | .ptr d => uptoBulk d + 1
  | .slice elems spare => uptoBulkAll elems + uptoBulkAll spare + 1
  | .agg parts => uptoBulkAll parts + 1
  | .iface _ d => uptoBulk d + 1
  | .map entries => uptoBulkEntries entries + 1
  | .held _ => 1
def uptoBulkAll {H : Type} : List (DataW H) → Nat
  | [] => 0
  | d :: r => uptoBulk d + uptoBulkAll r
def uptoBulkEntries {H : Type} : List (Lit × DataW H) → Nat
  | [] => 0
  | x :: r => uptoBulkEntry x + uptoBulkEntries r
def uptoBulkEntry {H : Type} : Lit × DataW H → Nat
  | (.string bytes, d) => bytes.length + uptoBulk d + 1
  | (_, d) => uptoBulk d + 1
 end
def uptoSmall : (H : Type) → List (DataW H) → Bool := fun _ ds => decide (uptoBulkAll ds ≤ 1048576)
def OpenSpec.upto (s : _root_.Go.ChangeSpec) : _root_.Go.OpenSpec := { _root_.Go.OpenSpec.ofChange s with cond := some uptoSmall }

/-- 'cantuslaw2.PitchMirror', WHERE WHAT IT READS IS OF BULK AT MOST 1048576: true; the input reads as it did. -/
def pitchMirrorUptoRow : OpenClaim := { program := "ytkhdpepcpmjhcaa", sum := "e1ff7a6caead4b1aefcd288b4b748cc79f5823816ae5060d3b063787d2612211", func := "cantus/cantuslaw2.PitchMirror", spec := "pitchMirror", apart := false, narrowed := true }
def PitchMirrorUptoSaid : Prop := pitchMirrorUptoRow.holds Try.pinned (OpenSpec.upto pitchMirrorSpec)

/-- 'cantuslaw2.PitchTorsor', WHERE WHAT IT READS IS OF BULK AT MOST 1048576: true; the input reads as it did. -/
def pitchTorsorUptoRow : OpenClaim := { program := "ytkhdpepcpmjhcaa", sum := "e1ff7a6caead4b1aefcd288b4b748cc79f5823816ae5060d3b063787d2612211", func := "cantus/cantuslaw2.PitchTorsor", spec := "pitchTorsor", apart := false, narrowed := true }
def PitchTorsorUptoSaid : Prop := pitchTorsorUptoRow.holds Try.pinned (OpenSpec.upto pitchTorsorSpec)

/-- 'cantuslaw2.PitchMoves', WHERE WHAT IT READS IS OF BULK AT MOST 1048576: true; the input reads as it did. -/
def pitchMovesUptoRow : OpenClaim := { program := "ytkhdpepcpmjhcaa", sum := "e1ff7a6caead4b1aefcd288b4b748cc79f5823816ae5060d3b063787d2612211", func := "cantus/cantuslaw2.PitchMoves", spec := "pitchMoves", apart := false, narrowed := true }
def PitchMovesUptoSaid : Prop := pitchMovesUptoRow.holds Try.pinned (OpenSpec.upto pitchMovesSpec)

end Rows
end Go.Proofs.Ytkhdpepcpmjhcaa
