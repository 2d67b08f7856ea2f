/-
  No cell of these rows narrows 'for every input' (looked for: loops, veiled, ifaces, maps, wideKeys, modest, calm, conditions, laid).
  DERIVED. THE GIVEN ROWS OF THIS SEAT. 2 by the template 'for every input the law returns true; each argument reads behind the call as it read before'; 0 by the template 'total and deterministic' (their statements: YthckjknnaccncaaTotals.lean).
  GIVEN WITH THE SEED: the statements are not yours to turn. If you find one false, say at which input.
  Laid BY PROGRAM, IN A SANDBOX (cutbox-rows.mjs): the forced cells as the released guide's own fill.sh prints them over the translation 48febb6748d58dcc… (all of the seat's roots in one cut). By AI agents, Wed Nov 11 2026. No macro, syntax, notation, axiom, sorry.
-/
import Derived.Test.YthckjknnaccncaaChecked
import GoSem.Claim
import GoSem.ClaimJoined
import GoSem.ClaimMapViews
import Derived.JoinedTies
import Derived.KernelRfl
namespace Go.Proofs.Ythckjknnaccncaa
/- THE CELL 'sum', in the pinned program and in every row, IS THE sha256 OF THE DUMP (.gsa) THAT YthckjknnaccncaaProg.lean LOADS. Nothing in Lean hashes anything: it is a label: what it is worth is what the hold of that sum in a sandbox is worth. -/
noncomputable def Try.pinned : Pinned := { name := "ythckjknnaccncaa", sum := "48febb6748d58dcce03ac180dbbbd31b5b99b91c56a1967445e2b3e242507098", checked := Try.checked }
namespace Rows
def none {H : Type} : Left H := { results := [], args := [] }

/-- 'cantuslaw3.ScaleKeys': WHATEVER THE INPUT: true; the input reads as it did. -/
def scaleKeysSpec : ChangeSpec := { name := "scaleKeys", fn := fun _ => fun
  | [d1, d2, d3, d4] => { results := [.lit (.bool true)], args := [d1, d2, d3, d4] }
  | _ => none }
def scaleKeysRow : OpenClaim := { program := "ythckjknnaccncaa", sum := "48febb6748d58dcce03ac180dbbbd31b5b99b91c56a1967445e2b3e242507098", func := "cantus/cantuslaw3.ScaleKeys", spec := "scaleKeys", apart := false }
def ScaleKeysSaid : Prop := scaleKeysRow.holds Try.pinned (OpenSpec.ofChange scaleKeysSpec)

/-- ITS FALSE NEIGHBOUR: 'it returns false'. Refute it at one input. -/
def scaleKeysWrong : ChangeSpec := { name := "scaleKeys", fn := fun _ => fun
  | [d1, d2, d3, d4] => { results := [.lit (.bool false)], args := [d1, d2, d3, d4] }
  | _ => none }
def ScaleKeysWrongFalsely : Prop := scaleKeysRow.holds Try.pinned (OpenSpec.ofChange scaleKeysWrong)

/-- 'cantuslaw3.ScaleSteps': WHATEVER THE INPUT: true; the input reads as it did. -/
def scaleStepsSpec : ChangeSpec := { name := "scaleSteps", fn := fun _ => fun
  | [d1, d2, d3, d4] => { results := [.lit (.bool true)], args := [d1, d2, d3, d4] }
  | _ => none }
def scaleStepsRow : OpenClaim := { program := "ythckjknnaccncaa", sum := "48febb6748d58dcce03ac180dbbbd31b5b99b91c56a1967445e2b3e242507098", func := "cantus/cantuslaw3.ScaleSteps", spec := "scaleSteps", apart := false }
def ScaleStepsSaid : Prop := scaleStepsRow.holds Try.pinned (OpenSpec.ofChange scaleStepsSpec)

/-- ITS FALSE NEIGHBOUR: 'it returns false'. Refute it at one input. -/
def scaleStepsWrong : ChangeSpec := { name := "scaleSteps", fn := fun _ => fun
  | [d1, d2, d3, d4] => { results := [.lit (.bool false)], args := [d1, d2, d3, d4] }
  | _ => none }
def ScaleStepsWrongFalsely : Prop := scaleStepsRow.holds Try.pinned (OpenSpec.ofChange scaleStepsWrong)

/- THE SECOND FORM. 'bulk': how many values and letters a reading holds, each counted each time it is reached (what is shared counts as often as it is met; a slice's spare places count too). A statement '..UptoSaid' is the law's where the arguments, and the package variables that the reading takes, are together of bulk at most 1048576: NARROWER than '..Said'. Prove '..Said' where nothing that the law and all that it calls make is longer than what came in: it says more and counts as full. Else prove '..UptoSaid'. A law counts once. -/
mutual
def uptoBulk {H : Type} : DataW H → Nat
  | .lit (.string bytes) => bytes.length + 1
  | .lit _ => 1
  | .nil => 1
  | .ptr d => uptoBulk d + 1
  | .slice elems spare => uptoBulkAll elems + uptoBulkAll spare + 1
  | .agg parts => uptoBulkAll parts + 1
  | .iface _ d => uptoBulk d + 1
  | .map entries => uptoBulkEntries entries + 1
  | .held _ => 1
def uptoBulkAll {H : Type} : List (DataW H) → Nat
  | [] => 0
  | d :: r => uptoBulk d + uptoBulkAll r
def uptoBulkEntries {H : Type} : List (Lit × DataW H) → Nat
  | [] => 0
  | x :: r => uptoBulkEntry x + uptoBulkEntries r
def uptoBulkEntry {H : Type} : Lit × DataW H → Nat
  | (.string bytes, d) => bytes.length + uptoBulk d + 1
  | (_, d) => uptoBulk d + 1
 end
def uptoSmall : (H : Type) → List (DataW H) → Bool := fun _ ds => decide (uptoBulkAll ds ≤ 1048576)
def OpenSpec.upto (s : _root_.Go.ChangeSpec) : _root_.Go.OpenSpec := { _root_.Go.OpenSpec.ofChange s with cond := some uptoSmall }

/-- 'cantuslaw3.ScaleKeys', WHERE WHAT IT READS IS OF BULK AT MOST 1048576: true; the input reads as it did. -/
def scaleKeysUptoRow : OpenClaim := { program := "ythckjknnaccncaa", sum := "48febb6748d58dcce03ac180dbbbd31b5b99b91c56a1967445e2b3e242507098", func := "cantus/cantuslaw3.ScaleKeys", spec := "scaleKeys", apart := false, narrowed := true }
def ScaleKeysUptoSaid : Prop := scaleKeysUptoRow.holds Try.pinned (OpenSpec.upto scaleKeysSpec)

/-- 'cantuslaw3.ScaleSteps', WHERE WHAT IT READS IS OF BULK AT MOST 1048576: true; the input reads as it did. -/
def scaleStepsUptoRow : OpenClaim := { program := "ythckjknnaccncaa", sum := "48febb6748d58dcce03ac180dbbbd31b5b99b91c56a1967445e2b3e242507098", func := "cantus/cantuslaw3.ScaleSteps", spec := "scaleSteps", apart := false, narrowed := true }
def ScaleStepsUptoSaid : Prop := scaleStepsUptoRow.holds Try.pinned (OpenSpec.upto scaleStepsSpec)

end Rows
end Go.Proofs.Ythckjknnaccncaa
