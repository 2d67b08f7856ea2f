/-
  No cell of these rows narrows 'for every input' (looked for: loops, veiled, ifaces, maps, wideKeys, modest, calm, conditions, laid).
  DERIVED. THE GIVEN ROWS OF THIS SEAT. 4 by the template 'for every input the law returns true; each argument reads behind the call as it read before'; 0 by the template 'total and deterministic' (their statements: YtgkahjaoajjgcaaTotals.lean).
  GIVEN WITH THE SEED: the statements are not yours to turn. If you find one false, say at which input.
  Laid BY PROGRAM, IN A SANDBOX (cutbox-rows.mjs): the forced cells as the released guide's own fill.sh prints them over the translation 301e258868e84b9b… (all of the seat's roots in one cut). By AI agents, Wed Nov 11 2026. No macro, syntax, notation, axiom, sorry.
-/
import Derived.Test.YtgkahjaoajjgcaaChecked
import GoSem.Claim
import GoSem.ClaimJoined
import GoSem.ClaimMapViews
import Derived.JoinedTies
import Derived.KernelRfl
namespace Go.Proofs.Ytgkahjaoajjgcaa
/- THE CELL 'sum', in the pinned program and in every row, IS THE sha256 OF THE DUMP (.gsa) THAT YtgkahjaoajjgcaaProg.lean LOADS. Nothing in Lean hashes anything: it is a label: what it is worth is what the hold of that sum in a sandbox is worth. -/
noncomputable def Try.pinned : Pinned := { name := "ytgkahjaoajjgcaa", sum := "301e258868e84b9b3f9a43672282026eac94abe409086d65a52a1a9d734317e5", checked := Try.checked }
namespace Rows
def none {H : Type} : Left H := { results := [], args := [] }

/-- 'cantuslaw17.MixOrder': WHATEVER THE INPUT: true; the input reads as it did. -/
def mixOrderSpec : ChangeSpec := { name := "mixOrder", fn := fun _ => fun
  | [d1, d2, d3, d4] => { results := [.lit (.bool true)], args := [d1, d2, d3, d4] }
  | _ => none }
def mixOrderRow : OpenClaim := { program := "ytgkahjaoajjgcaa", sum := "301e258868e84b9b3f9a43672282026eac94abe409086d65a52a1a9d734317e5", func := "cantus/cantuslaw17.MixOrder", spec := "mixOrder", apart := false }
def MixOrderSaid : Prop := mixOrderRow.holds Try.pinned (OpenSpec.ofChange mixOrderSpec)

/-- ITS FALSE NEIGHBOUR: 'it returns false'. Refute it at one input. -/
def mixOrderWrong : ChangeSpec := { name := "mixOrder", fn := fun _ => fun
  | [d1, d2, d3, d4] => { results := [.lit (.bool false)], args := [d1, d2, d3, d4] }
  | _ => none }
def MixOrderWrongFalsely : Prop := mixOrderRow.holds Try.pinned (OpenSpec.ofChange mixOrderWrong)

/-- 'cantuslaw17.MixDithers': WHATEVER THE INPUT: true; the input reads as it did. -/
def mixDithersSpec : ChangeSpec := { name := "mixDithers", fn := fun _ => fun
  | [d1, d2] => { results := [.lit (.bool true)], args := [d1, d2] }
  | _ => none }
def mixDithersRow : OpenClaim := { program := "ytgkahjaoajjgcaa", sum := "301e258868e84b9b3f9a43672282026eac94abe409086d65a52a1a9d734317e5", func := "cantus/cantuslaw17.MixDithers", spec := "mixDithers", apart := false }
def MixDithersSaid : Prop := mixDithersRow.holds Try.pinned (OpenSpec.ofChange mixDithersSpec)

/-- ITS FALSE NEIGHBOUR: 'it returns false'. Refute it at one input. -/
def mixDithersWrong : ChangeSpec := { name := "mixDithers", fn := fun _ => fun
  | [d1, d2] => { results := [.lit (.bool false)], args := [d1, d2] }
  | _ => none }
def MixDithersWrongFalsely : Prop := mixDithersRow.holds Try.pinned (OpenSpec.ofChange mixDithersWrong)

/-- 'cantuslaw17.MixBlocks': WHATEVER THE INPUT: true; the input reads as it did. -/
def mixBlocksSpec : ChangeSpec := { name := "mixBlocks", fn := fun _ => fun
  | [d1, d2, d3] => { results := [.lit (.bool true)], args := [d1, d2, d3] }
  | _ => none }
def mixBlocksRow : OpenClaim := { program := "ytgkahjaoajjgcaa", sum := "301e258868e84b9b3f9a43672282026eac94abe409086d65a52a1a9d734317e5", func := "cantus/cantuslaw17.MixBlocks", spec := "mixBlocks", apart := false }
def MixBlocksSaid : Prop := mixBlocksRow.holds Try.pinned (OpenSpec.ofChange mixBlocksSpec)

/-- ITS FALSE NEIGHBOUR: 'it returns false'. Refute it at one input. -/
def mixBlocksWrong : ChangeSpec := { name := "mixBlocks", fn := fun _ => fun
  | [d1, d2, d3] => { results := [.lit (.bool false)], args := [d1, d2, d3] }
  | _ => none }
def MixBlocksWrongFalsely : Prop := mixBlocksRow.holds Try.pinned (OpenSpec.ofChange mixBlocksWrong)

/-- 'cantuslaw17.MixSums': WHATEVER THE INPUT: true; the input reads as it did. -/
def mixSumsSpec : ChangeSpec := { name := "mixSums", fn := fun _ => fun
  | [d1, d2, d3] => { results := [.lit (.bool true)], args := [d1, d2, d3] }
  | _ => none }
def mixSumsRow : OpenClaim := { program := "ytgkahjaoajjgcaa", sum := "301e258868e84b9b3f9a43672282026eac94abe409086d65a52a1a9d734317e5", func := "cantus/cantuslaw17.MixSums", spec := "mixSums", inPlace := ["math.RoundToEven", "math.archFloor", "math.Float64bits", "math.Float64frombits", "math.archTrunc"], apart := false }
def MixSumsSaid : Prop := mixSumsRow.holds Try.pinned (OpenSpec.ofChange mixSumsSpec)

/-- ITS FALSE NEIGHBOUR: 'it returns false'. Refute it at one input. -/
def mixSumsWrong : ChangeSpec := { name := "mixSums", fn := fun _ => fun
  | [d1, d2, d3] => { results := [.lit (.bool false)], args := [d1, d2, d3] }
  | _ => none }
def MixSumsWrongFalsely : Prop := mixSumsRow.holds Try.pinned (OpenSpec.ofChange mixSumsWrong)

/- THE SECOND FORM. 'bulk': how many values and letters a reading holds, each counted each time it is reached (what is shared counts as often as it is met; a slice's spare places count too). A statement '..UptoSaid' is the law's where the arguments, and the package variables that the reading takes, are together of bulk at most 1048576: NARROWER than '..Said'. Prove '..Said' where nothing that the law and all that it calls make is longer than what came in: it says more and counts as full. Else prove '..UptoSaid'. A law counts once. -/
mutual
def uptoBulk {H : Type} : DataW H → Nat
  | .lit (.string bytes) => bytes.length + 1
  | .lit _ => 1
  | .nil => 1
  | .ptr d => uptoBulk d + 1
  | .slice elems spare => uptoBulkAll elems + uptoBulkAll spare + 1
  | .agg parts => uptoBulkAll parts + 1
  | .iface _ d => uptoBulk d + 1
  | .map entries => uptoBulkEntries entries + 1
  | .held _ => 1
def uptoBulkAll {H : Type} : List (DataW H) → Nat
  | [] => 0
  | d :: r => uptoBulk d + uptoBulkAll r
def uptoBulkEntries {H : Type} : List (Lit × DataW H) → Nat
  | [] => 0
  | x :: r => uptoBulkEntry x + uptoBulkEntries r
def uptoBulkEntry {H : Type} : Lit × DataW H → Nat
  | (.string bytes, d) => bytes.length + uptoBulk d + 1
  | (_, d) => uptoBulk d + 1
 end
def uptoSmall : (H : Type) → List (DataW H) → Bool := fun _ ds => decide (uptoBulkAll ds ≤ 1048576)
def OpenSpec.upto (s : _root_.Go.ChangeSpec) : _root_.Go.OpenSpec := { _root_.Go.OpenSpec.ofChange s with cond := some uptoSmall }

/-- 'cantuslaw17.MixOrder', WHERE WHAT IT READS IS OF BULK AT MOST 1048576: true; the input reads as it did. -/
def mixOrderUptoRow : OpenClaim := { program := "ytgkahjaoajjgcaa", sum := "301e258868e84b9b3f9a43672282026eac94abe409086d65a52a1a9d734317e5", func := "cantus/cantuslaw17.MixOrder", spec := "mixOrder", apart := false, narrowed := true }
def MixOrderUptoSaid : Prop := mixOrderUptoRow.holds Try.pinned (OpenSpec.upto mixOrderSpec)

/-- 'cantuslaw17.MixDithers', WHERE WHAT IT READS IS OF BULK AT MOST 1048576: true; the input reads as it did. -/
def mixDithersUptoRow : OpenClaim := { program := "ytgkahjaoajjgcaa", sum := "301e258868e84b9b3f9a43672282026eac94abe409086d65a52a1a9d734317e5", func := "cantus/cantuslaw17.MixDithers", spec := "mixDithers", apart := false, narrowed := true }
def MixDithersUptoSaid : Prop := mixDithersUptoRow.holds Try.pinned (OpenSpec.upto mixDithersSpec)

/-- 'cantuslaw17.MixBlocks', WHERE WHAT IT READS IS OF BULK AT MOST 1048576: true; the input reads as it did. -/
def mixBlocksUptoRow : OpenClaim := { program := "ytgkahjaoajjgcaa", sum := "301e258868e84b9b3f9a43672282026eac94abe409086d65a52a1a9d734317e5", func := "cantus/cantuslaw17.MixBlocks", spec := "mixBlocks", apart := false, narrowed := true }
def MixBlocksUptoSaid : Prop := mixBlocksUptoRow.holds Try.pinned (OpenSpec.upto mixBlocksSpec)

/-- 'cantuslaw17.MixSums', WHERE WHAT IT READS IS OF BULK AT MOST 1048576: true; the input reads as it did. -/
def mixSumsUptoRow : OpenClaim := { program := "ytgkahjaoajjgcaa", sum := "301e258868e84b9b3f9a43672282026eac94abe409086d65a52a1a9d734317e5", func := "cantus/cantuslaw17.MixSums", spec := "mixSums", inPlace := ["math.RoundToEven", "math.archFloor", "math.Float64bits", "math.Float64frombits", "math.archTrunc"], apart := false, narrowed := true }
def MixSumsUptoSaid : Prop := mixSumsUptoRow.holds Try.pinned (OpenSpec.upto mixSumsSpec)

end Rows
end Go.Proofs.Ytgkahjaoajjgcaa
