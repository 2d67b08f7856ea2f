/-
  NARROWER THAN 'FOR EVERY INPUT', by the rows' own cells (each row's printed sentence says how): RhythmSpans: loops · RhythmSums: loops.
  DERIVED. THE GIVEN ROWS OF THIS SEAT. 4 by the template 'for every input the law returns true; each argument reads behind the call as it read before'; 0 by the template 'total and deterministic' (their statements: YtccpefbfjahfnaaTotals.lean).
  GIVEN WITH THE SEED: the statements are not yours to turn. If you find one false, say at which input.
  Laid BY PROGRAM, IN A SANDBOX (cutbox-rows.mjs): the forced cells as the released guide's own fill.sh prints them over the translation 75f88b4c8abee378… (all of the seat's roots in one cut). By AI agents, Wed Nov 11 2026. No macro, syntax, notation, axiom, sorry.
-/
import Derived.Test.YtccpefbfjahfnaaChecked
import GoSem.Claim
import GoSem.ClaimJoined
import GoSem.ClaimMapViews
import Derived.JoinedTies
import Derived.KernelRfl
namespace Go.Proofs.Ytccpefbfjahfnaa
/- THE CELL 'sum', in the pinned program and in every row, IS THE sha256 OF THE DUMP (.gsa) THAT YtccpefbfjahfnaaProg.lean LOADS. Nothing in Lean hashes anything: it is a label: what it is worth is what the hold of that sum in a sandbox is worth. -/
noncomputable def Try.pinned : Pinned := { name := "ytccpefbfjahfnaa", sum := "75f88b4c8abee3789019c9252dcb82ab1e640a0ad66f57c61e6ac1ff233c44e7", checked := Try.checked }
namespace Rows
def none {H : Type} : Left H := { results := [], args := [] }

/-- 'cantuslaw5.RhythmWrites': WHATEVER THE INPUT: true; the input reads as it did. -/
def rhythmWritesSpec : ChangeSpec := { name := "rhythmWrites", fn := fun _ => fun
  | [d1, d2] => { results := [.lit (.bool true)], args := [d1, d2] }
  | _ => none }
def rhythmWritesRow : OpenClaim := { program := "ytccpefbfjahfnaa", sum := "75f88b4c8abee3789019c9252dcb82ab1e640a0ad66f57c61e6ac1ff233c44e7", func := "cantus/cantuslaw5.RhythmWrites", spec := "rhythmWrites", unfollowed := true, recurses := true, apart := false }
def RhythmWritesSaid : Prop := rhythmWritesRow.holds Try.pinned (OpenSpec.ofChange rhythmWritesSpec)

/-- ITS FALSE NEIGHBOUR: 'it returns false'. Refute it at one input. -/
def rhythmWritesWrong : ChangeSpec := { name := "rhythmWrites", fn := fun _ => fun
  | [d1, d2] => { results := [.lit (.bool false)], args := [d1, d2] }
  | _ => none }
def RhythmWritesWrongFalsely : Prop := rhythmWritesRow.holds Try.pinned (OpenSpec.ofChange rhythmWritesWrong)

/-- 'cantuslaw5.RhythmWhole': WHATEVER THE INPUT: true; the input reads as it did. -/
def rhythmWholeSpec : ChangeSpec := { name := "rhythmWhole", fn := fun _ => fun
  | [d] => { results := [.lit (.bool true)], args := [d] }
  | _ => none }
def rhythmWholeRow : OpenClaim := { program := "ytccpefbfjahfnaa", sum := "75f88b4c8abee3789019c9252dcb82ab1e640a0ad66f57c61e6ac1ff233c44e7", func := "cantus/cantuslaw5.RhythmWhole", spec := "rhythmWhole", unfollowed := true, recurses := true, apart := false }
def RhythmWholeSaid : Prop := rhythmWholeRow.holds Try.pinned (OpenSpec.ofChange rhythmWholeSpec)

/-- ITS FALSE NEIGHBOUR: 'it returns false'. Refute it at one input. -/
def rhythmWholeWrong : ChangeSpec := { name := "rhythmWhole", fn := fun _ => fun
  | [d] => { results := [.lit (.bool false)], args := [d] }
  | _ => none }
def RhythmWholeWrongFalsely : Prop := rhythmWholeRow.holds Try.pinned (OpenSpec.ofChange rhythmWholeWrong)

/-- 'cantuslaw5.RhythmSpans': WHATEVER THE INPUT: true; the input reads as it did. -/
def rhythmSpansSpec : ChangeSpec := { name := "rhythmSpans", fn := fun _ => fun
  | [d1, d2] => { results := [.lit (.bool true)], args := [d1, d2] }
  | _ => none }
def rhythmSpansRow : OpenClaim := { program := "ytccpefbfjahfnaa", sum := "75f88b4c8abee3789019c9252dcb82ab1e640a0ad66f57c61e6ac1ff233c44e7", func := "cantus/cantuslaw5.RhythmSpans", spec := "rhythmSpans", recurses := true, loops := true, apart := false }
def RhythmSpansSaid : Prop := rhythmSpansRow.holds Try.pinned (OpenSpec.ofChange rhythmSpansSpec)

/-- ITS FALSE NEIGHBOUR: 'it returns false'. Refute it at one input. -/
def rhythmSpansWrong : ChangeSpec := { name := "rhythmSpans", fn := fun _ => fun
  | [d1, d2] => { results := [.lit (.bool false)], args := [d1, d2] }
  | _ => none }
def RhythmSpansWrongFalsely : Prop := rhythmSpansRow.holds Try.pinned (OpenSpec.ofChange rhythmSpansWrong)

/-- 'cantuslaw5.RhythmSums': WHATEVER THE INPUT: true; the input reads as it did. -/
def rhythmSumsSpec : ChangeSpec := { name := "rhythmSums", fn := fun _ => fun
  | [d1, d2, d3] => { results := [.lit (.bool true)], args := [d1, d2, d3] }
  | _ => none }
def rhythmSumsRow : OpenClaim := { program := "ytccpefbfjahfnaa", sum := "75f88b4c8abee3789019c9252dcb82ab1e640a0ad66f57c61e6ac1ff233c44e7", func := "cantus/cantuslaw5.RhythmSums", spec := "rhythmSums", recurses := true, loops := true, apart := false }
def RhythmSumsSaid : Prop := rhythmSumsRow.holds Try.pinned (OpenSpec.ofChange rhythmSumsSpec)

/-- ITS FALSE NEIGHBOUR: 'it returns false'. Refute it at one input. -/
def rhythmSumsWrong : ChangeSpec := { name := "rhythmSums", fn := fun _ => fun
  | [d1, d2, d3] => { results := [.lit (.bool false)], args := [d1, d2, d3] }
  | _ => none }
def RhythmSumsWrongFalsely : Prop := rhythmSumsRow.holds Try.pinned (OpenSpec.ofChange rhythmSumsWrong)

/- THE SECOND FORM. 'bulk': how many values and letters a reading holds, each counted each time it is reached (what is shared counts as often as it is met; a slice's spare places count too). A statement '..UptoSaid' is the law's where the arguments, and the package variables that the reading takes, are together of bulk at most 1048576: NARROWER than '..Said'. Prove '..Said' where nothing that the law and all that it calls make is longer than what came in: it says more and counts as full. Else prove '..UptoSaid'. A law counts once. -/
mutual
def uptoBulk {H : Type} : DataW H → Nat
  | .lit (.string bytes) => bytes.length + 1
  | .lit _ => 1
  | .nil => 1
  | .ptr d => uptoBulk d + 1
  | .slice elems spare => uptoBulkAll elems + uptoBulkAll spare + 1
  | .agg parts => uptoBulkAll parts + 1
  | .iface _ d => uptoBulk d + 1
  | .map entries => uptoBulkEntries entries + 1
  | .held _ => 1
def uptoBulkAll {H : Type} : List (DataW H) → Nat
  | [] => 0
  | d :: r => uptoBulk d + uptoBulkAll r
def uptoBulkEntries {H : Type} : List (Lit × DataW H) → Nat
  | [] => 0
  | x :: r => uptoBulkEntry x + uptoBulkEntries r
def uptoBulkEntry {H : Type} : Lit × DataW H → Nat
  | (.string bytes, d) => bytes.length + uptoBulk d + 1
  | (_, d) => uptoBulk d + 1
 end
def uptoSmall : (H : Type) → List (DataW H) → Bool := fun _ ds => decide (uptoBulkAll ds ≤ 1048576)
def OpenSpec.upto (s : _root_.Go.ChangeSpec) : _root_.Go.OpenSpec := { _root_.Go.OpenSpec.ofChange s with cond := some uptoSmall }

/-- 'cantuslaw5.RhythmWrites', WHERE WHAT IT READS IS OF BULK AT MOST 1048576: true; the input reads as it did. -/
def rhythmWritesUptoRow : OpenClaim := { program := "ytccpefbfjahfnaa", sum := "75f88b4c8abee3789019c9252dcb82ab1e640a0ad66f57c61e6ac1ff233c44e7", func := "cantus/cantuslaw5.RhythmWrites", spec := "rhythmWrites", unfollowed := true, recurses := true, apart := false, narrowed := true }
def RhythmWritesUptoSaid : Prop := rhythmWritesUptoRow.holds Try.pinned (OpenSpec.upto rhythmWritesSpec)

/-- 'cantuslaw5.RhythmWhole', WHERE WHAT IT READS IS OF BULK AT MOST 1048576: true; the input reads as it did. -/
def rhythmWholeUptoRow : OpenClaim := { program := "ytccpefbfjahfnaa", sum := "75f88b4c8abee3789019c9252dcb82ab1e640a0ad66f57c61e6ac1ff233c44e7", func := "cantus/cantuslaw5.RhythmWhole", spec := "rhythmWhole", unfollowed := true, recurses := true, apart := false, narrowed := true }
def RhythmWholeUptoSaid : Prop := rhythmWholeUptoRow.holds Try.pinned (OpenSpec.upto rhythmWholeSpec)

/-- 'cantuslaw5.RhythmSpans', WHERE WHAT IT READS IS OF BULK AT MOST 1048576: true; the input reads as it did. -/
def rhythmSpansUptoRow : OpenClaim := { program := "ytccpefbfjahfnaa", sum := "75f88b4c8abee3789019c9252dcb82ab1e640a0ad66f57c61e6ac1ff233c44e7", func := "cantus/cantuslaw5.RhythmSpans", spec := "rhythmSpans", recurses := true, loops := true, apart := false, narrowed := true }
def RhythmSpansUptoSaid : Prop := rhythmSpansUptoRow.holds Try.pinned (OpenSpec.upto rhythmSpansSpec)

/-- 'cantuslaw5.RhythmSums', WHERE WHAT IT READS IS OF BULK AT MOST 1048576: true; the input reads as it did. -/
def rhythmSumsUptoRow : OpenClaim := { program := "ytccpefbfjahfnaa", sum := "75f88b4c8abee3789019c9252dcb82ab1e640a0ad66f57c61e6ac1ff233c44e7", func := "cantus/cantuslaw5.RhythmSums", spec := "rhythmSums", recurses := true, loops := true, apart := false, narrowed := true }
def RhythmSumsUptoSaid : Prop := rhythmSumsUptoRow.holds Try.pinned (OpenSpec.upto rhythmSumsSpec)

end Rows
end Go.Proofs.Ytccpefbfjahfnaa
