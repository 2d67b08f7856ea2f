/-
  No cell of these rows narrows 'for every input' (looked for: loops, veiled, ifaces, maps, wideKeys, modest, calm, conditions, laid).
  DERIVED. THE GIVEN ROWS OF THIS SEAT. 4 by the template 'for every input the law returns true; each argument reads behind the call as it read before'; 0 by the template 'total and deterministic' (their statements: YtjdblogapkbefaaTotals.lean).
  GIVEN WITH THE SEED: the statements are not yours to turn. If you find one false, say at which input.
  Laid BY PROGRAM, IN A SANDBOX (cutbox-rows.mjs): the forced cells as the released guide's own fill.sh prints them over the translation 4d6af9840a11a4f9… (all of the seat's roots in one cut). By AI agents, Wed Nov 11 2026. No macro, syntax, notation, axiom, sorry.
-/
import Derived.Test.YtjdblogapkbefaaChecked
import GoSem.Claim
import GoSem.ClaimJoined
import GoSem.ClaimMapViews
import Derived.JoinedTies
import Derived.KernelRfl
namespace Go.Proofs.Ytjdblogapkbefaa
/- THE CELL 'sum', in the pinned program and in every row, IS THE sha256 OF THE DUMP (.gsa) THAT YtjdblogapkbefaaProg.lean LOADS. Nothing in Lean hashes anything: it is a label: what it is worth is what the hold of that sum in a sandbox is worth. -/
noncomputable def Try.pinned : Pinned := { name := "ytjdblogapkbefaa", sum := "4d6af9840a11a4f9e9227eb4151552d70360f6a499c16004a88817fa82fa35b4", checked := Try.checked }
namespace Rows
def none {H : Type} : Left H := { results := [], args := [] }

/-- 'cantuslaw9.CanonApart': WHATEVER THE INPUT: true; the input reads as it did. -/
def canonApartSpec : ChangeSpec := { name := "canonApart", fn := fun _ => fun
  | [d1, d2, d3, d4, d5, d6] => { results := [.lit (.bool true)], args := [d1, d2, d3, d4, d5, d6] }
  | _ => none }
def canonApartRow : OpenClaim := { program := "ytjdblogapkbefaa", sum := "4d6af9840a11a4f9e9227eb4151552d70360f6a499c16004a88817fa82fa35b4", func := "cantus/cantuslaw9.CanonApart", spec := "canonApart", unfollowed := true, recurses := true, apart := false }
def CanonApartSaid : Prop := canonApartRow.holds Try.pinned (OpenSpec.ofChange canonApartSpec)

/-- ITS FALSE NEIGHBOUR: 'it returns false'. Refute it at one input. -/
def canonApartWrong : ChangeSpec := { name := "canonApart", fn := fun _ => fun
  | [d1, d2, d3, d4, d5, d6] => { results := [.lit (.bool false)], args := [d1, d2, d3, d4, d5, d6] }
  | _ => none }
def CanonApartWrongFalsely : Prop := canonApartRow.holds Try.pinned (OpenSpec.ofChange canonApartWrong)

/-- 'cantuslaw9.CanonGroup': WHATEVER THE INPUT: true; the input reads as it did. -/
def canonGroupSpec : ChangeSpec := { name := "canonGroup", fn := fun _ => fun
  | [d1, d2, d3, d4, d5, d6] => { results := [.lit (.bool true)], args := [d1, d2, d3, d4, d5, d6] }
  | _ => none }
def canonGroupRow : OpenClaim := { program := "ytjdblogapkbefaa", sum := "4d6af9840a11a4f9e9227eb4151552d70360f6a499c16004a88817fa82fa35b4", func := "cantus/cantuslaw9.CanonGroup", spec := "canonGroup", unfollowed := true, recurses := true, apart := false }
def CanonGroupSaid : Prop := canonGroupRow.holds Try.pinned (OpenSpec.ofChange canonGroupSpec)

/-- ITS FALSE NEIGHBOUR: 'it returns false'. Refute it at one input. -/
def canonGroupWrong : ChangeSpec := { name := "canonGroup", fn := fun _ => fun
  | [d1, d2, d3, d4, d5, d6] => { results := [.lit (.bool false)], args := [d1, d2, d3, d4, d5, d6] }
  | _ => none }
def CanonGroupWrongFalsely : Prop := canonGroupRow.holds Try.pinned (OpenSpec.ofChange canonGroupWrong)

/-- 'cantuslaw9.CanonApplies': WHATEVER THE INPUT: true; the input reads as it did. -/
def canonAppliesSpec : ChangeSpec := { name := "canonApplies", fn := fun _ => fun
  | [d1, d2, d3] => { results := [.lit (.bool true)], args := [d1, d2, d3] }
  | _ => none }
def canonAppliesRow : OpenClaim := { program := "ytjdblogapkbefaa", sum := "4d6af9840a11a4f9e9227eb4151552d70360f6a499c16004a88817fa82fa35b4", func := "cantus/cantuslaw9.CanonApplies", spec := "canonApplies", unfollowed := true, recurses := true, apart := false }
def CanonAppliesSaid : Prop := canonAppliesRow.holds Try.pinned (OpenSpec.ofChange canonAppliesSpec)

/-- ITS FALSE NEIGHBOUR: 'it returns false'. Refute it at one input. -/
def canonAppliesWrong : ChangeSpec := { name := "canonApplies", fn := fun _ => fun
  | [d1, d2, d3] => { results := [.lit (.bool false)], args := [d1, d2, d3] }
  | _ => none }
def CanonAppliesWrongFalsely : Prop := canonAppliesRow.holds Try.pinned (OpenSpec.ofChange canonAppliesWrong)

/-- 'cantuslaw9.CanonFollows': WHATEVER THE INPUT: true; the input reads as it did. -/
def canonFollowsSpec : ChangeSpec := { name := "canonFollows", fn := fun _ => fun
  | [d1, d2, d3, d4] => { results := [.lit (.bool true)], args := [d1, d2, d3, d4] }
  | _ => none }
def canonFollowsRow : OpenClaim := { program := "ytjdblogapkbefaa", sum := "4d6af9840a11a4f9e9227eb4151552d70360f6a499c16004a88817fa82fa35b4", func := "cantus/cantuslaw9.CanonFollows", spec := "canonFollows", unfollowed := true, recurses := true, apart := false }
def CanonFollowsSaid : Prop := canonFollowsRow.holds Try.pinned (OpenSpec.ofChange canonFollowsSpec)

/-- ITS FALSE NEIGHBOUR: 'it returns false'. Refute it at one input. -/
def canonFollowsWrong : ChangeSpec := { name := "canonFollows", fn := fun _ => fun
  | [d1, d2, d3, d4] => { results := [.lit (.bool false)], args := [d1, d2, d3, d4] }
  | _ => none }
def CanonFollowsWrongFalsely : Prop := canonFollowsRow.holds Try.pinned (OpenSpec.ofChange canonFollowsWrong)

/- THE SECOND FORM. 'bulk': how many values and letters a reading holds, each counted each time it is reached (what is shared counts as often as it is met; a slice's spare places count too). A statement '..UptoSaid' is the law's where the arguments, and the package variables that the reading takes, are together of bulk at most 1048576: NARROWER than '..Said'. Prove '..Said' where nothing that the law and all that it calls make is longer than what came in: it says more and counts as full. Else prove '..UptoSaid'. A law counts once. -/
mutual
def uptoBulk {H : Type} : DataW H → Nat
  | .lit (.string bytes) => bytes.length + 1
  | .lit _ => 1
  | .nil => 1
  | .ptr d => uptoBulk d + 1
  | .slice elems spare => uptoBulkAll elems + uptoBulkAll spare + 1
  | .agg parts => uptoBulkAll parts + 1
  | .iface _ d => uptoBulk d + 1
  | .map entries => uptoBulkEntries entries + 1
  | .held _ => 1
def uptoBulkAll {H : Type} : List (DataW H) → Nat
  | [] => 0
  | d :: r => uptoBulk d + uptoBulkAll r
def uptoBulkEntries {H : Type} : List (Lit × DataW H) → Nat
  | [] => 0
  | x :: r => uptoBulkEntry x + uptoBulkEntries r
def uptoBulkEntry {H : Type} : Lit × DataW H → Nat
  | (.string bytes, d) => bytes.length + uptoBulk d + 1
  | (_, d) => uptoBulk d + 1
 end
def uptoSmall : (H : Type) → List (DataW H) → Bool := fun _ ds => decide (uptoBulkAll ds ≤ 1048576)
def OpenSpec.upto (s : _root_.Go.ChangeSpec) : _root_.Go.OpenSpec := { _root_.Go.OpenSpec.ofChange s with cond := some uptoSmall }

/-- 'cantuslaw9.CanonApart', WHERE WHAT IT READS IS OF BULK AT MOST 1048576: true; the input reads as it did. -/
def canonApartUptoRow : OpenClaim := { program := "ytjdblogapkbefaa", sum := "4d6af9840a11a4f9e9227eb4151552d70360f6a499c16004a88817fa82fa35b4", func := "cantus/cantuslaw9.CanonApart", spec := "canonApart", unfollowed := true, recurses := true, apart := false, narrowed := true }
def CanonApartUptoSaid : Prop := canonApartUptoRow.holds Try.pinned (OpenSpec.upto canonApartSpec)

/-- 'cantuslaw9.CanonGroup', WHERE WHAT IT READS IS OF BULK AT MOST 1048576: true; the input reads as it did. -/
def canonGroupUptoRow : OpenClaim := { program := "ytjdblogapkbefaa", sum := "4d6af9840a11a4f9e9227eb4151552d70360f6a499c16004a88817fa82fa35b4", func := "cantus/cantuslaw9.CanonGroup", spec := "canonGroup", unfollowed := true, recurses := true, apart := false, narrowed := true }
def CanonGroupUptoSaid : Prop := canonGroupUptoRow.holds Try.pinned (OpenSpec.upto canonGroupSpec)

/-- 'cantuslaw9.CanonApplies', WHERE WHAT IT READS IS OF BULK AT MOST 1048576: true; the input reads as it did. -/
def canonAppliesUptoRow : OpenClaim := { program := "ytjdblogapkbefaa", sum := "4d6af9840a11a4f9e9227eb4151552d70360f6a499c16004a88817fa82fa35b4", func := "cantus/cantuslaw9.CanonApplies", spec := "canonApplies", unfollowed := true, recurses := true, apart := false, narrowed := true }
def CanonAppliesUptoSaid : Prop := canonAppliesUptoRow.holds Try.pinned (OpenSpec.upto canonAppliesSpec)

/-- 'cantuslaw9.CanonFollows', WHERE WHAT IT READS IS OF BULK AT MOST 1048576: true; the input reads as it did. -/
def canonFollowsUptoRow : OpenClaim := { program := "ytjdblogapkbefaa", sum := "4d6af9840a11a4f9e9227eb4151552d70360f6a499c16004a88817fa82fa35b4", func := "cantus/cantuslaw9.CanonFollows", spec := "canonFollows", unfollowed := true, recurses := true, apart := false, narrowed := true }
def CanonFollowsUptoSaid : Prop := canonFollowsUptoRow.holds Try.pinned (OpenSpec.upto canonFollowsSpec)

end Rows
end Go.Proofs.Ytjdblogapkbefaa
