/-
  'RhythmWrites' returns true for every input, and each argument reads behind the call as it read before. No condition.
-/
import Derived.Test.YtccpefbfjahfnaaRhyF
import Derived.Test.YtccpefbfjahfnaaPmRow
namespace Go.Proofs.Ytccpefbfjahfnaa.Pm
open Go.ChangeShapes Go.WideShapes Go.ChangeAt Go.RowKit

theorem i64_of {n : Int} (h : (Lit.int .i64 n).wf = true) : -9223372036854775808 ≤ n ∧ n ≤ 9223372036854775807 := by
  simp [Lit.wf, IntKind.min, IntKind.max, IntKind.signed, IntKind.bits] at h; omega

set_option maxRecDepth 100000 in
theorem rhythmWrites_lifted (os : Os) (started : os.Started) (H : Type) (enc : TypeId × Value → H) :
    ReturnsInHanded {} Try.checked os 3 .any (Rows.rhythmWritesSpec.pre6 enc Try.prog Try.f3 Rows.rhythmWritesRow.domain false) (Rows.rhythmWritesSpec.post enc Try.prog Try.f3 false true false false) := by
  refine returnsInHanded_of_change_sized (C := Try.checked) Try.own started (by kernel_rfl) Try.func3
    (ChangeSpec.witness6 (enc := enc) (C := Try.checked) false ⟨#[], #[.agg #[.int .i64 0, .int .i64 0], .agg #[.int .i64 0, .int .i64 0]], []⟩ 8 (by kernel_rfl) (by kernel_rfl) (by kernel_rfl) (by kernel_rfl)) ?_
  intro W base args ds gs before hval0 hW hcnd hsz0 _
  have hval : ∀ (j : Nat) t v, Try.f3.params[j]? = some t → args[j]? = some v → Value.okWide Try.prog W .any base t v := hval0
  have hsz : (DataW.weightsEach Try.prog (Try.f3.params.toList ++ Rows.rhythmWritesSpec.plain.varTypes Try.prog) (ds ++ gs)).all (· ≤ reachBytes) = true := hsz0
  clear hsz0
  have hW' := hW
  obtain ⟨p, q, hA0, hV, rfl, hfz, hnd⟩ := hW
  have hA : DataW.TrodAll enc Try.prog W 0 (fun _ => true) true Try.f3.params.toList args.toList ds p := hA0
  rw [Try.params3] at hA hval hsz
  obtain ⟨v0, vs0, d0, ds0, p0, q0, hargs, rfl, rfl, h0, r0⟩ := trodAll_cons hA
  obtain ⟨v1, vs1, d1, ds1, p1, q1, rfl, rfl, rfl, h1, r1⟩ := trodAll_cons r0
  obtain ⟨rfl, rfl, rfl⟩ := trodAll_nil r1
  obtain rfl : args = #[v0, v1] := by cases args; simp_all
  obtain ⟨rfl, rfl⟩ := trodVars_none hV
  obtain ⟨c00, c01, y00, y01, m0, rfl, rfl, rfl, hy00, hy01⟩ := Joins.open_agg2 Try.underlying23 (by kernel_rfl) (show Try.prog.cellsOf 23 = 2 by kernel_rfl) (hval 0 23 v0 rfl rfl) h0
  obtain ⟨u0_0, eu0_0, rfl, w0_0⟩ := DataW.trod_int Try.underlying3 hy00
  obtain ⟨u0_1, eu0_1, rfl, w0_1⟩ := DataW.trod_int Try.underlying3 hy01
  simp at eu0_0 eu0_1
  subst eu0_0 eu0_1
  obtain ⟨c10, c11, y10, y11, m1, rfl, rfl, rfl, hy10, hy11⟩ := Joins.open_agg2 Try.underlying25 (by kernel_rfl) (show Try.prog.cellsOf 25 = 2 by kernel_rfl) (hval 1 25 v1 rfl rfl) h1
  obtain ⟨u1_0, eu1_0, rfl, w1_0⟩ := DataW.trod_int Try.underlying3 hy10
  obtain ⟨u1_1, eu1_1, rfl, w1_1⟩ := DataW.trod_int Try.underlying3 hy11
  simp at eu1_0 eu1_1
  subst eu1_0 eu1_1
  clear hA0 hval0
  refine (pc_calls (law_writes u0_0 u0_1 u1_0 u1_1 (i64_of w0_0) (i64_of w0_1) (i64_of w1_0) (i64_of w1_1)) rfl (fun i hi => match i, hi with | 0, _ => (.agg rfl fun i hi => match i, hi with | 0, _ => .av _ | 1, _ => .av _ | _ + 2, h => absurd h (Nat.not_lt.2 (Nat.le_add_left 2 _))) | 1, _ => (.agg rfl fun i hi => match i, hi with | 0, _ => .av _ | 1, _ => .av _ | _ + 2, h => absurd h (Nat.not_lt.2 (Nat.le_add_left 2 _))) | _ + 2, h => absurd h (Nat.not_lt.2 (Nat.le_add_left 2 _)))).mono fun e W' ⟨he, hb⟩ => ?_
  subst he
  exact ⟨_, rfl, law_post (tb := 4) hW' Try.laidOut rfl (by rw [Try.params3]; kernel_rfl) rfl Try.underlying4 rfl hb⟩

/-- ████ THE STATEMENT ████ -/
theorem rhythmWrites_holds : Rows.RhythmWritesSaid :=
  OpenClaim.holds_of_wide 3 Try.f3 rfl rfl rfl rfl rfl rfl rfl ⟨rfl, rfl, rfl, rfl, rfl⟩ rfl rfl rfl rfl rfl (by kernel_rfl) Try.func3 (by kernel_rfl)
    (of_decide_eq_true (by kernel_rfl)) (by unfold Func.isWrapper; first | (rw [if_pos (by decide +kernel)]; kernel_rfl) | (rw [if_neg (by decide +kernel)]; exact ⟨rfl, rfl⟩))
    (fun os started H enc _ => rhythmWrites_lifted os started H enc)
#print axioms rhythmWrites_holds
end Go.Proofs.Ytccpefbfjahfnaa.Pm
