/-
  'ScaleKeys' returns true for every input, and each argument reads behind the call as it read before. No condition.
-/
import Derived.Test.YthckjknnaccncaaScaO
import Derived.Test.YthckjknnaccncaaPmRow
namespace Go.Proofs.Ythckjknnaccncaa.Pm
open Go.ChangeShapes Go.WideShapes Go.ChangeAt Go.RowKit

theorem i64_of {n : Int} (h : (Lit.int .i64 n).wf = true) : -9223372036854775808 ≤ n ∧ n ≤ 9223372036854775807 := by
  simp [Lit.wf, IntKind.min, IntKind.max, IntKind.signed, IntKind.bits] at h; omega

set_option maxRecDepth 100000 in
theorem scaleKeys_lifted (os : Os) (started : os.Started) (H : Type) (enc : TypeId × Value → H) :
    ReturnsInHanded {} Try.checked os 3 .any (Rows.scaleKeysSpec.pre6 enc Try.prog Try.f3 Rows.scaleKeysRow.domain false) (Rows.scaleKeysSpec.post enc Try.prog Try.f3 false true false false) := by
  refine returnsInHanded_of_change_sized (C := Try.checked) Try.own started (by kernel_rfl) Try.func3
    (ChangeSpec.witness6 (enc := enc) (C := Try.checked) false ⟨#[], #[.agg #[.int .i64 0, .int .i64 0, .int .i64 0], .int .i64 0, .int .i64 0, .int .i64 0], []⟩ 8 (by kernel_rfl) (by kernel_rfl) (by kernel_rfl) (by kernel_rfl)) ?_
  intro W base args ds gs before hval0 hW hcnd hsz0 _
  have hval : ∀ (j : Nat) t v, Try.f3.params[j]? = some t → args[j]? = some v → Value.okWide Try.prog W .any base t v := hval0
  have hsz : (DataW.weightsEach Try.prog (Try.f3.params.toList ++ Rows.scaleKeysSpec.plain.varTypes Try.prog) (ds ++ gs)).all (· ≤ reachBytes) = true := hsz0
  clear hsz0
  have hW' := hW
  obtain ⟨p, q, hA0, hV, rfl, hfz, hnd⟩ := hW
  have hA : DataW.TrodAll enc Try.prog W 0 (fun _ => true) true Try.f3.params.toList args.toList ds p := hA0
  rw [Try.params3] at hA hval hsz
  obtain ⟨v0, vs0, d0, ds0, p0, q0, hargs, rfl, rfl, h0, r0⟩ := trodAll_cons hA
  obtain ⟨v1, vs1, d1, ds1, p1, q1, rfl, rfl, rfl, h1, r1⟩ := trodAll_cons r0
  obtain ⟨v2, vs2, d2, ds2, p2, q2, rfl, rfl, rfl, h2, r2⟩ := trodAll_cons r1
  obtain ⟨v3, vs3, d3, ds3, p3, q3, rfl, rfl, rfl, h3, r3⟩ := trodAll_cons r2
  obtain ⟨rfl, rfl, rfl⟩ := trodAll_nil r3
  obtain rfl : args = #[v0, v1, v2, v3] := by cases args; simp_all
  obtain ⟨rfl, rfl⟩ := trodVars_none hV
  obtain ⟨c00, c01, c02, y00, y01, y02, m0, rfl, rfl, rfl, hy00, hy01, hy02⟩ := Joins.open_agg3 Try.underlying23 (by kernel_rfl) (show Try.prog.cellsOf 23 = 3 by kernel_rfl) (hval 0 23 v0 rfl rfl) h0
  obtain ⟨u0_0, eu0_0, rfl, w0_0⟩ := DataW.trod_int Try.underlying3 hy00
  obtain ⟨u0_1, eu0_1, rfl, w0_1⟩ := DataW.trod_int Try.underlying3 hy01
  obtain ⟨u0_2, eu0_2, rfl, w0_2⟩ := DataW.trod_int Try.underlying3 hy02
  simp at eu0_0 eu0_1 eu0_2
  subst eu0_0 eu0_1 eu0_2
  obtain ⟨a1, rfl, rfl, rfl, w1⟩ := open_int Try.underlying3 (hval 1 3 v1 rfl rfl) h1
  obtain ⟨a2, rfl, rfl, rfl, w2⟩ := open_int Try.underlying3 (hval 2 3 v2 rfl rfl) h2
  obtain ⟨a3, rfl, rfl, rfl, w3⟩ := open_int Try.underlying3 (hval 3 3 v3 rfl rfl) h3
  clear hA0 hval0
  refine (pc_calls (law_keys u0_0 u0_1 u0_2 a1 a2 a3 (i64_of w3)) rfl (fun i hi => match i, hi with | 0, _ => (.agg rfl fun i hi => match i, hi with | 0, _ => .av _ | 1, _ => .av _ | 2, _ => .av _ | _ + 3, h => absurd h (Nat.not_lt.2 (Nat.le_add_left 3 _))) | 1, _ => .av _ | 2, _ => .av _ | 3, _ => .av _ | _ + 4, h => absurd h (Nat.not_lt.2 (Nat.le_add_left 4 _)))).mono fun e W' ⟨he, hb⟩ => ?_
  subst he
  exact ⟨_, rfl, law_post (tb := 4) hW' Try.laidOut rfl (by rw [Try.params3]; kernel_rfl) rfl Try.underlying4 rfl hb⟩

/-- ████ THE STATEMENT ████ -/
theorem scaleKeys_holds : Rows.ScaleKeysSaid :=
  OpenClaim.holds_of_wide 3 Try.f3 rfl rfl rfl rfl rfl rfl rfl ⟨rfl, rfl, rfl, rfl, rfl⟩ rfl rfl rfl rfl rfl (by kernel_rfl) Try.func3 (by kernel_rfl)
    (of_decide_eq_true (by kernel_rfl)) (by unfold Func.isWrapper; first | (rw [if_pos (by decide +kernel)]; kernel_rfl) | (rw [if_neg (by decide +kernel)]; exact ⟨rfl, rfl⟩))
    (fun os started H enc _ => scaleKeys_lifted os started H enc)
#print axioms scaleKeys_holds
end Go.Proofs.Ythckjknnaccncaa.Pm
