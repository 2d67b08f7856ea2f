/-
  'ClockBack' returns true for every input, and each argument reads behind the call as it read before. No condition.
-/
import Derived.Test.YtinpnjiinadaeaaLawClockW
import Derived.Test.YtinpnjiinadaeaaClockArg
import Derived.Test.YtinpnjiinadaeaaRowKit
namespace Go.Proofs.Ytinpnjiinadaeaa.Cl
open Go.ChangeShapes Go.WideShapes Go.ChangeAt Go.RowKit

set_option maxRecDepth 100000 in
theorem clockBack_lifted (os : Os) (started : os.Started) (H : Type) (enc : TypeId × Value → H) :
    ReturnsInHanded {} Try.checked os 6 .any (Rows.clockBackSpec.pre6 enc Try.prog Try.f6 Rows.clockBackRow.domain false) (Rows.clockBackSpec.post enc Try.prog Try.f6 false true false false) := by
  refine returnsInHanded_of_change (C := Try.checked) Try.own started (by kernel_rfl) Try.func6
    (ChangeSpec.witness6 (enc := enc) (C := Try.checked) false ⟨#[], #[.slice none 0 0, .int .i64 0, .int .i64 0, .agg #[.int .i64 0, .int .i64 0]], []⟩ 8 (by kernel_rfl) (by kernel_rfl) (by kernel_rfl) (by kernel_rfl)) ?_
  intro W base args ds gs before hval0 hW hcnd _
  have hval : ∀ (j : Nat) t v, Try.f6.params[j]? = some t → args[j]? = some v → Value.okWide Try.prog W .any base t v := hval0
  have hW' := hW
  obtain ⟨p, q, hA0, hV, rfl, hfz, hnd⟩ := hW
  have hA : DataW.TrodAll enc Try.prog W 0 (fun _ => true) true Try.f6.params.toList args.toList ds p := hA0
  rw [Try.params6] at hA hval
  obtain ⟨v0, vs0, d0, ds0, p0, q0, hargs, rfl, rfl, h0, r0⟩ := trodAll_cons hA
  obtain ⟨v1, vs1, d1, ds1, p1, q1, rfl, rfl, rfl, h1, r1⟩ := trodAll_cons r0
  obtain ⟨v2, vs2, d2, ds2, p2, q2, rfl, rfl, rfl, h2, r2⟩ := trodAll_cons r1
  obtain ⟨v3, vs3, d3, ds3, p3, q3, rfl, rfl, rfl, h3, r3⟩ := trodAll_cons r2
  obtain ⟨rfl, rfl, rfl⟩ := trodAll_nil r3
  obtain rfl : args = #[v0, v1, v2, v3] := by cases args; simp_all
  obtain ⟨rfl, rfl⟩ := trodVars_none hV
  obtain ⟨p0', n0, cap0, V0, rfl, hl0, hm0, hc0, hf0⟩ := open_slice_vals Try.underlying22 Try.underlying30 (by kernel_rfl) (show Try.prog.cellsOf 30 = 3 by kernel_rfl) (by decide) (hval 0 22 v0 rfl rfl) h0
  obtain ⟨A0, P0, R0, g0⟩ := marks_arg hl0 hm0 hc0 (fun i hi => hf0 i hi 0 _ rfl) (fun i hi => hf0 i hi 1 _ rfl) (fun i hi => hf0 i hi 2 _ rfl)
  obtain ⟨a1, rfl, rfl, rfl, w1⟩ := open_int Try.underlying3 (hval 1 3 v1 rfl rfl) h1
  obtain ⟨a2, rfl, rfl, rfl, w2⟩ := open_int Try.underlying3 (hval 2 3 v2 rfl rfl) h2
  obtain ⟨c30, c31, y30, y31, m3, rfl, rfl, rfl, hy30, hy31⟩ := Joins.open_agg2 Try.underlying33 (by kernel_rfl) (show Try.prog.cellsOf 33 = 2 by kernel_rfl) (hval 3 33 v3 rfl rfl) h3
  obtain ⟨u3, eu3, rfl, wu3⟩ := DataW.trod_int Try.underlying3 hy30
  obtain ⟨d3', ed3, rfl, wd3⟩ := DataW.trod_int Try.underlying3 hy31
  simp at eu3 ed3
  subst eu3 ed3
  clear hA0 hval0
  refine (law_back' cap0 a1 a2 u3 d3' W g0 (i64_of w1) (i64_of w2) (i64_of wu3) (i64_of wd3)).mono fun e W' ⟨he, hb⟩ => ?_
  subst he
  exact ⟨_, rfl, law_post (tb := 4) hW' Try.laidOut rfl (by rw [Try.params6]; kernel_rfl) rfl Try.underlying4 rfl hb⟩

/-- ████ THE STATEMENT ████ -/
theorem clockBack_holds : Rows.ClockBackSaid :=
  OpenClaim.holds_of_wide 6 Try.f6 rfl rfl rfl rfl rfl rfl rfl ⟨rfl, rfl, rfl, rfl, rfl⟩ rfl rfl rfl rfl rfl (by kernel_rfl) Try.func6 (by kernel_rfl)
    (of_decide_eq_true (by kernel_rfl)) (by unfold Func.isWrapper; first | (rw [if_pos (by decide +kernel)]; kernel_rfl) | (rw [if_neg (by decide +kernel)]; exact ⟨rfl, rfl⟩))
    (fun os started H enc _ => clockBack_lifted os started H enc)
#print axioms clockBack_holds
end Go.Proofs.Ytinpnjiinadaeaa.Cl
