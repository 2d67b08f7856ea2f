/-
  'MixSums' returns true for every input, and each argument reads behind the call as it read before. No condition.
-/
import Derived.Test.YtgkahjaoajjgcaaJLawSums24
import Derived.Test.YtgkahjaoajjgcaaJLawSums23
namespace Go.Proofs.Ytgkahjaoajjgcaa.Pm
open Go.ChangeShapes Go.WideShapes Go.ChangeAt Go.RowKit

theorem i64_of {n : Int} (h : (Lit.int .i64 n).wf = true) : -9223372036854775808 ≤ n ∧ n ≤ 9223372036854775807 := by
  simp [Lit.wf, IntKind.min, IntKind.max, IntKind.signed, IntKind.bits] at h; omega

set_option maxRecDepth 100000 in
theorem mixSums_lifted (os : Os) (started : os.Started) (H : Type) (enc : TypeId × Value → H) :
    ReturnsInHanded {} Try.checked os 6 .any (Rows.mixSumsSpec.pre6 enc Try.prog Try.f6 Rows.mixSumsRow.domain false) (Rows.mixSumsSpec.post enc Try.prog Try.f6 false true false false) := by
  refine returnsInHanded_of_change_sized (C := Try.checked) Try.own started (by kernel_rfl) Try.func6
    (ChangeSpec.witness6 (enc := enc) (C := Try.checked) false ⟨#[], #[.slice none 0 0, .slice none 0 0, .float .f64 0], []⟩ 8 (by kernel_rfl) (by kernel_rfl) (by kernel_rfl) (by kernel_rfl)) ?_
  intro W base args ds gs before hval0 hW hcnd hsz0 _
  have hval : ∀ (j : Nat) t v, Try.f6.params[j]? = some t → args[j]? = some v → Value.okWide Try.prog W .any base t v := hval0
  have hsz : (DataW.weightsEach Try.prog (Try.f6.params.toList ++ Rows.mixSumsSpec.plain.varTypes Try.prog) (ds ++ gs)).all (· ≤ reachBytes) = true := hsz0
  clear hsz0
  have hW' := hW
  obtain ⟨p, q, hA0, hV, rfl, hfz, hnd⟩ := hW
  have hA : DataW.TrodAll enc Try.prog W 0 (fun _ => true) true Try.f6.params.toList args.toList ds p := hA0
  rw [Try.params6] at hA hval hsz
  obtain ⟨v0, vs0, d0, ds0, p0, q0, hargs, rfl, rfl, h0, r0⟩ := trodAll_cons hA
  obtain ⟨v1, vs1, d1, ds1, p1, q1, rfl, rfl, rfl, h1, r1⟩ := trodAll_cons r0
  obtain ⟨v2, vs2, d2, ds2, p2, q2, rfl, rfl, rfl, h2, r2⟩ := trodAll_cons r1
  obtain ⟨rfl, rfl, rfl⟩ := trodAll_nil r2
  obtain rfl : args = #[v0, v1, v2] := by cases args; simp_all
  obtain ⟨rfl, rfl⟩ := trodVars_none hV
  obtain ⟨n0, ps0, hS0, hbk0, hr0⟩ := arg_any (Ts := [22, 23, 3]) (by kernel_rfl) (by decide) (hval 0 22 v0 rfl rfl) h0 hsz (j := 0) rfl rfl
  rw [Try.underlying22] at hr0
  simp only [isAggD] at hr0
  obtain ⟨pp0, rfl, hr0⟩ := hr0
  obtain ⟨T0, he0, wT0, mT0⟩ := sh_rows Try.underlying22 Try.underlying23 Try.underlying3 hS0
  simp only [List.cons.injEq, and_true] at he0
  subst he0
  obtain ⟨n1, ps1, hS1, hbk1, hr1⟩ := arg_any (Ts := [23, 3]) (by kernel_rfl) (by decide) (hval 1 23 v1 rfl rfl) h1 hsz (j := 1) rfl rfl
  rw [Try.underlying23] at hr1
  simp only [isAggD] at hr1
  obtain ⟨pp1, rfl, hr1⟩ := hr1
  obtain ⟨l1, he1, wl1, ml1, zl1⟩ := sh_ints Try.underlying23 Try.underlying3 hS1
  simp only [List.cons.injEq, and_true] at he1
  subst he1
  rw [show Try.prog.bytesOf 3 = 8 from by kernel_rfl] at zl1
  have zb1 : l1.length * 8 ≤ 140737488351232 := zl1
  obtain ⟨n2, ps2, hS2, hbk2, hr2⟩ := arg_any (Ts := [42]) (by kernel_rfl) (by decide) (hval 2 42 v2 rfl rfl) h2 hsz (j := 2) rfl rfl
  rw [Try.underlying42] at hr2
  simp only [isAggD] at hr2
  obtain ⟨pp2, rfl, hr2⟩ := hr2
  obtain ⟨x2, he2, w2⟩ := sh_float Try.underlying42 hS2
  simp only [List.cons.injEq, and_true] at he2
  subst he2
  clear hA0 hval0
  refine (pc_calls (law_sums T0 l1 x2 (by have h0 := mT0; unfold maxLen at h0; omega) (row_lim wT0)) rfl (fun i hi => match i, hi with | 0, _ => hr0 | 1, _ => hr1 | 2, _ => hr2 | _ + 3, h => absurd h (Nat.not_lt.2 (Nat.le_add_left 3 _)))).mono fun e W' ⟨he, hb⟩ => ?_
  subst he
  exact ⟨_, rfl, law_post (tb := 4) hW' Try.laidOut rfl (by rw [Try.params6]; kernel_rfl) rfl Try.underlying4 rfl hb⟩

/-- ████ THE STATEMENT ████ -/
theorem mixSums_holds : Rows.MixSumsSaid :=
  OpenClaim.holds_of_wide 6 Try.f6 rfl rfl rfl rfl rfl rfl rfl ⟨rfl, rfl, rfl, rfl, rfl⟩ rfl rfl rfl rfl rfl (by kernel_rfl) Try.func6 (by kernel_rfl)
    (of_decide_eq_true (by kernel_rfl)) (by unfold Func.isWrapper; first | (rw [if_pos (by decide +kernel)]; kernel_rfl) | (rw [if_neg (by decide +kernel)]; exact ⟨rfl, rfl⟩))
    (fun os started H enc _ => mixSums_lifted os started H enc)
#print axioms mixSums_holds
end Go.Proofs.Ytgkahjaoajjgcaa.Pm
