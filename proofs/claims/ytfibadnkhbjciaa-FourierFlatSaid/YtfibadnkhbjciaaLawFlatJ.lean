/-
  'FourierFlat' returns true for every input, and each argument reads behind the call as it read before. No condition.
-/
import Derived.Test.YtfibadnkhbjciaaJLawFlat5
namespace Go.Proofs.Ytfibadnkhbjciaa.Pm
open Go.ChangeShapes Go.WideShapes Go.ChangeAt Go.RowKit Go.Conc

theorem i64_of {n : Int} (h : (Lit.int .i64 n).wf = true) : -9223372036854775808 ≤ n ∧ n ≤ 9223372036854775807 := by
  simp [Lit.wf, IntKind.min, IntKind.max, IntKind.signed, IntKind.bits] at h; omega

set_option maxRecDepth 100000 in
theorem fourierFlat_lifted (os : Os) (started : os.Started) (H : Type) (enc : TypeId × Value → H) (F : Stop.Interp) :
    ReturnsInLeavingWide Rows.fourierFlatRow.assume Try.checked os 5 .any (Rows.fourierFlatSpec.pre6 enc Try.prog Try.f5 Rows.fourierFlatRow.domain false) ((OpenSpec.ofChange Rows.fourierFlatSpec).postWith enc Try.prog Try.f5 F (outsideKept [.timePasses]) false true false) := by
  refine returnsInLeavingWide_of_change_time (C := Try.checked) Try.own started Try.func5
    (ChangeSpec.witness6c (enc := enc) (C := Try.checked) ⟨#[], #[.int .i64 0, .float .f64 0], []⟩ 8 (by kernel_rfl) (by kernel_rfl) (by kernel_rfl) (by kernel_rfl)) ?_
  intro W base args ds gs before hval0 hW _ hsz0 _
  have hval : ∀ (j : Nat) t v, Try.f5.params[j]? = some t → args[j]? = some v → Value.okWide Try.prog W .any base t v := hval0
  have hsz : (DataW.weightsEach Try.prog (Try.f5.params.toList ++ Rows.fourierFlatSpec.plain.varTypes Try.prog) (ds ++ gs)).all (· ≤ reachBytes) = true := hsz0
  clear hsz0
  have hW' := hW
  obtain ⟨p, q, hA0, hV, rfl, hfz, hnd⟩ := hW
  have hA : DataW.TrodAll enc Try.prog W 0 (fun _ => true) true Try.f5.params.toList args.toList ds p := hA0
  rw [Try.params5] at hA hval hsz
  obtain ⟨v0, vs0, d0, ds0, p0, q0, hargs, rfl, rfl, h0, r0⟩ := trodAll_cons hA
  obtain ⟨v1, vs1, d1, ds1, p1, q1, rfl, rfl, rfl, h1, r1⟩ := trodAll_cons r0
  obtain ⟨rfl, rfl, rfl⟩ := trodAll_nil r1
  obtain rfl : args = #[v0, v1] := by cases args; simp_all
  obtain ⟨rfl, rfl⟩ := trodVars_none hV
  obtain ⟨n0, ps0, hS0, hbk0, hr0⟩ := arg_any (Ts := [3]) (by kernel_rfl) (by decide) (hval 0 3 v0 rfl rfl) h0 hsz (j := 0) rfl rfl
  rw [Try.underlying3] at hr0
  simp only [isAggD] at hr0
  obtain ⟨pp0, rfl, hr0⟩ := hr0
  obtain ⟨a0, he0, w0⟩ := sh_num Try.underlying3 hS0
  simp only [List.cons.injEq, and_true] at he0
  subst he0
  obtain ⟨n1, ps1, hS1, hbk1, hr1⟩ := arg_any (Ts := [29]) (by kernel_rfl) (by decide) (hval 1 29 v1 rfl rfl) h1 hsz (j := 1) rfl rfl
  rw [Try.underlying29] at hr1
  simp only [isAggD] at hr1
  obtain ⟨pp1, rfl, hr1⟩ := hr1
  obtain ⟨x1, he1, w1⟩ := sh_float Try.underlying29 hS1
  simp only [List.cons.injEq, and_true] at he1
  subst he1
  clear hA0 hval0
  obtain ⟨M, last, o, w', t', r1, r2, r3, v, e, hp, g1, g2, g3, g4⟩ := run_of_calls (f := 5) (args := #[v0, v1]) (w := W) (R := fun v W' => v = .bool true ∧ Below W.heap.size W W') (by kernel_rfl) ((pc_calls (law_flat a0 x1 (f64_of w1)) rfl (fun i hi => match i, hi with | 0, _ => hr0 | 1, _ => hr1 | _ + 2, h => absurd h (Nat.not_lt.2 (Nat.le_add_left 2 _)))).mono fun e W' ⟨he, hb⟩ => by subst he; exact ⟨rfl, hb⟩)
  refine ⟨M, last, o, w', t', r1, r2, r3, v, e, ?_, g1, g2, g3, g4⟩
  obtain ⟨rfl, hb⟩ := hp
  have hb' : Below W.heap.size W { w' with os := W.os } := ⟨rfl, hb.tape, hb.output, hb.size, hb.block⟩
  exact ⟨law_post (tb := 4) hW' Try.laidOut rfl (by rw [Try.params5]; kernel_rfl) rfl Try.underlying4 rfl hb', by rw [hb.os]; exact Go.ConcM.OsLater.refl _⟩

/-- ████ THE STATEMENT ████ -/
theorem fourierFlat_holds : Rows.FourierFlatSaid :=
  OpenClaim.holds_of_wide_leaving_time 5 Try.f5 rfl rfl rfl rfl rfl rfl rfl ⟨rfl, rfl, rfl, rfl, rfl⟩ rfl rfl rfl rfl rfl (by kernel_rfl) Try.func5 (by kernel_rfl)
    (of_decide_eq_true (by kernel_rfl)) (by unfold Func.isWrapper; first | (rw [if_pos (by decide +kernel)]; kernel_rfl) | (rw [if_neg (by decide +kernel)]; exact ⟨rfl, rfl⟩))
    (fun os started H enc _ F => fourierFlat_lifted os started H enc F)
#print axioms fourierFlat_holds
end Go.Proofs.Ytfibadnkhbjciaa.Pm
