/-
  'FourierRing' returns true for every input, and each argument reads behind the call as it read before. No condition.
-/
import Derived.Test.YtfibadnkhbjciaaJLawRing5
namespace Go.Proofs.Ytfibadnkhbjciaa.Pm
open Go.ChangeShapes Go.WideShapes Go.ChangeAt Go.RowKit Go.Conc

theorem i64_of {n : Int} (h : (Lit.int .i64 n).wf = true) : -9223372036854775808 ≤ n ∧ n ≤ 9223372036854775807 := by
  simp [Lit.wf, IntKind.min, IntKind.max, IntKind.signed, IntKind.bits] at h; omega

set_option maxRecDepth 100000 in
theorem fourierRing_lifted (os : Os) (started : os.Started) (H : Type) (enc : TypeId × Value → H) (F : Stop.Interp) :
    ReturnsInLeavingWide Rows.fourierRingRow.assume Try.checked os 4 .any (Rows.fourierRingSpec.pre6 enc Try.prog Try.f4 Rows.fourierRingRow.domain false) ((OpenSpec.ofChange Rows.fourierRingSpec).postWith enc Try.prog Try.f4 F (outsideKept [.timePasses]) false true false) := by
  refine returnsInLeavingWide_of_change_time (C := Try.checked) Try.own started Try.func4
    (ChangeSpec.witness6c (enc := enc) (C := Try.checked) ⟨#[], #[.slice none 0 0, .slice none 0 0, .slice none 0 0, .int .i64 0], []⟩ 8 (by kernel_rfl) (by kernel_rfl) (by kernel_rfl) (by kernel_rfl)) ?_
  intro W base args ds gs before hval0 hW _ hsz0 _
  have hval : ∀ (j : Nat) t v, Try.f4.params[j]? = some t → args[j]? = some v → Value.okWide Try.prog W .any base t v := hval0
  have hsz : (DataW.weightsEach Try.prog (Try.f4.params.toList ++ Rows.fourierRingSpec.plain.varTypes Try.prog) (ds ++ gs)).all (· ≤ reachBytes) = true := hsz0
  clear hsz0
  have hW' := hW
  obtain ⟨p, q, hA0, hV, rfl, hfz, hnd⟩ := hW
  have hA : DataW.TrodAll enc Try.prog W 0 (fun _ => true) true Try.f4.params.toList args.toList ds p := hA0
  rw [Try.params4] at hA hval hsz
  obtain ⟨v0, vs0, d0, ds0, p0, q0, hargs, rfl, rfl, h0, r0⟩ := trodAll_cons hA
  obtain ⟨v1, vs1, d1, ds1, p1, q1, rfl, rfl, rfl, h1, r1⟩ := trodAll_cons r0
  obtain ⟨v2, vs2, d2, ds2, p2, q2, rfl, rfl, rfl, h2, r2⟩ := trodAll_cons r1
  obtain ⟨v3, vs3, d3, ds3, p3, q3, rfl, rfl, rfl, h3, r3⟩ := trodAll_cons r2
  obtain ⟨rfl, rfl, rfl⟩ := trodAll_nil r3
  obtain rfl : args = #[v0, v1, v2, v3] := by cases args; simp_all
  obtain ⟨rfl, rfl⟩ := trodVars_none hV
  obtain ⟨n0, ps0, hS0, hbk0, hr0⟩ := arg_any (Ts := [22, 3]) (by kernel_rfl) (by decide) (hval 0 22 v0 rfl rfl) h0 hsz (j := 0) rfl rfl
  rw [Try.underlying22] at hr0
  simp only [isAggD] at hr0
  obtain ⟨pp0, rfl, hr0⟩ := hr0
  obtain ⟨l0, he0, wl0, ml0, zl0⟩ := sh_ints Try.underlying22 Try.underlying3 hS0
  simp only [List.cons.injEq, and_true] at he0
  subst he0
  rw [show Try.prog.bytesOf 3 = 8 from by kernel_rfl] at zl0
  have zb0 : l0.length * 8 ≤ 140737488351232 := zl0
  obtain ⟨n1, ps1, hS1, hbk1, hr1⟩ := arg_any (Ts := [22, 3]) (by kernel_rfl) (by decide) (hval 1 22 v1 rfl rfl) h1 hsz (j := 1) rfl rfl
  rw [Try.underlying22] at hr1
  simp only [isAggD] at hr1
  obtain ⟨pp1, rfl, hr1⟩ := hr1
  obtain ⟨l1, he1, wl1, ml1, zl1⟩ := sh_ints Try.underlying22 Try.underlying3 hS1
  simp only [List.cons.injEq, and_true] at he1
  subst he1
  rw [show Try.prog.bytesOf 3 = 8 from by kernel_rfl] at zl1
  have zb1 : l1.length * 8 ≤ 140737488351232 := zl1
  obtain ⟨n2, ps2, hS2, hbk2, hr2⟩ := arg_any (Ts := [22, 3]) (by kernel_rfl) (by decide) (hval 2 22 v2 rfl rfl) h2 hsz (j := 2) rfl rfl
  rw [Try.underlying22] at hr2
  simp only [isAggD] at hr2
  obtain ⟨pp2, rfl, hr2⟩ := hr2
  obtain ⟨l2, he2, wl2, ml2, zl2⟩ := sh_ints Try.underlying22 Try.underlying3 hS2
  simp only [List.cons.injEq, and_true] at he2
  subst he2
  rw [show Try.prog.bytesOf 3 = 8 from by kernel_rfl] at zl2
  have zb2 : l2.length * 8 ≤ 140737488351232 := zl2
  obtain ⟨n3, ps3, hS3, hbk3, hr3⟩ := arg_any (Ts := [3]) (by kernel_rfl) (by decide) (hval 3 3 v3 rfl rfl) h3 hsz (j := 3) rfl rfl
  rw [Try.underlying3] at hr3
  simp only [isAggD] at hr3
  obtain ⟨pp3, rfl, hr3⟩ := hr3
  obtain ⟨a3, he3, w3⟩ := sh_num Try.underlying3 hS3
  simp only [List.cons.injEq, and_true] at he3
  subst he3
  clear hA0 hval0
  obtain ⟨M, last, o, w', t', r1, r2, r3, v, e, hp, g1, g2, g3, g4⟩ := run_of_calls (f := 4) (args := #[v0, v1, v2, v3]) (w := W) (R := fun v W' => v = .bool true ∧ Below W.heap.size W W') (by kernel_rfl) ((pc_calls (law_ring l0 l1 l2 a3 (by omega) (by omega) (by omega) (i64_of w3).1 (i64_of w3).2) rfl (fun i hi => match i, hi with | 0, _ => hr0 | 1, _ => hr1 | 2, _ => hr2 | 3, _ => hr3 | _ + 4, h => absurd h (Nat.not_lt.2 (Nat.le_add_left 4 _)))).mono fun e W' ⟨he, hb⟩ => by subst he; exact ⟨rfl, hb⟩)
  refine ⟨M, last, o, w', t', r1, r2, r3, v, e, ?_, g1, g2, g3, g4⟩
  obtain ⟨rfl, hb⟩ := hp
  have hb' : Below W.heap.size W { w' with os := W.os } := ⟨rfl, hb.tape, hb.output, hb.size, hb.block⟩
  exact ⟨law_post (tb := 4) hW' Try.laidOut rfl (by rw [Try.params4]; kernel_rfl) rfl Try.underlying4 rfl hb', by rw [hb.os]; exact Go.ConcM.OsLater.refl _⟩

/-- ████ THE STATEMENT ████ -/
theorem fourierRing_holds : Rows.FourierRingSaid :=
  OpenClaim.holds_of_wide_leaving_time 4 Try.f4 rfl rfl rfl rfl rfl rfl rfl ⟨rfl, rfl, rfl, rfl, rfl⟩ rfl rfl rfl rfl rfl (by kernel_rfl) Try.func4 (by kernel_rfl)
    (of_decide_eq_true (by kernel_rfl)) (by unfold Func.isWrapper; first | (rw [if_pos (by decide +kernel)]; kernel_rfl) | (rw [if_neg (by decide +kernel)]; exact ⟨rfl, rfl⟩))
    (fun os started H enc _ F => fourierRing_lifted os started H enc F)
#print axioms fourierRing_holds
end Go.Proofs.Ytfibadnkhbjciaa.Pm
