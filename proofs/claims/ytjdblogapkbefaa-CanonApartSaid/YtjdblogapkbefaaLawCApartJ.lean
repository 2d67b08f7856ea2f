/-
  'CanonApart' returns true for every input, and each argument reads behind the call as it read before. No condition.
-/
import Derived.Test.YtjdblogapkbefaaJLawCApart7
namespace Go.Proofs.Ytjdblogapkbefaa.Pm
open Go.ChangeShapes Go.WideShapes Go.ChangeAt Go.RowKit

theorem i64_of {n : Int} (h : (Lit.int .i64 n).wf = true) : -9223372036854775808 ≤ n ∧ n ≤ 9223372036854775807 := by
  simp [Lit.wf, IntKind.min, IntKind.max, IntKind.signed, IntKind.bits] at h; omega

set_option maxRecDepth 100000 in
theorem canonApart_lifted (os : Os) (started : os.Started) (H : Type) (enc : TypeId × Value → H) :
    ReturnsInHanded {} Try.checked os 3 .any (Rows.canonApartSpec.pre6 enc Try.prog Try.f3 Rows.canonApartRow.domain false) (Rows.canonApartSpec.post enc Try.prog Try.f3 false true false false) := by
  refine returnsInHanded_of_change_sized (C := Try.checked) Try.own started (by kernel_rfl) Try.func3
    (ChangeSpec.witness6 (enc := enc) (C := Try.checked) false ⟨#[], #[.slice none 0 0, .int .i64 0, .agg #[.int .i64 0, .int .i64 0], .agg #[.int .i64 0, .int .i64 0, .int .i64 0], .bool false, .bool false], []⟩ 8 (by kernel_rfl) (by kernel_rfl) (by kernel_rfl) (by kernel_rfl)) ?_
  intro W base args ds gs before hval0 hW hcnd hsz0 _
  have hval : ∀ (j : Nat) t v, Try.f3.params[j]? = some t → args[j]? = some v → Value.okWide Try.prog W .any base t v := hval0
  have hsz : (DataW.weightsEach Try.prog (Try.f3.params.toList ++ Rows.canonApartSpec.plain.varTypes Try.prog) (ds ++ gs)).all (· ≤ reachBytes) = true := hsz0
  clear hsz0
  have hW' := hW
  obtain ⟨p, q, hA0, hV, rfl, hfz, hnd⟩ := hW
  have hA : DataW.TrodAll enc Try.prog W 0 (fun _ => true) true Try.f3.params.toList args.toList ds p := hA0
  rw [Try.params3] at hA hval hsz
  obtain ⟨v0, vs0, d0, ds0, p0, q0, hargs, rfl, rfl, h0, r0⟩ := trodAll_cons hA
  obtain ⟨v1, vs1, d1, ds1, p1, q1, rfl, rfl, rfl, h1, r1⟩ := trodAll_cons r0
  obtain ⟨v2, vs2, d2, ds2, p2, q2, rfl, rfl, rfl, h2, r2⟩ := trodAll_cons r1
  obtain ⟨v3, vs3, d3, ds3, p3, q3, rfl, rfl, rfl, h3, r3⟩ := trodAll_cons r2
  obtain ⟨v4, vs4, d4, ds4, p4, q4, rfl, rfl, rfl, h4, r4⟩ := trodAll_cons r3
  obtain ⟨v5, vs5, d5, ds5, p5, q5, rfl, rfl, rfl, h5, r5⟩ := trodAll_cons r4
  obtain ⟨rfl, rfl, rfl⟩ := trodAll_nil r5
  obtain rfl : args = #[v0, v1, v2, v3, v4, v5] := by cases args; simp_all
  obtain ⟨rfl, rfl⟩ := trodVars_none hV
  obtain ⟨n0, ps0, hS0, hbk0, hr0⟩ := arg_any (Ts := [22, 41, 3, 26]) (by kernel_rfl) (by decide) (hval 0 22 v0 rfl rfl) h0 hsz (j := 0) rfl rfl
  rw [Try.underlying22] at hr0
  simp only [isAggD] at hr0
  obtain ⟨pp0, rfl, hr0⟩ := hr0
  obtain ⟨l0, rfl, hI0⟩ := tones_of n0 _ hS0
  obtain ⟨n1, ps1, hS1, hbk1, hr1⟩ := arg_any (Ts := [3]) (by kernel_rfl) (by decide) (hval 1 3 v1 rfl rfl) h1 hsz (j := 1) rfl rfl
  rw [Try.underlying3] at hr1
  simp only [isAggD] at hr1
  obtain ⟨pp1, rfl, hr1⟩ := hr1
  obtain ⟨a1, he1, w1⟩ := sh_num Try.underlying3 hS1
  simp only [List.cons.injEq, and_true] at he1
  subst he1
  obtain ⟨n2, ps2, hS2, hbk2, hr2⟩ := arg_any (Ts := [24, 3]) (by kernel_rfl) (by decide) (hval 2 24 v2 rfl rfl) h2 hsz (j := 2) rfl rfl
  rw [Try.underlying24] at hr2
  simp only [isAggD] at hr2
  obtain ⟨s2, k2, rfl, hs2, hk2⟩ := inv_of n2 ps2 hS2
  obtain ⟨n3, ps3, hS3, hbk3, hr3⟩ := arg_any (Ts := [26, 3]) (by kernel_rfl) (by decide) (hval 3 26 v3 rfl rfl) h3 hsz (j := 3) rfl rfl
  rw [Try.underlying26] at hr3
  simp only [isAggD] at hr3
  obtain ⟨p3, q3, o3, rfl, _, _, _⟩ := pit_of n3 ps3 hS3
  obtain ⟨n4, ps4, hS4, hbk4, hr4⟩ := arg_any (Ts := [4]) (by kernel_rfl) (by decide) (hval 4 4 v4 rfl rfl) h4 hsz (j := 4) rfl rfl
  rw [Try.underlying4] at hr4
  simp only [isAggD] at hr4
  obtain ⟨pp4, rfl, hr4⟩ := hr4
  obtain ⟨b4, he4⟩ := sh_bool Try.underlying4 hS4
  simp only [List.cons.injEq, and_true] at he4
  subst he4
  obtain ⟨n5, ps5, hS5, hbk5, hr5⟩ := arg_any (Ts := [4]) (by kernel_rfl) (by decide) (hval 5 4 v5 rfl rfl) h5 hsz (j := 5) rfl rfl
  rw [Try.underlying4] at hr5
  simp only [isAggD] at hr5
  obtain ⟨pp5, rfl, hr5⟩ := hr5
  obtain ⟨b5, he5⟩ := sh_bool Try.underlying4 hS5
  simp only [List.cons.injEq, and_true] at he5
  subst he5
  clear hA0 hval0
  refine (pc_calls (law_apart l0 a1 s2 k2 p3 q3 o3 b4 b5 hs2 hk2) rfl (fun i hi => match i, hi with | 0, _ => hr0 | 1, _ => hr1 | 2, _ => hr2 | 3, _ => hr3 | 4, _ => hr4 | 5, _ => hr5 | _ + 6, h => absurd h (Nat.not_lt.2 (Nat.le_add_left 6 _)))).mono fun e W' ⟨he, hb⟩ => ?_
  subst he
  exact ⟨_, rfl, law_post (tb := 4) hW' Try.laidOut rfl (by rw [Try.params3]; kernel_rfl) rfl Try.underlying4 rfl hb⟩

/-- ████ THE STATEMENT ████ -/
theorem canonApart_holds : Rows.CanonApartSaid :=
  OpenClaim.holds_of_wide 3 Try.f3 rfl rfl rfl rfl rfl rfl rfl ⟨rfl, rfl, rfl, rfl, rfl⟩ rfl rfl rfl rfl rfl (by kernel_rfl) Try.func3 (by kernel_rfl)
    (of_decide_eq_true (by kernel_rfl)) (by unfold Func.isWrapper; first | (rw [if_pos (by decide +kernel)]; kernel_rfl) | (rw [if_neg (by decide +kernel)]; exact ⟨rfl, rfl⟩))
    (fun os started H enc _ => canonApart_lifted os started H enc)
#print axioms canonApart_holds
end Go.Proofs.Ytjdblogapkbefaa.Pm
