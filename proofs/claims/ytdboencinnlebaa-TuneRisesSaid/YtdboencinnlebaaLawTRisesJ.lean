/-
  'TuneRises' returns true for every input, and each argument reads behind the call as it read before. No condition.
-/
import Derived.Test.YtdboencinnlebaaJLawTRises4
namespace Go.Proofs.Ytdboencinnlebaa.Pm
open Go.ChangeShapes Go.WideShapes Go.ChangeAt Go.RowKit

theorem i64_of {n : Int} (h : (Lit.int .i64 n).wf = true) : -9223372036854775808 ≤ n ∧ n ≤ 9223372036854775807 := by
  simp [Lit.wf, IntKind.min, IntKind.max, IntKind.signed, IntKind.bits] at h; omega

set_option maxRecDepth 100000 in
theorem tuneRises_lifted (os : Os) (started : os.Started) (H : Type) (enc : TypeId × Value → H) :
    ReturnsInHanded {} Try.checked os 4 .any (Rows.tuneRisesSpec.pre6 enc Try.prog Try.f4 Rows.tuneRisesRow.domain false) (Rows.tuneRisesSpec.post enc Try.prog Try.f4 false true false false) := by
  refine returnsInHanded_of_change_sized (C := Try.checked) Try.own started (by kernel_rfl) Try.func4
    (ChangeSpec.witness6 (enc := enc) (C := Try.checked) false ⟨#[], #[.agg #[.int .i64 0, .int .i64 0, .int .i64 0], .agg #[.int .i64 0, .int .i64 0, .int .i64 0], .float .f64 0], []⟩ 8 (by kernel_rfl) (by kernel_rfl) (by kernel_rfl) (by kernel_rfl)) ?_
  intro W base args ds gs before hval0 hW hcnd hsz0 _
  have hval : ∀ (j : Nat) t v, Try.f4.params[j]? = some t → args[j]? = some v → Value.okWide Try.prog W .any base t v := hval0
  have hsz : (DataW.weightsEach Try.prog (Try.f4.params.toList ++ Rows.tuneRisesSpec.plain.varTypes Try.prog) (ds ++ gs)).all (· ≤ reachBytes) = true := hsz0
  clear hsz0
  have hW' := hW
  obtain ⟨p, q, hA0, hV, rfl, hfz, hnd⟩ := hW
  have hA : DataW.TrodAll enc Try.prog W 0 (fun _ => true) true Try.f4.params.toList args.toList ds p := hA0
  rw [Try.params4] at hA hval hsz
  obtain ⟨v0, vs0, d0, ds0, p0, q0, hargs, rfl, rfl, h0, r0⟩ := trodAll_cons hA
  obtain ⟨v1, vs1, d1, ds1, p1, q1, rfl, rfl, rfl, h1, r1⟩ := trodAll_cons r0
  obtain ⟨v2, vs2, d2, ds2, p2, q2, rfl, rfl, rfl, h2, r2⟩ := trodAll_cons r1
  obtain ⟨rfl, rfl, rfl⟩ := trodAll_nil r2
  obtain rfl : args = #[v0, v1, v2] := by cases args; simp_all
  obtain ⟨rfl, rfl⟩ := trodVars_none hV
  obtain ⟨n0, ps0, hS0, hbk0, hr0⟩ := arg_any (Ts := [35, 3]) (by kernel_rfl) (by decide) (hval 0 35 v0 rfl rfl) h0 hsz (j := 0) rfl rfl
  rw [Try.underlying35] at hr0
  simp only [isAggD] at hr0
  obtain ⟨p0, q0, o0, rfl, _, _, _⟩ := pit_of n0 ps0 hS0
  obtain ⟨n1, ps1, hS1, hbk1, hr1⟩ := arg_any (Ts := [35, 3]) (by kernel_rfl) (by decide) (hval 1 35 v1 rfl rfl) h1 hsz (j := 1) rfl rfl
  rw [Try.underlying35] at hr1
  simp only [isAggD] at hr1
  obtain ⟨p1, q1, o1, rfl, _, _, _⟩ := pit_of n1 ps1 hS1
  obtain ⟨n2, ps2, hS2, hbk2, hr2⟩ := arg_any (Ts := [36]) (by kernel_rfl) (by decide) (hval 2 36 v2 rfl rfl) h2 hsz (j := 2) rfl rfl
  rw [Try.underlying36] at hr2
  simp only [isAggD] at hr2
  obtain ⟨pp2, rfl, hr2⟩ := hr2
  obtain ⟨x2, rfl, hx2⟩ := flo_of n2 _ hS2
  clear hA0 hval0
  refine (pc_calls (law_rises p0 q0 o0 p1 q1 o1 x2 hx2) rfl (fun i hi => match i, hi with | 0, _ => hr0 | 1, _ => hr1 | 2, _ => hr2 | _ + 3, h => absurd h (Nat.not_lt.2 (Nat.le_add_left 3 _)))).mono fun e W' ⟨he, hb⟩ => ?_
  subst he
  exact ⟨_, rfl, law_post (tb := 4) hW' Try.laidOut rfl (by rw [Try.params4]; kernel_rfl) rfl Try.underlying4 rfl hb⟩

/-- ████ THE STATEMENT ████ -/
theorem tuneRises_holds : Rows.TuneRisesSaid :=
  OpenClaim.holds_of_wide 4 Try.f4 rfl rfl rfl rfl rfl rfl rfl ⟨rfl, rfl, rfl, rfl, rfl⟩ rfl rfl rfl rfl rfl (by kernel_rfl) Try.func4 (by kernel_rfl)
    (of_decide_eq_true (by kernel_rfl)) (by unfold Func.isWrapper; first | (rw [if_pos (by decide +kernel)]; kernel_rfl) | (rw [if_neg (by decide +kernel)]; exact ⟨rfl, rfl⟩))
    (fun os started H enc _ => tuneRises_lifted os started H enc)
#print axioms tuneRises_holds
end Go.Proofs.Ytdboencinnlebaa.Pm
