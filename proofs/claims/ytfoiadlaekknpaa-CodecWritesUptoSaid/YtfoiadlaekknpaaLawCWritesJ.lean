/-
  'CodecWrites' returns true for every input whose bulk is at most 1048576, and each argument reads behind the call as it read before. The condition: the bulk.
-/
import Derived.Test.YtfoiadlaekknpaaJLawCWrites6
import Derived.Test.YtfoiadlaekknpaaJLawCWrites3
import Derived.Deep.CondSized
namespace Go.Proofs.Ytfoiadlaekknpaa.Pm
open Go.ChangeShapes Go.WideShapes Go.ChangeAt Go.RowKit

theorem i64_of {n : Int} (h : (Lit.int .i64 n).wf = true) : -9223372036854775808 ≤ n ∧ n ≤ 9223372036854775807 := by
  simp [Lit.wf, IntKind.min, IntKind.max, IntKind.signed, IntKind.bits] at h; omega

set_option maxRecDepth 100000 in
theorem codecWrites_lifted (os : Os) (started : os.Started) (H : Type) (enc : TypeId × Value → H) (F : Stop.Interp) :
    ReturnsInHanded {} Try.checked os 4 .any ((Rows.OpenSpec.upto Rows.codecWritesSpec).pre6 enc Try.prog Try.f4 Rows.codecWritesUptoRow.domain false) (((Rows.OpenSpec.upto Rows.codecWritesSpec).at F).post enc Try.prog Try.f4 false true false false) := by
  refine returnsInHanded_of_cond_sized (C := Try.checked) (s := Rows.OpenSpec.upto Rows.codecWritesSpec) (k := Rows.uptoSmall) rfl Try.own started (by kernel_rfl) Try.func4
    (OpenSpec.witness (enc := enc) (C := Try.checked) (s := Rows.OpenSpec.upto Rows.codecWritesSpec) (k := Rows.uptoSmall) rfl false ⟨#[], #[.slice none 0 0, .string .empty], []⟩ 8 (by kernel_rfl) (by kernel_rfl) (by kernel_rfl)
      (x := ([.nil, .lit (.string [])], [], [])) (by kernel_rfl) rfl (by kernel_rfl)) ?_
  intro W base args ds gs before hval0 hW hcnd hk hsz0 _
  have hval : ∀ (j : Nat) t v, Try.f4.params[j]? = some t → args[j]? = some v → Value.okWide Try.prog W .any base t v := hval0
  have hsz : (DataW.weightsEach Try.prog (Try.f4.params.toList ++ Rows.codecWritesSpec.plain.varTypes Try.prog) (ds ++ gs)).all (· ≤ reachBytes) = true := hsz0
  clear hsz0
  have hW' := hW
  obtain ⟨p, q, hA0, hV, rfl, hfz, hnd⟩ := hW
  have hA : DataW.TrodAll enc Try.prog W 0 (fun _ => true) true Try.f4.params.toList args.toList ds p := hA0
  rw [Try.params4] at hA hval hsz
  obtain ⟨v0, vs0, d0, ds0, p0, q0, hargs, rfl, rfl, h0, r0⟩ := trodAll_cons hA
  obtain ⟨v1, vs1, d1, ds1, p1, q1, rfl, rfl, rfl, h1, r1⟩ := trodAll_cons r0
  obtain ⟨rfl, rfl, rfl⟩ := trodAll_nil r1
  obtain rfl : args = #[v0, v1] := by cases args; simp_all
  obtain ⟨rfl, rfl⟩ := trodVars_none hV
  have hkk := small_bulk hk
  rw [List.append_nil] at hkk
  have hk0 := Nat.le_trans (bulk_mem (d := d0) (by simp)) hkk
  have hk1 := Nat.le_trans (bulk_mem (d := d1) (by simp)) hkk
  obtain ⟨n0, ps0, hS0, hbk0, hr0⟩ := arg_any (Ts := [22, 3]) (by kernel_rfl) (by decide) (hval 0 22 v0 rfl rfl) h0 hsz (j := 0) rfl rfl
  rw [Try.underlying22] at hr0
  simp only [isAggD] at hr0
  obtain ⟨pp0, rfl, hr0⟩ := hr0
  obtain ⟨l0, he0, wl0, ml0, zl0⟩ := sh_ints Try.underlying22 Try.underlying3 hS0
  simp only [List.cons.injEq, and_true] at he0
  subst he0
  rw [show Try.prog.bytesOf 3 = 8 from by kernel_rfl] at zl0
  have zb0 : l0.length * 8 ≤ 140737488351232 := zl0
  obtain ⟨n1, ps1, hS1, hbk1, hr1⟩ := arg_any (Ts := [9]) (by kernel_rfl) (by decide) (hval 1 9 v1 rfl rfl) h1 hsz (j := 1) rfl rfl
  rw [Try.underlying9] at hr1
  simp only [isAggD] at hr1
  obtain ⟨pp1, rfl, hr1⟩ := hr1
  obtain ⟨s1, he1, ms1⟩ := sh_str Try.underlying9 hS1
  simp only [List.cons.injEq, and_true] at he1
  subst he1
  clear hA0 hval0
  refine (pc_calls (law_writes l0 (by simp only [pvws, pvw, pvws_ints] at hbk0; omega) s1 (by simp only [pvws, pvw] at hbk1; omega)) rfl (fun i hi => match i, hi with | 0, _ => hr0 | 1, _ => hr1 | _ + 2, h => absurd h (Nat.not_lt.2 (Nat.le_add_left 2 _)))).mono fun e W' ⟨he, hb⟩ => ?_
  subst he
  exact ⟨_, rfl, law_post (tb := 4) hW' Try.laidOut rfl (by rw [Try.params4]; kernel_rfl) rfl Try.underlying4 rfl hb⟩

/-- ████ THE STATEMENT ████ -/
theorem codecWrites_holds : Rows.CodecWritesUptoSaid :=
  OpenClaim.holds_of_cond 4 Try.f4 rfl rfl rfl rfl rfl rfl rfl ⟨rfl, rfl, rfl, rfl, rfl⟩ rfl rfl rfl rfl rfl (by kernel_rfl) Try.func4 (by kernel_rfl)
    (of_decide_eq_true (by kernel_rfl)) (by unfold Func.isWrapper; first | (rw [if_pos (by decide +kernel)]; kernel_rfl) | (rw [if_neg (by decide +kernel)]; exact ⟨rfl, rfl⟩))
    (fun os started H enc _ F => codecWrites_lifted os started H enc F)
#print axioms codecWrites_holds
end Go.Proofs.Ytfoiadlaekknpaa.Pm
