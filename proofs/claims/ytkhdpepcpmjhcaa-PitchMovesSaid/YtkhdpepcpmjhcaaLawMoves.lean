/-
  'PitchMoves' returns true for every input, and each argument reads behind the call as it read before. No condition.
-/
import Derived.Test.YtkhdpepcpmjhcaaLawMovesW
import Derived.Test.YtkhdpepcpmjhcaaRowKit
namespace Go.Proofs.Ytkhdpepcpmjhcaa.Pi
open Go.ChangeShapes Go.WideShapes Go.ChangeAt Go.RowKit

theorem i64_of {n : Int} (h : (Lit.int .i64 n).wf = true) : I64 n := by
  simp [Lit.wf, IntKind.min, IntKind.max, IntKind.signed, IntKind.bits] at h; unfold I64; omega

set_option maxRecDepth 100000 in
theorem pitchMoves_lifted (os : Os) (started : os.Started) (H : Type) (enc : TypeId × Value → H) :
    ReturnsInHanded {} Try.checked os 5 .any (Rows.pitchMovesSpec.pre6 enc Try.prog Try.f5 Rows.pitchMovesRow.domain false) (Rows.pitchMovesSpec.post enc Try.prog Try.f5 false true false false) := by
  refine returnsInHanded_of_change (C := Try.checked) Try.own started (by kernel_rfl) Try.func5
    (ChangeSpec.witness6 (enc := enc) (C := Try.checked) false ⟨#[], #[.agg #[.int .i64 0, .int .i64 0, .int .i64 0], .agg #[.int .i64 0, .int .i64 0, .int .i64 0], .agg #[.int .i64 0, .int .i64 0], .agg #[.int .i64 0, .int .i64 0]], []⟩ 8 (by kernel_rfl) (by kernel_rfl) (by kernel_rfl) (by kernel_rfl)) ?_
  intro W base args ds gs before hval0 hW hcnd _
  have hval : ∀ (j : Nat) t v, Try.f5.params[j]? = some t → args[j]? = some v → Value.okWide Try.prog W .any base t v := hval0
  have hW' := hW
  obtain ⟨p, q, hA0, hV, rfl, hfz, hnd⟩ := hW
  have hA : DataW.TrodAll enc Try.prog W 0 (fun _ => true) true Try.f5.params.toList args.toList ds p := hA0
  rw [Try.params5] at hA hval
  obtain ⟨v0, vs0, d0, ds0, p0, q0, hargs, rfl, rfl, h0, r0⟩ := trodAll_cons hA
  obtain ⟨v1, vs1, d1, ds1, p1, q1, rfl, rfl, rfl, h1, r1⟩ := trodAll_cons r0
  obtain ⟨v2, vs2, d2, ds2, p2, q2, rfl, rfl, rfl, h2, r2⟩ := trodAll_cons r1
  obtain ⟨v3, vs3, d3, ds3, p3, q3, rfl, rfl, rfl, h3, r3⟩ := trodAll_cons r2
  obtain ⟨rfl, rfl, rfl⟩ := trodAll_nil r3
  obtain rfl : args = #[v0, v1, v2, v3] := by cases args; simp_all
  obtain ⟨rfl, rfl⟩ := trodVars_none hV
  obtain ⟨c00, c01, c02, y00, y01, y02, m0, rfl, rfl, rfl, hy00, hy01, hy02⟩ := Joins.open_agg3 Try.underlying23 (by kernel_rfl) (show Try.prog.cellsOf 23 = 3 by kernel_rfl) (hval 0 23 v0 rfl rfl) h0
  obtain ⟨u0_0, eu0_0, rfl, wu0_0⟩ := DataW.trod_int Try.underlying3 hy00
  obtain ⟨u0_1, eu0_1, rfl, wu0_1⟩ := DataW.trod_int Try.underlying3 hy01
  obtain ⟨u0_2, eu0_2, rfl, wu0_2⟩ := DataW.trod_int Try.underlying3 hy02
  simp at eu0_0 eu0_1 eu0_2
  subst eu0_0 eu0_1 eu0_2
  obtain ⟨c10, c11, c12, y10, y11, y12, m1, rfl, rfl, rfl, hy10, hy11, hy12⟩ := Joins.open_agg3 Try.underlying23 (by kernel_rfl) (show Try.prog.cellsOf 23 = 3 by kernel_rfl) (hval 1 23 v1 rfl rfl) h1
  obtain ⟨u1_0, eu1_0, rfl, wu1_0⟩ := DataW.trod_int Try.underlying3 hy10
  obtain ⟨u1_1, eu1_1, rfl, wu1_1⟩ := DataW.trod_int Try.underlying3 hy11
  obtain ⟨u1_2, eu1_2, rfl, wu1_2⟩ := DataW.trod_int Try.underlying3 hy12
  simp at eu1_0 eu1_1 eu1_2
  subst eu1_0 eu1_1 eu1_2
  obtain ⟨c20, c21, y20, y21, m2, rfl, rfl, rfl, hy20, hy21⟩ := Joins.open_agg2 Try.underlying25 (by kernel_rfl) (show Try.prog.cellsOf 25 = 2 by kernel_rfl) (hval 2 25 v2 rfl rfl) h2
  obtain ⟨u2_0, eu2_0, rfl, wu2_0⟩ := DataW.trod_int Try.underlying3 hy20
  obtain ⟨u2_1, eu2_1, rfl, wu2_1⟩ := DataW.trod_int Try.underlying3 hy21
  simp at eu2_0 eu2_1
  subst eu2_0 eu2_1
  obtain ⟨c30, c31, y30, y31, m3, rfl, rfl, rfl, hy30, hy31⟩ := Joins.open_agg2 Try.underlying25 (by kernel_rfl) (show Try.prog.cellsOf 25 = 2 by kernel_rfl) (hval 3 25 v3 rfl rfl) h3
  obtain ⟨u3_0, eu3_0, rfl, wu3_0⟩ := DataW.trod_int Try.underlying3 hy30
  obtain ⟨u3_1, eu3_1, rfl, wu3_1⟩ := DataW.trod_int Try.underlying3 hy31
  simp at eu3_0 eu3_1
  subst eu3_0 eu3_1
  clear hA0 hval0
  refine (law_moves u0_0 u0_1 u0_2 u1_0 u1_1 u1_2 u2_0 u2_1 u3_0 u3_1 W (i64_of wu0_0) (i64_of wu0_1) (i64_of wu0_2) (i64_of wu1_0) (i64_of wu1_1) (i64_of wu1_2) (i64_of wu2_0) (i64_of wu2_1) (i64_of wu3_0) (i64_of wu3_1)).mono fun e W' ⟨he, hb⟩ => ?_
  subst he
  exact ⟨_, rfl, law_post (tb := 4) hW' Try.laidOut rfl (by rw [Try.params5]; kernel_rfl) rfl Try.underlying4 rfl hb⟩

/-- ████ THE STATEMENT ████ -/
theorem pitchMoves_holds : Rows.PitchMovesSaid :=
  OpenClaim.holds_of_wide 5 Try.f5 rfl rfl rfl rfl rfl rfl rfl ⟨rfl, rfl, rfl, rfl, rfl⟩ rfl rfl rfl rfl rfl (by kernel_rfl) Try.func5 (by kernel_rfl)
    (of_decide_eq_true (by kernel_rfl)) (by unfold Func.isWrapper; first | (rw [if_pos (by decide +kernel)]; kernel_rfl) | (rw [if_neg (by decide +kernel)]; exact ⟨rfl, rfl⟩))
    (fun os started H enc _ => pitchMoves_lifted os started H enc)
#print axioms pitchMoves_holds
end Go.Proofs.Ytkhdpepcpmjhcaa.Pi
