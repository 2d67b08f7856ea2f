/-
  'ScaleMoved' returns true for every input, and each argument reads behind the call as it read before. No condition.
-/
import Derived.Test.YtbgnegmjbnlemaaGreatDoorJLawSMoved7
import Derived.Test.YtbgnegmjbnlemaaGreatDoorJLawSMoved8
import Derived.Test.YtbgnegmjbnlemaaGreatDoorTie
import Derived.Test.YtbgnegmjbnlemaaGreatDoorCards
import Derived.SevenTiedAt
namespace Go.Proofs.YtbgnegmjbnlemaaGreatDoor.Pm
open Go.ChangeShapes Go.WideShapes Go.ChangeAt Go.RowKit

theorem i64_of {n : Int} (h : (Lit.int .i64 n).wf = true) : -9223372036854775808 ≤ n ∧ n ≤ 9223372036854775807 := by
  simp [Lit.wf, IntKind.min, IntKind.max, IntKind.signed, IntKind.bits] at h; omega

set_option maxRecDepth 100000 in
theorem scaleMoved_lifted (os : Os) (started : os.Started) (H : Type) (enc : TypeId × Value → H) :
    ReturnsInHanded {} Tryz.checked os 4 .any (fun w args => (Rows.scaleMovedSpec.pre enc Tryz.prog Tryz.f4 Rows.scaleMovedRow.domain false w args ∧ laidMetH Tryz.prog Rows.scaleMovedRow.laid w) ∧ sizedMet enc Tryz.prog Tryz.f4 (OpenSpec.ofChange Rows.scaleMovedSpec) false w args) (Rows.scaleMovedSpec.post enc Tryz.prog Tryz.f4 false true false false) := by
  refine returnsInHanded_of_change_and (C := Tryz.checked) (X := fun w _ => laidMetH Tryz.prog Rows.scaleMovedRow.laid w) (fun _ _ _ hh h => h.of_heap hh) Tryz.own started (by kernel_rfl) Tryz.func4
    (ChangeSpec.witness_shaped (enc := enc) (C := Tryz.checked) (os := os) (X := fun w _ => laidMetH Tryz.prog Rows.scaleMovedRow.laid w) false (World.laidAll Tryz.prog os Rows.scaleMovedRow.laid) #[.slice none 0 0, .agg #[.int .i64 0, .int .i64 0], .agg #[.int .i64 0, .int .i64 0, .int .i64 0], .int .i64 0, .slice none 0 0] 8 (World.laidAll_os _ _ _)
      (World.shaped_of_ZipB (by kernel_rfl) (by kernel_rfl)) (by kernel_rfl) (by kernel_rfl) (by kernel_rfl)
      (by rw [MakeChecks.laidMetH_plain _ _ _ (by kernel_rfl)]; exact laidMet_laidAll _ (by kernel_rfl) (by kernel_rfl))) ?_
  intro W base args ds gs before hval0 hW hcnd hsz0 hL0 _
  rw [MakeChecks.laidMetH_plain _ _ _ (by kernel_rfl)] at hL0
  have hLd := laid_of hL0
  have hval : ∀ (j : Nat) t v, Tryz.f4.params[j]? = some t → args[j]? = some v → Value.okWide Tryz.prog W .any base t v := hval0
  have hsz : (DataW.weightsEach Tryz.prog (Tryz.f4.params.toList ++ Rows.scaleMovedSpec.plain.varTypes Tryz.prog) (ds ++ gs)).all (· ≤ reachBytes) = true := hsz0
  clear hsz0
  have hW' := hW
  obtain ⟨p, q, hA0, hV, rfl, hfz, hnd⟩ := hW
  have hA : DataW.TrodAll enc Tryz.prog W 0 (fun _ => true) true Tryz.f4.params.toList args.toList ds p := hA0
  rw [Tryz.params4] at hA hval hsz
  obtain ⟨v0, vs0, d0, ds0, p0, q0, hargs, rfl, rfl, h0, r0⟩ := trodAll_cons hA
  obtain ⟨v1, vs1, d1, ds1, p1, q1, rfl, rfl, rfl, h1, r1⟩ := trodAll_cons r0
  obtain ⟨v2, vs2, d2, ds2, p2, q2, rfl, rfl, rfl, h2, r2⟩ := trodAll_cons r1
  obtain ⟨v3, vs3, d3, ds3, p3, q3, rfl, rfl, rfl, h3, r3⟩ := trodAll_cons r2
  obtain ⟨v4, vs4, d4, ds4, p4, q4, rfl, rfl, rfl, h4, r4⟩ := trodAll_cons r3
  obtain ⟨rfl, rfl, rfl⟩ := trodAll_nil r4
  obtain rfl : args = #[v0, v1, v2, v3, v4] := by cases args; simp_all
  obtain ⟨rfl, rfl⟩ := trodVars_none hV
  obtain ⟨n0, ps0, hS0, hbk0, hr0⟩ := arg_any (Ts := [24, 23, 3]) (by kernel_rfl) (by decide) (hval 0 24 v0 rfl rfl) h0 hsz (j := 0) rfl rfl
  rw [Tryz.underlying24] at hr0
  simp only [isAggD] at hr0
  obtain ⟨pp0, rfl, hr0⟩ := hr0
  obtain ⟨l0, rfl, hI0, hl0⟩ := pts_of n0 _ hS0
  obtain ⟨n1, ps1, hS1, hbk1, hr1⟩ := arg_any (Ts := [37, 3]) (by kernel_rfl) (by decide) (hval 1 37 v1 rfl rfl) h1 hsz (j := 1) rfl rfl
  rw [Tryz.underlying37] at hr1
  simp only [isAggD] at hr1
  obtain ⟨i1, rfl, hs1, hk1⟩ := iv_of n1 ps1 hS1
  obtain ⟨n2, ps2, hS2, hbk2, hr2⟩ := arg_any (Ts := [23, 3]) (by kernel_rfl) (by decide) (hval 2 23 v2 rfl rfl) h2 hsz (j := 2) rfl rfl
  rw [Tryz.underlying23] at hr2
  simp only [isAggD] at hr2
  obtain ⟨p2, rfl, hp2, hq2, ho2⟩ := pt_of n2 ps2 hS2
  obtain ⟨n3, ps3, hS3, hbk3, hr3⟩ := arg_any (Ts := [3]) (by kernel_rfl) (by decide) (hval 3 3 v3 rfl rfl) h3 hsz (j := 3) rfl rfl
  rw [Tryz.underlying3] at hr3
  simp only [isAggD] at hr3
  obtain ⟨pp3, rfl, hr3⟩ := hr3
  obtain ⟨a3, he3, w3⟩ := sh_num Tryz.underlying3 hS3
  simp only [List.cons.injEq, and_true] at he3
  subst he3
  obtain ⟨n4, ps4, hS4, hbk4, hr4⟩ := arg_any (Ts := [38, 3]) (by kernel_rfl) (by decide) (hval 4 38 v4 rfl rfl) h4 hsz (j := 4) rfl rfl
  rw [Tryz.underlying38] at hr4
  simp only [isAggD] at hr4
  obtain ⟨pp4, rfl, hr4⟩ := hr4
  obtain ⟨l4, he4, wl4, ml4, zl4⟩ := sh_ints Tryz.underlying38 Tryz.underlying3 hS4
  simp only [List.cons.injEq, and_true] at he4
  subst he4
  rw [show Tryz.prog.bytesOf 3 = 8 from by kernel_rfl] at zl4
  have zb4 : l4.length * 8 ≤ 140737488351232 := zl4
  clear hA0 hval0
  refine (pc_calls (law_moved l0 i1 p2 a3 l4 hl0 (fun i hi => (hI0 i hi).2.1) hs1) rfl (fun i hi => match i, hi with | 0, _ => hr0 | 1, _ => hr1 | 2, _ => hr2 | 3, _ => hr3 | 4, _ => hr4 | _ + 5, h => absurd h (Nat.not_lt.2 (Nat.le_add_left 5 _))) hLd).mono fun e W' ⟨he, hb⟩ => ?_
  subst he
  exact ⟨_, rfl, law_post (tb := 4) hW' Tryz.laidOut rfl (by rw [Tryz.params4]; kernel_rfl) rfl Tryz.underlying4 rfl hb⟩

/-- ████ THE STATEMENT ████ -/
theorem scaleMoved_holds : Rows.ScaleMovedSaid :=
  OpenClaim.holds_of_wide 4 Tryz.f4 rfl rfl rfl rfl rfl rfl rfl ⟨rfl, rfl, rfl, rfl, rfl⟩ rfl rfl rfl rfl rfl (by kernel_rfl) Tryz.func4 (by kernel_rfl)
    (of_decide_eq_true (by kernel_rfl)) (by unfold Func.isWrapper; first | (rw [if_pos (by decide +kernel)]; kernel_rfl) | (rw [if_neg (by decide +kernel)]; exact ⟨rfl, rfl⟩))
    (fun os started H enc _ => scaleMoved_lifted os started H enc)

/-- ████ THE CARD ████ -/
theorem scaleMoved_card : Rows.ScaleMovedCardSaid :=
  Claim7.holds_tied_plain_at .later [] [.data, .data, .data, .data, .sentinel, .sentinel, .pinned] true (true, "8a7a5963168095e2d9e3bb927d0d6f8cdee79d01cc5bbd742b100a7d85ac3f27") true scaleMoved_holds (fun _ h => by cases h) (by kernel_rfl) (fun _ h => by cases h) scaleMoved_row_tie rfl ⟨rfl, rfl⟩ (by kernel_rfl) rfl
    (fun f fn hf hfn => by
      obtain rfl : f = 4 := Option.some.inj ((show Tryz.prog.funcNamed "cantus/cantuslaw3.ScaleMoved" = some 4 by kernel_rfl).symm.trans hf) |>.symm
      obtain rfl : fn = Tryz.f4 := (Option.some.inj (Tryz.func4.symm.trans hfn)).symm
      exact ⟨by kernel_rfl, fun j t ht => by
        rw [Tryz.params4] at ht
        have hm : t ∈ [24, 37, 23, 3, 38] := by simpa using Array.mem_of_getElem? ht
        have hall : ([24, 37, 23, 3, 38].all fun u => !Tryz.prog.wantsStandIn u) = true := by kernel_rfl
        exact (show Tryz.prog.wantsStandIn t = false by simpa using List.all_eq_true.1 hall t hm)⟩)
    (by kernel_rfl)
#print axioms scaleMoved_card
end Go.Proofs.YtbgnegmjbnlemaaGreatDoor.Pm
