/-
  'ScaleChords' returns true for every input, and each argument reads behind the call as it read before. No condition.
-/
import Derived.Test.YtbgnegmjbnlemaaGreatDoorJLawSChords6
import Derived.Test.YtbgnegmjbnlemaaGreatDoorTie
import Derived.Test.YtbgnegmjbnlemaaGreatDoorCards
import Derived.SevenTiedAt
namespace Go.Proofs.YtbgnegmjbnlemaaGreatDoor.Pm
open Go.ChangeShapes Go.WideShapes Go.ChangeAt Go.RowKit

theorem i64_of {n : Int} (h : (Lit.int .i64 n).wf = true) : -9223372036854775808 ≤ n ∧ n ≤ 9223372036854775807 := by
  simp [Lit.wf, IntKind.min, IntKind.max, IntKind.signed, IntKind.bits] at h; omega

set_option maxRecDepth 100000 in
theorem scaleChords_lifted (os : Os) (started : os.Started) (H : Type) (enc : TypeId × Value → H) :
    ReturnsInHanded {} Tryz.checked os 3 .any (fun w args => (Rows.scaleChordsSpec.pre enc Tryz.prog Tryz.f3 Rows.scaleChordsRow.domain false w args ∧ laidMetH Tryz.prog Rows.scaleChordsRow.laid w) ∧ sizedMet enc Tryz.prog Tryz.f3 (OpenSpec.ofChange Rows.scaleChordsSpec) false w args) (Rows.scaleChordsSpec.post enc Tryz.prog Tryz.f3 false true false false) := by
  refine returnsInHanded_of_change_and (C := Tryz.checked) (X := fun w _ => laidMetH Tryz.prog Rows.scaleChordsRow.laid w) (fun _ _ _ hh h => h.of_heap hh) Tryz.own started (by kernel_rfl) Tryz.func3
    (ChangeSpec.witness_shaped (enc := enc) (C := Tryz.checked) (os := os) (X := fun w _ => laidMetH Tryz.prog Rows.scaleChordsRow.laid w) false (World.laidAll Tryz.prog os Rows.scaleChordsRow.laid) #[.agg #[.int .i64 0, .int .i64 0, .int .i64 0], .int .i64 0, .slice none 0 0] 8 (World.laidAll_os _ _ _)
      (World.shaped_of_ZipB (by kernel_rfl) (by kernel_rfl)) (by kernel_rfl) (by kernel_rfl) (by kernel_rfl)
      (by rw [MakeChecks.laidMetH_plain _ _ _ (by kernel_rfl)]; exact laidMet_laidAll _ (by kernel_rfl) (by kernel_rfl))) ?_
  intro W base args ds gs before hval0 hW hcnd hsz0 hL0 _
  rw [MakeChecks.laidMetH_plain _ _ _ (by kernel_rfl)] at hL0
  have hLd := laid_of hL0
  have hval : ∀ (j : Nat) t v, Tryz.f3.params[j]? = some t → args[j]? = some v → Value.okWide Tryz.prog W .any base t v := hval0
  have hsz : (DataW.weightsEach Tryz.prog (Tryz.f3.params.toList ++ Rows.scaleChordsSpec.plain.varTypes Tryz.prog) (ds ++ gs)).all (· ≤ reachBytes) = true := hsz0
  clear hsz0
  have hW' := hW
  obtain ⟨p, q, hA0, hV, rfl, hfz, hnd⟩ := hW
  have hA : DataW.TrodAll enc Tryz.prog W 0 (fun _ => true) true Tryz.f3.params.toList args.toList ds p := hA0
  rw [Tryz.params3] at hA hval hsz
  obtain ⟨v0, vs0, d0, ds0, p0, q0, hargs, rfl, rfl, h0, r0⟩ := trodAll_cons hA
  obtain ⟨v1, vs1, d1, ds1, p1, q1, rfl, rfl, rfl, h1, r1⟩ := trodAll_cons r0
  obtain ⟨v2, vs2, d2, ds2, p2, q2, rfl, rfl, rfl, h2, r2⟩ := trodAll_cons r1
  obtain ⟨rfl, rfl, rfl⟩ := trodAll_nil r2
  obtain rfl : args = #[v0, v1, v2] := by cases args; simp_all
  obtain ⟨rfl, rfl⟩ := trodVars_none hV
  obtain ⟨n0, ps0, hS0, hbk0, hr0⟩ := arg_any (Ts := [23, 3]) (by kernel_rfl) (by decide) (hval 0 23 v0 rfl rfl) h0 hsz (j := 0) rfl rfl
  rw [Tryz.underlying23] at hr0
  simp only [isAggD] at hr0
  obtain ⟨p0, rfl, hp0, hq0, ho0⟩ := pt_of n0 ps0 hS0
  obtain ⟨n1, ps1, hS1, hbk1, hr1⟩ := arg_any (Ts := [3]) (by kernel_rfl) (by decide) (hval 1 3 v1 rfl rfl) h1 hsz (j := 1) rfl rfl
  rw [Tryz.underlying3] at hr1
  simp only [isAggD] at hr1
  obtain ⟨pp1, rfl, hr1⟩ := hr1
  obtain ⟨a1, he1, w1⟩ := sh_num Tryz.underlying3 hS1
  simp only [List.cons.injEq, and_true] at he1
  subst he1
  obtain ⟨n2, ps2, hS2, hbk2, hr2⟩ := arg_any (Ts := [24, 23, 3]) (by kernel_rfl) (by decide) (hval 2 24 v2 rfl rfl) h2 hsz (j := 2) rfl rfl
  rw [Tryz.underlying24] at hr2
  simp only [isAggD] at hr2
  obtain ⟨pp2, rfl, hr2⟩ := hr2
  obtain ⟨l2, rfl, hI2, hl2⟩ := pts_of n2 _ hS2
  clear hA0 hval0
  refine (pc_calls (law_chords p0 a1 l2 hq0 (by omega) (fun i hi => (hI2 i hi).2.1)) rfl (fun i hi => match i, hi with | 0, _ => hr0 | 1, _ => hr1 | 2, _ => hr2 | _ + 3, h => absurd h (Nat.not_lt.2 (Nat.le_add_left 3 _))) hLd).mono fun e W' ⟨he, hb⟩ => ?_
  subst he
  exact ⟨_, rfl, law_post (tb := 4) hW' Tryz.laidOut rfl (by rw [Tryz.params3]; kernel_rfl) rfl Tryz.underlying4 rfl hb⟩

/-- ████ THE STATEMENT ████ -/
theorem scaleChords_holds : Rows.ScaleChordsSaid :=
  OpenClaim.holds_of_wide 3 Tryz.f3 rfl rfl rfl rfl rfl rfl rfl ⟨rfl, rfl, rfl, rfl, rfl⟩ rfl rfl rfl rfl rfl (by kernel_rfl) Tryz.func3 (by kernel_rfl)
    (of_decide_eq_true (by kernel_rfl)) (by unfold Func.isWrapper; first | (rw [if_pos (by decide +kernel)]; kernel_rfl) | (rw [if_neg (by decide +kernel)]; exact ⟨rfl, rfl⟩))
    (fun os started H enc _ => scaleChords_lifted os started H enc)

/-- ████ THE CARD ████ -/
theorem scaleChords_card : Rows.ScaleChordsCardSaid :=
  Claim7.holds_tied_plain_at .later [] [.data, .data, .data, .data, .sentinel, .sentinel, .pinned] true (true, "8a7a5963168095e2d9e3bb927d0d6f8cdee79d01cc5bbd742b100a7d85ac3f27") true scaleChords_holds (fun _ h => by cases h) (by kernel_rfl) (fun _ h => by cases h) scaleChords_row_tie rfl ⟨rfl, rfl⟩ (by kernel_rfl) rfl
    (fun f fn hf hfn => by
      obtain rfl : f = 3 := Option.some.inj ((show Tryz.prog.funcNamed "cantus/cantuslaw3.ScaleChords" = some 3 by kernel_rfl).symm.trans hf) |>.symm
      obtain rfl : fn = Tryz.f3 := (Option.some.inj (Tryz.func3.symm.trans hfn)).symm
      exact ⟨by kernel_rfl, fun j t ht => by
        rw [Tryz.params3] at ht
        have hm : t ∈ [23, 3, 24] := by simpa using Array.mem_of_getElem? ht
        have hall : ([23, 3, 24].all fun u => !Tryz.prog.wantsStandIn u) = true := by kernel_rfl
        exact (show Tryz.prog.wantsStandIn t = false by simpa using List.all_eq_true.1 hall t hm)⟩)
    (by kernel_rfl)
#print axioms scaleChords_card
end Go.Proofs.YtbgnegmjbnlemaaGreatDoor.Pm
