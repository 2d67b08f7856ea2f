/-
  'PitchTexts' returns true for every input, and each argument reads behind the call as it read before. No condition.
-/
import Derived.Test.YtlngkiipgkociaaGreatDoorJLawPTexts7
import Derived.Test.YtlngkiipgkociaaGreatDoorTie
import Derived.Test.YtlngkiipgkociaaGreatDoorCards
import Derived.SevenTiedAt
namespace Go.Proofs.YtlngkiipgkociaaGreatDoor.Pm
open Go.ChangeShapes Go.WideShapes Go.ChangeAt Go.RowKit

theorem i64_of {n : Int} (h : (Lit.int .i64 n).wf = true) : -9223372036854775808 ≤ n ∧ n ≤ 9223372036854775807 := by
  simp [Lit.wf, IntKind.min, IntKind.max, IntKind.signed, IntKind.bits] at h; omega

set_option maxRecDepth 100000 in
theorem pitchTexts_lifted (os : Os) (started : os.Started) (H : Type) (enc : TypeId × Value → H) :
    ReturnsInHanded {} Tryz.checked os 3 .any (fun w args => (Rows.pitchTextsSpec.pre enc Tryz.prog Tryz.f3 Rows.pitchTextsRow.domain false w args ∧ laidMetH Tryz.prog Rows.pitchTextsRow.laid w) ∧ sizedMet enc Tryz.prog Tryz.f3 (OpenSpec.ofChange Rows.pitchTextsSpec) false w args) (Rows.pitchTextsSpec.post enc Tryz.prog Tryz.f3 false true false false) := by
  refine returnsInHanded_of_change_and (C := Tryz.checked) (X := fun w _ => laidMetH Tryz.prog Rows.pitchTextsRow.laid w) (fun _ _ _ hh h => h.of_heap hh) Tryz.own started (by kernel_rfl) Tryz.func3
    (ChangeSpec.witness_shaped (enc := enc) (C := Tryz.checked) (os := os) (X := fun w _ => laidMetH Tryz.prog Rows.pitchTextsRow.laid w) false (World.laidAll Tryz.prog os Rows.pitchTextsRow.laid) #[.agg #[.int .i64 0, .int .i64 0, .int .i64 0], .agg #[.int .i64 0, .int .i64 0], .string .empty] 8 (World.laidAll_os _ _ _)
      (World.shaped_of_ZipB (by kernel_rfl) (by kernel_rfl)) (by kernel_rfl) (by kernel_rfl) (by kernel_rfl)
      (by rw [MakeChecks.laidMetH_plain _ _ _ (by kernel_rfl)]; exact laidMet_laidAll _ (by kernel_rfl) (by kernel_rfl))) ?_
  intro W base args ds gs before hval0 hW hcnd hsz0 hL0 _
  rw [MakeChecks.laidMetH_plain _ _ _ (by kernel_rfl)] at hL0
  have hLd := laid_of hL0
  have hval : ∀ (j : Nat) t v, Tryz.f3.params[j]? = some t → args[j]? = some v → Value.okWide Tryz.prog W .any base t v := hval0
  have hsz : (DataW.weightsEach Tryz.prog (Tryz.f3.params.toList ++ Rows.pitchTextsSpec.plain.varTypes Tryz.prog) (ds ++ gs)).all (· ≤ reachBytes) = true := hsz0
  clear hsz0
  have hW' := hW
  obtain ⟨p, q, hA0, hV, rfl, hfz, hnd⟩ := hW
  have hA : DataW.TrodAll enc Tryz.prog W 0 (fun _ => true) true Tryz.f3.params.toList args.toList ds p := hA0
  rw [Tryz.params3] at hA hval hsz
  obtain ⟨v0, vs0, d0, ds0, p0, q0, hargs, rfl, rfl, h0, r0⟩ := trodAll_cons hA
  obtain ⟨v1, vs1, d1, ds1, p1, q1, rfl, rfl, rfl, h1, r1⟩ := trodAll_cons r0
  obtain ⟨v2, vs2, d2, ds2, p2, q2, rfl, rfl, rfl, h2, r2⟩ := trodAll_cons r1
  obtain ⟨rfl, rfl, rfl⟩ := trodAll_nil r2
  obtain rfl : args = #[v0, v1, v2] := by cases args; simp_all
  obtain ⟨rfl, rfl⟩ := trodVars_none hV
  obtain ⟨n0, ps0, hS0, hbk0, hr0⟩ := arg_any (Ts := [23, 3]) (by kernel_rfl) (by decide) (hval 0 23 v0 rfl rfl) h0 hsz (j := 0) rfl rfl
  rw [Tryz.underlying23] at hr0
  simp only [isAggD] at hr0
  obtain ⟨p0, q0, o0, rfl, hp0, hq0, ho0⟩ := pit_of n0 ps0 hS0
  obtain ⟨n1, ps1, hS1, hbk1, hr1⟩ := arg_any (Ts := [25, 3]) (by kernel_rfl) (by decide) (hval 1 25 v1 rfl rfl) h1 hsz (j := 1) rfl rfl
  rw [Tryz.underlying25] at hr1
  simp only [isAggD] at hr1
  obtain ⟨s1, k1, rfl, hs1, hk1⟩ := inv_of n1 ps1 hS1
  obtain ⟨n2, ps2, hS2, hbk2, hr2⟩ := arg_any (Ts := [9]) (by kernel_rfl) (by decide) (hval 2 9 v2 rfl rfl) h2 hsz (j := 2) rfl rfl
  rw [Tryz.underlying9] at hr2
  simp only [isAggD] at hr2
  obtain ⟨pp2, rfl, hr2⟩ := hr2
  obtain ⟨s2, he2, ms2⟩ := sh_str Tryz.underlying9 hS2
  simp only [List.cons.injEq, and_true] at he2
  subst he2
  clear hA0 hval0
  refine (pc_calls (law_texts p0 q0 o0 s1 k1 s2.data.toList hq0 hs1 hk1 (str_sized2 Tryz.underlying9 h2 hsz (j := 2) rfl rfl hr2)) rfl (fun i hi => match i, hi with | 0, _ => hr0 | 1, _ => hr1 | 2, _ => hr2 | _ + 3, h => absurd h (Nat.not_lt.2 (Nat.le_add_left 3 _))) hLd).mono fun e W' ⟨he, hb⟩ => ?_
  subst he
  exact ⟨_, rfl, law_post (tb := 4) hW' Tryz.laidOut rfl (by rw [Tryz.params3]; kernel_rfl) rfl Tryz.underlying4 rfl hb⟩

/-- ████ THE STATEMENT ████ -/
theorem pitchTexts_holds : Rows.PitchTextsSaid :=
  OpenClaim.holds_of_wide 3 Tryz.f3 rfl rfl rfl rfl rfl rfl rfl ⟨rfl, rfl, rfl, rfl, rfl⟩ rfl rfl rfl rfl rfl (by kernel_rfl) Tryz.func3 (by kernel_rfl)
    (of_decide_eq_true (by kernel_rfl)) (by unfold Func.isWrapper; first | (rw [if_pos (by decide +kernel)]; kernel_rfl) | (rw [if_neg (by decide +kernel)]; exact ⟨rfl, rfl⟩))
    (fun os started H enc _ => pitchTexts_lifted os started H enc)

/-- ████ THE CARD ████ -/
theorem pitchTexts_card : Rows.PitchTextsCardSaid :=
  Claim7.holds_tied_plain_at .later [] [.data, .data, .data, .data, .sentinel, .sentinel, .pinned] true (true, "b69006a26692f9f33d348f9d41a7a4dc63873b89b28748035a08527934731614") true pitchTexts_holds (fun _ h => by cases h) (by kernel_rfl) (fun _ h => by cases h) pitchTexts_row_tie rfl ⟨rfl, rfl⟩ (by kernel_rfl) rfl
    (fun f fn hf hfn => by
      obtain rfl : f = 3 := Option.some.inj ((show Tryz.prog.funcNamed "cantus/cantuslaw2.PitchTexts" = some 3 by kernel_rfl).symm.trans hf) |>.symm
      obtain rfl : fn = Tryz.f3 := (Option.some.inj (Tryz.func3.symm.trans hfn)).symm
      exact ⟨by kernel_rfl, fun j t ht => by
        rw [Tryz.params3] at ht
        have hm : t ∈ [23, 25, 9] := by simpa using Array.mem_of_getElem? ht
        have hall : ([23, 25, 9].all fun u => !Tryz.prog.wantsStandIn u) = true := by kernel_rfl
        exact (show Tryz.prog.wantsStandIn t = false by simpa using List.all_eq_true.1 hall t hm)⟩)
    (by kernel_rfl)
#print axioms pitchTexts_card
end Go.Proofs.YtlngkiipgkociaaGreatDoor.Pm
