/-
  'PitchTurns' returns true for every input, and each argument reads behind the call as it read before. No condition.
-/
import Derived.Test.YtefbcgfeodgmoaaDoorJLawPTurns6
import Derived.Test.YtefbcgfeodgmoaaDoorTie
import Derived.Test.YtefbcgfeodgmoaaDoorCards
import Derived.SevenTiedAt
namespace Go.Proofs.YtefbcgfeodgmoaaDoor.Pm
open Go.ChangeShapes Go.WideShapes Go.ChangeAt Go.RowKit

theorem i64_of {n : Int} (h : (Lit.int .i64 n).wf = true) : -9223372036854775808 ≤ n ∧ n ≤ 9223372036854775807 := by
  simp [Lit.wf, IntKind.min, IntKind.max, IntKind.signed, IntKind.bits] at h; omega

set_option maxRecDepth 100000 in
theorem pitchTurns_lifted (os : Os) (started : os.Started) (H : Type) (enc : TypeId × Value → H) :
    ReturnsInHanded {} Tryd.checked os 3 .any (fun w args => (Rows.pitchTurnsSpec.pre enc Tryd.prog Tryd.f3 Rows.pitchTurnsRow.domain false w args ∧ laidMetH Tryd.prog Rows.pitchTurnsRow.laid w) ∧ sizedMet enc Tryd.prog Tryd.f3 (OpenSpec.ofChange Rows.pitchTurnsSpec) false w args) (Rows.pitchTurnsSpec.post enc Tryd.prog Tryd.f3 false true false false) := by
  refine returnsInHanded_of_change_and (C := Tryd.checked) (X := fun w _ => laidMetH Tryd.prog Rows.pitchTurnsRow.laid w) (fun _ _ _ hh h => h.of_heap hh) Tryd.own started (by kernel_rfl) Tryd.func3
    (ChangeSpec.witness_shaped (enc := enc) (C := Tryd.checked) (os := os) (X := fun w _ => laidMetH Tryd.prog Rows.pitchTurnsRow.laid w) false (World.laidAll Tryd.prog os Rows.pitchTurnsRow.laid) #[.agg #[.int .i64 0, .int .i64 0, .int .i64 0], .agg #[.int .i64 0, .int .i64 0]] 8 (World.laidAll_os _ _ _)
      (World.shaped_of_ZipB (by kernel_rfl) (by kernel_rfl)) (by kernel_rfl) (by kernel_rfl) (by kernel_rfl)
      (by rw [MakeChecks.laidMetH_plain _ _ _ (by kernel_rfl)]; exact laidMet_laidAll _ (by kernel_rfl) (by kernel_rfl))) ?_
  intro W base args ds gs before hval0 hW hcnd hsz0 hL0 _
  rw [MakeChecks.laidMetH_plain _ _ _ (by kernel_rfl)] at hL0
  have hLd := laid_of hL0
  have hval : ∀ (j : Nat) t v, Tryd.f3.params[j]? = some t → args[j]? = some v → Value.okWide Tryd.prog W .any base t v := hval0
  have hsz : (DataW.weightsEach Tryd.prog (Tryd.f3.params.toList ++ Rows.pitchTurnsSpec.plain.varTypes Tryd.prog) (ds ++ gs)).all (· ≤ reachBytes) = true := hsz0
  clear hsz0
  have hW' := hW
  obtain ⟨p, q, hA0, hV, rfl, hfz, hnd⟩ := hW
  have hA : DataW.TrodAll enc Tryd.prog W 0 (fun _ => true) true Tryd.f3.params.toList args.toList ds p := hA0
  rw [Tryd.params3] at hA hval hsz
  obtain ⟨v0, vs0, d0, ds0, p0, q0, hargs, rfl, rfl, h0, r0⟩ := trodAll_cons hA
  obtain ⟨v1, vs1, d1, ds1, p1, q1, rfl, rfl, rfl, h1, r1⟩ := trodAll_cons r0
  obtain ⟨rfl, rfl, rfl⟩ := trodAll_nil r1
  obtain rfl : args = #[v0, v1] := by cases args; simp_all
  obtain ⟨rfl, rfl⟩ := trodVars_none hV
  obtain ⟨n0, ps0, hS0, hbk0, hr0⟩ := arg_any (Ts := [23, 3]) (by kernel_rfl) (by decide) (hval 0 23 v0 rfl rfl) h0 hsz (j := 0) rfl rfl
  rw [Tryd.underlying23] at hr0
  simp only [isAggD] at hr0
  obtain ⟨p0, q0, o0, rfl, hp0, hq0, ho0⟩ := pit_of n0 ps0 hS0
  obtain ⟨n1, ps1, hS1, hbk1, hr1⟩ := arg_any (Ts := [25, 3]) (by kernel_rfl) (by decide) (hval 1 25 v1 rfl rfl) h1 hsz (j := 1) rfl rfl
  rw [Tryd.underlying25] at hr1
  simp only [isAggD] at hr1
  obtain ⟨s1, k1, rfl, hs1, hk1⟩ := inv_of n1 ps1 hS1
  clear hA0 hval0
  refine (pc_calls (law_turns p0 q0 o0 s1 k1 hs1 hk1) rfl (fun i hi => match i, hi with | 0, _ => hr0 | 1, _ => hr1 | _ + 2, h => absurd h (Nat.not_lt.2 (Nat.le_add_left 2 _))) hLd).mono fun e W' ⟨he, hb⟩ => ?_
  subst he
  exact ⟨_, rfl, law_post (tb := 4) hW' Tryd.laidOut rfl (by rw [Tryd.params3]; kernel_rfl) rfl Tryd.underlying4 rfl hb⟩

/-- ████ THE STATEMENT ████ -/
theorem pitchTurns_holds : Rows.PitchTurnsSaid :=
  OpenClaim.holds_of_wide 3 Tryd.f3 rfl rfl rfl rfl rfl rfl rfl ⟨rfl, rfl, rfl, rfl, rfl⟩ rfl rfl rfl rfl rfl (by kernel_rfl) Tryd.func3 (by kernel_rfl)
    (of_decide_eq_true (by kernel_rfl)) (by unfold Func.isWrapper; first | (rw [if_pos (by decide +kernel)]; kernel_rfl) | (rw [if_neg (by decide +kernel)]; exact ⟨rfl, rfl⟩))
    (fun os started H enc _ => pitchTurns_lifted os started H enc)

/-- ████ THE CARD ████ -/
theorem pitchTurns_card : Rows.PitchTurnsCardSaid :=
  Claim7.holds_tied_plain_at .later [] [.data, .data, .data, .data, .sentinel, .sentinel, .pinned] true (true, "6e081b77c693b186269ec64e49b7948918b5f4bd03cfe76421aa0e933e5fcc5c") true pitchTurns_holds (fun _ h => by cases h) (by kernel_rfl) (fun _ h => by cases h) pitchTurns_row_tie rfl ⟨rfl, rfl⟩ (by kernel_rfl) rfl
    (fun f fn hf hfn => by
      obtain rfl : f = 3 := Option.some.inj ((show Tryd.prog.funcNamed "cantus/cantuslaw2.PitchTurns" = some 3 by kernel_rfl).symm.trans hf) |>.symm
      obtain rfl : fn = Tryd.f3 := (Option.some.inj (Tryd.func3.symm.trans hfn)).symm
      exact ⟨by kernel_rfl, fun j t ht => by
        rw [Tryd.params3] at ht
        have hm : t ∈ [23, 25] := by simpa using Array.mem_of_getElem? ht
        have hall : ([23, 25].all fun u => !Tryd.prog.wantsStandIn u) = true := by kernel_rfl
        exact (show Tryd.prog.wantsStandIn t = false by simpa using List.all_eq_true.1 hall t hm)⟩)
    (by kernel_rfl)
#print axioms pitchTurns_card
end Go.Proofs.YtefbcgfeodgmoaaDoor.Pm
