/-
  'ScoreMoved' returns true for every input, and each argument reads qay the call as it read before. No condition.
-/
import Derived.Test.YtmlnilkbolcknaaGreatDoorJLawSVMoved6
import Derived.Test.YtmlnilkbolcknaaGreatDoorJLawSVMoved5
import Derived.Test.YtmlnilkbolcknaaGreatDoorTie
import Derived.Test.YtmlnilkbolcknaaGreatDoorCards
import Derived.SevenTiedAt
namespace Go.Proofs.YtmlnilkbolcknaaGreatDoor.Pm
open Go.ChangeShapes Go.WideShapes Go.ChangeAt Go.RowKit

set_option maxRecDepth 100000 in
theorem scoreMoved_lifted (os : Os) (started : os.Started) (H : Type) (enc : TypeId × Value → H) :
  ReturnsInHanded {} Tryz.checked os 6 .any (fun w args => (Rows.scoreMovedSpec.pre enc Tryz.prog Tryz.f6 Rows.scoreMovedRow.domain false w args ∧ laidMetH Tryz.prog Rows.scoreMovedRow.laid w) ∧ sizedMet enc Tryz.prog Tryz.f6 (OpenSpec.ofChange Rows.scoreMovedSpec) false w args) (Rows.scoreMovedSpec.post enc Tryz.prog Tryz.f6 false true false false) := by
 refine returnsInHanded_of_change_and (C := Tryz.checked) (X := fun w _ => laidMetH Tryz.prog Rows.scoreMovedRow.laid w) (fun _ _ _ hh h => h.of_heap hh) Tryz.own started (by kernel_rfl) Tryz.func6
  (ChangeSpec.witness_shaped (enc := enc) (C := Tryz.checked) (os := os) (X := fun w _ => laidMetH Tryz.prog Rows.scoreMovedRow.laid w) false (World.laidAll Tryz.prog os Rows.scoreMovedRow.laid) #[.slice none 0 0, .agg #[.int .i64 0, .int .i64 0]] 8 (World.laidAll_os _ _ _)
   (World.shaped_of_ZipB (by kernel_rfl) (by kernel_rfl)) (by kernel_rfl) (by kernel_rfl) (by kernel_rfl)
   (by rw [MakeChecks.laidMetH_plain _ _ _ (by kernel_rfl)]; exact laidMet_laidAll _ (by kernel_rfl) (by kernel_rfl))) ?_
 intro W base args ds gs before hval0 hW hcnd hsz0 hL0 _
 rw [MakeChecks.laidMetH_plain _ _ _ (by kernel_rfl)] at hL0
 have hLd := laid_of hL0
 have hval : ∀ (j : Nat) t v, Tryz.f6.params[j]? = some t → args[j]? = some v → Value.okWide Tryz.prog W .any base t v := hval0
 have hsz : (DataW.weightsEach Tryz.prog (Tryz.f6.params.toList ++ Rows.scoreMovedSpec.plain.varTypes Tryz.prog) (ds ++ gs)).all (· ≤ reachBytes) = true := hsz0
 clear hsz0
 have hW' := hW
 obtain ⟨p, q, hA0, hV, rfl, hfz, hnd⟩ := hW
 have hA : DataW.TrodAll enc Tryz.prog W 0 (fun _ => true) true Tryz.f6.params.toList args.toList ds p := hA0
 rw [Tryz.params6] at hA hval hsz
 obtain ⟨v0, vs0, d0, ds0, p0, q0, hargs, rfl, rfl, h0, r0⟩ := trodAll_cons hA
 obtain ⟨v1, vs1, d1, ds1, p1, q1, rfl, rfl, rfl, h1, r1⟩ := trodAll_cons r0
 obtain ⟨rfl, rfl, rfl⟩ := trodAll_nil r1
 obtain rfl : args = #[v0, v1] := by cases args; simp_all
 obtain ⟨rfl, rfl⟩ := trodVars_none hV
 obtain ⟨n0, ps0, hS0, hbk0, hr0⟩ := arg_any (Ts := [22, 44, 9, 42, 47, 45, 50, 48, 52, 41, 3]) (by kernel_rfl) (by decide) (hval 0 22 v0 rfl rfl) h0 hsz (j := 0) rfl rfl
 rw [Tryz.underlying22] at hr0
 simp only [qdh] at hr0
 obtain ⟨pp0, rfl, hr0⟩ := hr0
 obtain ⟨l0, rfl, hl0⟩ := vos_of n0 _ hS0
 obtain ⟨n1, ps1, hS1, hbk1, hr1⟩ := arg_any (Ts := [41, 3]) (by kernel_rfl) (by decide) (hval 1 41 v1 rfl rfl) h1 hsz (j := 1) rfl rfl
 rw [Tryz.underlying41] at hr1
 simp only [qdh] at hr1
 obtain ⟨i1, rfl, hs1, hk1⟩ := iv5_of n1 ps1 hS1
 clear hA0 hval0
 refine (pc_calls (qxs l0 i1 hl0 ⟨hs1, hk1⟩) rfl (fun i hi => match i, hi with | 0, _ => hr0 | 1, _ => hr1 | _ + 2, h => absurd h (Nat.not_lt.2 (Nat.le_add_left 2 _))) hLd).mono fun e W' ⟨he, hb⟩ => ?_
 subst he
 exact ⟨_, rfl, law_post (tb := 4) hW' Tryz.laidOut rfl (by rw [Tryz.params6]; kernel_rfl) rfl Tryz.underlying4 rfl hb⟩

/-- ████ THE STATEMENT ████ -/
theorem scoreMoved_holds : Rows.ScoreMovedSaid :=
 OpenClaim.holds_of_wide 6 Tryz.f6 rfl rfl rfl rfl rfl rfl rfl ⟨rfl, rfl, rfl, rfl, rfl⟩ rfl rfl rfl rfl rfl (by kernel_rfl) Tryz.func6 (by kernel_rfl)
  (of_decide_eq_true (by kernel_rfl)) (by unfold Func.isWrapper; first | (rw [if_pos (by decide +kernel)]; kernel_rfl) | (rw [if_neg (by decide +kernel)]; exact ⟨rfl, rfl⟩))
  (fun os started H enc _ => scoreMoved_lifted os started H enc)

/-- ████ THE CARD ████ -/
theorem scoreMoved_card : Rows.ScoreMovedCardSaid :=
 Claim7.holds_tied_plain_at .later [] [.data, .data, .data, .data, .sentinel, .sentinel, .pinned] true (true, "cbcabe3ec1a824d6aaaaf0ce77f0e4770ea1c499531960a14bf5e6bfd5c0c93b") true scoreMoved_holds (fun _ h => by cases h) (by kernel_rfl) (fun _ h => by cases h) scoreMoved_row_tie rfl ⟨rfl, rfl⟩ (by kernel_rfl) rfl
  (fun f fn hf hfn => by
   obtain rfl : f = 6 := Option.some.inj ((show Tryz.prog.funcNamed "cantus/cantuslaw6.ScoreMoved" = some 6 by kernel_rfl).symm.trans hf) |>.symm
   obtain rfl : fn = Tryz.f6 := (Option.some.inj (Tryz.func6.symm.trans hfn)).symm
   exact ⟨by kernel_rfl, fun j t ht => by
    rw [Tryz.params6] at ht
    have hm : t ∈ [22, 41] := by simpa using Array.mem_of_getElem? ht
    have hall : ([22, 41].all fun u => !Tryz.prog.wantsStandIn u) = true := by kernel_rfl
    exact (show Tryz.prog.wantsStandIn t = false by simpa using List.all_eq_true.1 hall t hm)⟩)
  (by kernel_rfl)
#print axioms scoreMoved_card
end Go.Proofs.YtmlnilkbolcknaaGreatDoor.Pm
