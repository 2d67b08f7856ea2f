/-
  'ScoreNotes' returns true for every input whose bulk is at most 1048576,and each argument reads qay the call as it read before. The condition: the bulk.
-/
import Derived.Test.YtmlnilkbolcknaaGreatDoorJLawSNotes6
import Derived.Test.YtmlnilkbolcknaaGreatDoorJLawSNotes3
import Derived.Test.YtmlnilkbolcknaaGreatDoorTie
import Derived.Test.YtmlnilkbolcknaaGreatDoorCards
import Derived.SevenTiedAt
set_option linter.unusedVariables false
set_option linter.unusedSimpArgs false
set_option linter.deprecated false
set_option maxRecDepth 100000
set_option maxHeartbeats 4000000
namespace Go.Proofs.YtmlnilkbolcknaaGreatDoor.Pm
open Go.ChangeShapes Go.WideShapes Go.ChangeAt Go.RowKit
theorem scoreNotes_lifted (os:Os) (started:os.Started) (H:Type) (enc:TypeId × Value→H) (F:Stop.Interp) :
  ReturnsInHanded {} Tryz.checked os 3 .any (fun w args=>((Rows.OpenSpec.upto Rows.scoreNotesSpec).pre enc Tryz.prog Tryz.f3 Rows.scoreNotesUptoRow.domain false w args∧laidMetH Tryz.prog Rows.scoreNotesUptoRow.laid w)∧sizedMet enc Tryz.prog Tryz.f3 (Rows.OpenSpec.upto Rows.scoreNotesSpec) false w args) (((Rows.OpenSpec.upto Rows.scoreNotesSpec).at F).post enc Tryz.prog Tryz.f3 false true false false):=by
 refine QZ (C:=Tryz.checked) (s:=(Rows.OpenSpec.upto Rows.scoreNotesSpec)) (k:=Rows.uptoSmall) rfl (X:=fun w _=>laidMetH Tryz.prog Rows.scoreNotesUptoRow.laid w) (fun _ _ _ hh h=>h.of_heap hh) Tryz.own started (by kernel_rfl) Tryz.func3
  (WV (enc:=enc) (C:=Tryz.checked) (os:=os) (s:=(Rows.OpenSpec.upto Rows.scoreNotesSpec)) (k:=Rows.uptoSmall) rfl (X:=fun w _=>laidMetH Tryz.prog Rows.scoreNotesUptoRow.laid w) false (World.laidAll Tryz.prog os Rows.scoreNotesUptoRow.laid) #[.slice none 0 0] 8 (World.laidAll_os _ _ _)
   (World.shaped_of_ZipB (by kernel_rfl) (by kernel_rfl)) (by kernel_rfl) (x:=([.nil],[],[])) (by kernel_rfl) rfl (by kernel_rfl) (by kernel_rfl)
   (by rw [MakeChecks.laidMetH_plain _ _ _ (by kernel_rfl)];exact laidMet_laidAll _ (by kernel_rfl) (by kernel_rfl))) ?_
 intro W base args ds gs before hval0 hW hcnd hk hsz0 hL0 _
 rw [MakeChecks.laidMetH_plain _ _ _ (by kernel_rfl)] at hL0
 have hLd:=laid_of (show laidMet Tryz.prog Rows.scoreNotesRow.laid W from hL0)
 have hval:∀ (j:Nat) t v,Tryz.f3.params[j]? = some t→args[j]? = some v→Value.okWide Tryz.prog W .any base t v:=hval0
 have hsz:(DataW.weightsEach Tryz.prog (Tryz.f3.params.toList++Rows.scoreNotesSpec.plain.varTypes Tryz.prog) (ds++gs)).all (· ≤ reachBytes)=true:=hsz0
 clear hsz0
 have hW':=hW
 obtain ⟨p,q,hA0,hV,rfl,hfz,hnd⟩:=hW
 have hA:DataW.TrodAll enc Tryz.prog W 0 (fun _=>true) true Tryz.f3.params.toList args.toList ds p:=hA0
 rw [Tryz.params3] at hA hval hsz
 obtain ⟨v0,vs0,d0,ds0,p0,q0,hargs,rfl,rfl,h0,r0⟩:=trodAll_cons hA
 obtain ⟨rfl,rfl,rfl⟩:=trodAll_nil r0
 obtain rfl:args = #[v0]:=by cases args;simp_all
 obtain ⟨rfl,rfl⟩:=trodVars_none hV
 have hkk:=small_bulk hk
 rw [List.append_nil] at hkk
 have hk0:=Nat.le_trans (bulk_mem (d:=d0) (by simp)) hkk
 obtain ⟨n0,ps0,hS0,hbk0,hr0⟩:=arg_any (Ts:=[22,44,9,42,47,45,50,48,52,41,3]) (by kernel_rfl) (by decide) (hval 0 22 v0 rfl rfl) h0 hsz (j:=0) rfl rfl
 rw [Tryz.underlying22] at hr0
 simp only [wO] at hr0
 obtain ⟨pp0,rfl,hr0⟩:=hr0
 obtain ⟨l0,rfl,hl0,hwd0⟩:=vos_ofW n0 _ hS0
 clear hA0 hval0
 refine (pc_calls (law_notes l0 hl0 (hwd0 (Nat.le_trans hbk0 hk0))) rfl (fun i hi=>match i,hi with|0,_=>hr0|_+1,h=>absurd h (Nat.not_lt.2 (Nat.le_add_left 1 _))) hLd).mono fun e W' ⟨he,hb⟩=>?_
 subst he
 exact ⟨_,rfl,law_post (tb:=4) hW' Tryz.laidOut rfl (by rw [Tryz.params3];kernel_rfl) rfl Tryz.underlying4 rfl hb⟩

theorem scoreNotes_holds:Rows.ScoreNotesUptoSaid :=
 OpenClaim.holds_of_cond 3 Tryz.f3 rfl rfl rfl rfl rfl rfl rfl ⟨rfl,rfl,rfl,rfl,rfl⟩ rfl rfl rfl rfl rfl (by kernel_rfl) Tryz.func3 (by kernel_rfl)
  (of_decide_eq_true (by kernel_rfl)) (by unfold Func.isWrapper;first|(rw [if_pos (by decide +kernel)];kernel_rfl)|(rw [if_neg (by decide +kernel)];exact ⟨rfl,rfl⟩))
  (fun os started H enc _ F=>scoreNotes_lifted os started H enc F)

theorem scoreNotes_card:Rows.ScoreNotesUptoCardSaid :=
 Claim7.holds_tied_plain_at .later [] [.data, .data, .data, .data, .pinned] true (true, "cbcabe3ec1a824d6aaaaf0ce77f0e4770ea1c499531960a14bf5e6bfd5c0c93b") true scoreNotes_holds (fun _ h => by cases h) (by kernel_rfl) (fun _ h => by cases h) scoreNotesUpto_row_tie rfl ⟨rfl, rfl⟩ (by kernel_rfl) rfl
  (fun f fn hf hfn=>by
   obtain rfl : f = 3 := Option.some.inj ((show Tryz.prog.funcNamed "cantus/cantuslaw6.ScoreNotes" = some 3 by kernel_rfl).symm.trans hf) |>.symm
   obtain rfl:fn=Tryz.f3:=(Option.some.inj (Tryz.func3.symm.trans hfn)).symm
   exact ⟨by kernel_rfl,fun j t ht=>by
    rw [Tryz.params3] at ht
    have hm:t∈[22]:=by simpa using Array.mem_of_getElem? ht
    have hall:([22].all fun u=>!Tryz.prog.wantsStandIn u)=true:=by kernel_rfl
    exact (show Tryz.prog.wantsStandIn t=false by simpa using List.all_eq_true.1 hall t hm)⟩)
  (by kernel_rfl)
#print axioms scoreNotes_card
end Go.Proofs.YtmlnilkbolcknaaGreatDoor.Pm
