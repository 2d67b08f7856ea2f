/-
  'ScoreTurns' returns true for every input,and each argument reads vF the call as it read before. No condition.
-/
import Derived.Test.YtmlnilkbolcknaaGreatDoorJLawSTurns5
import Derived.Test.YtmlnilkbolcknaaGreatDoorJLawSTurns4
import Derived.Test.YtmlnilkbolcknaaGreatDoorTie
import Derived.Test.YtmlnilkbolcknaaGreatDoorCards
import Derived.SevenTiedAt
set_option linter.unusedVariables false
set_option linter.unusedSimpArgs false
set_option linter.deprecated false
set_option maxRecDepth 100000
set_option maxHeartbeats 4000000
namespace Go.Proofs.YtmlnilkbolcknaaGreatDoor.Pm
open Go.ChangeShapes Go.WideShapes Go.ChangeAt Go.RowKit
theorem scoreTurns_lifted (os:Os) (started:os.Started) (H:Type) (enc:TypeId × Value→H) :
  ReturnsInHanded {} Tryz.checked os 5 .any (fun w args=>(Rows.scoreTurnsSpec.pre enc Tryz.prog Tryz.f5 Rows.scoreTurnsRow.domain false w args∧laidMetH Tryz.prog Rows.scoreTurnsRow.laid w)∧sizedMet enc Tryz.prog Tryz.f5 (OpenSpec.ofChange Rows.scoreTurnsSpec) false w args) (Rows.scoreTurnsSpec.post enc Tryz.prog Tryz.f5 false true false false):=by
 refine returnsInHanded_of_change_and (C:=Tryz.checked) (X:=fun w _=>laidMetH Tryz.prog Rows.scoreTurnsRow.laid w) (fun _ _ _ hh h=>h.of_heap hh) Tryz.own started (by kernel_rfl) Tryz.func5
  (ChangeSpec.witness_shaped (enc:=enc) (C:=Tryz.checked) (os:=os) (X:=fun w _=>laidMetH Tryz.prog Rows.scoreTurnsRow.laid w) false (World.laidAll Tryz.prog os Rows.scoreTurnsRow.laid) #[.slice none 0 0,.string .empty] 8 (World.laidAll_os _ _ _)
   (World.shaped_of_ZipB (by kernel_rfl) (by kernel_rfl)) (by kernel_rfl) (by kernel_rfl) (by kernel_rfl)
   (by rw [MakeChecks.laidMetH_plain _ _ _ (by kernel_rfl)];exact laidMet_laidAll _ (by kernel_rfl) (by kernel_rfl))) ?_
 intro W base args ds gs before hval0 hW hcnd hsz0 hL0 _
 rw [MakeChecks.laidMetH_plain _ _ _ (by kernel_rfl)] at hL0
 have hLd:=laid_of hL0
 have hval:∀ (j:Nat) t v,Tryz.f5.params[j]? = some t→args[j]? = some v→Value.okWide Tryz.prog W .any base t v:=hval0
 have hsz:(DataW.weightsEach Tryz.prog (Tryz.f5.params.toList++Rows.scoreTurnsSpec.plain.varTypes Tryz.prog) (ds++gs)).all (· ≤ reachBytes)=true:=hsz0
 clear hsz0
 have hW':=hW
 obtain ⟨p,q,hA0,hV,rfl,hfz,hnd⟩:=hW
 have hA:DataW.TrodAll enc Tryz.prog W 0 (fun _=>true) true Tryz.f5.params.toList args.toList ds p:=hA0
 rw [Tryz.params5] at hA hval hsz
 obtain ⟨v0,vs0,d0,ds0,p0,q0,hargs,rfl,rfl,h0,r0⟩:=trodAll_cons hA
 obtain ⟨v1,vs1,d1,ds1,p1,q1,rfl,rfl,rfl,h1,r1⟩:=trodAll_cons r0
 obtain ⟨rfl,rfl,rfl⟩:=trodAll_nil r1
 obtain rfl:args = #[v0,v1]:=by cases args;simp_all
 obtain ⟨rfl,rfl⟩:=trodVars_none hV
 obtain ⟨n0,ps0,hS0,hbk0,hr0⟩:=arg_any (Ts:=[22,44,9,42,47,45,50,48,52,41,3]) (by kernel_rfl) (by decide) (hval 0 22 v0 rfl rfl) h0 hsz (j:=0) rfl rfl
 rw [Tryz.underlying22] at hr0
 simp only [wC] at hr0
 obtain ⟨pp0,rfl,hr0⟩:=hr0
 obtain ⟨l0,rfl,hl0⟩:=vos_of n0 _ hS0
 obtain ⟨n1,ps1,hS1,hbk1,hr1⟩:=arg_any (Ts:=[9]) (by kernel_rfl) (by decide) (hval 1 9 v1 rfl rfl) h1 hsz (j:=1) rfl rfl
 rw [Tryz.underlying9] at hr1
 simp only [wC] at hr1
 obtain ⟨pp1,rfl,hr1⟩:=hr1
 obtain ⟨s1,he1,ms1⟩:=sh_str Tryz.underlying9 hS1
 simp only [List.cons.injEq,and_true] at he1
 subst he1
 clear hA0 hval0
 refine (pc_calls (law_turns l0 hl0 s1.data.toList (qkx Tryz.underlying9 h1 hsz (j:=1) rfl rfl hr1)) rfl (fun i hi=>match i,hi with|0,_=>hr0|1,_=>hr1|_+2,h=>absurd h (Nat.not_lt.2 (Nat.le_add_left 2 _))) hLd).mono fun e W' ⟨he,hb⟩=>?_
 subst he
 exact ⟨_,rfl,law_post (tb:=4) hW' Tryz.laidOut rfl (by rw [Tryz.params5];kernel_rfl) rfl Tryz.underlying4 rfl hb⟩

theorem scoreTurns_holds:Rows.ScoreTurnsSaid :=
 OpenClaim.holds_of_wide 5 Tryz.f5 rfl rfl rfl rfl rfl rfl rfl ⟨rfl,rfl,rfl,rfl,rfl⟩ rfl rfl rfl rfl rfl (by kernel_rfl) Tryz.func5 (by kernel_rfl)
  (of_decide_eq_true (by kernel_rfl)) (by unfold Func.isWrapper;first|(rw [if_pos (by decide +kernel)];kernel_rfl)|(rw [if_neg (by decide +kernel)];exact ⟨rfl,rfl⟩))
  (fun os started H enc _=>scoreTurns_lifted os started H enc)

theorem scoreTurns_card:Rows.ScoreTurnsCardSaid :=
 Claim7.holds_tied_plain_at .later [] [.data, .data, .data, .data, .sentinel, .sentinel, .pinned] true (true, "cbcabe3ec1a824d6aaaaf0ce77f0e4770ea1c499531960a14bf5e6bfd5c0c93b") true scoreTurns_holds (fun _ h => by cases h) (by kernel_rfl) (fun _ h => by cases h) scoreTurns_row_tie rfl ⟨rfl, rfl⟩ (by kernel_rfl) rfl
  (fun f fn hf hfn=>by
   obtain rfl : f = 5 := Option.some.inj ((show Tryz.prog.funcNamed "cantus/cantuslaw6.ScoreTurns" = some 5 by kernel_rfl).symm.trans hf) |>.symm
   obtain rfl:fn=Tryz.f5:=(Option.some.inj (Tryz.func5.symm.trans hfn)).symm
   exact ⟨by kernel_rfl,fun j t ht=>by
    rw [Tryz.params5] at ht
    have hm:t∈[22,9]:=by simpa using Array.mem_of_getElem? ht
    have hall:([22,9].all fun u=>!Tryz.prog.wantsStandIn u)=true:=by kernel_rfl
    exact (show Tryz.prog.wantsStandIn t=false by simpa using List.all_eq_true.1 hall t hm)⟩)
  (by kernel_rfl)
#print axioms scoreTurns_card
end Go.Proofs.YtmlnilkbolcknaaGreatDoor.Pm
