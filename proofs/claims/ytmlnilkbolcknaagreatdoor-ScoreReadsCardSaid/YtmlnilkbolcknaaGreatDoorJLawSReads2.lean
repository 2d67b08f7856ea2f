/-
  THE VALUE MACHINE (N): rows laid down for good,loops,whole functions. No program in sight. | THE VALUE MACHINE (O): what a function hands back;contracts of the kit's kind as contracts by values;small words for written walks. No program in sight. | THE VALUE MACHINE (R): contracts of the kit's kind zF plain values,as contracts by values;small lemmas. No program in sight. | THE VALUE MACHINE (S): open rows of shared cells keep their cells under other numbers. No program in sight. | THE VALUE MACHINE (U): states said anew: numbers that take another one's place;a cell that holds nil. No program in sight. | THE VALUE MACHINE (Y): regions that draw,with the keys told: what each operation reads and writes. No program in sight. | THE VALUE MACHINE (SF): the same qit,said in fewer words. No program in sight. | THE VALUE MACHINE (T): texts as lists of bytes. No program in sight. | The plain law of pitches and intervals. No program in sight. | The plain arithmetic of the white keys,step by step. No program in sight. | PITCHES AS TEXTS: what is written,what is read. No program in sight. | INTERVALS AS TEXTS: what is written,what is read. No program in sight. | PITCHES AND INTERVALS AS TEXTS: what is written is read. No program in sight. | PITCHES AND INTERVALS AS TEXTS: what is written is read (the end). No program in sight. | THE DOCUMENT's TEXTS: digits,numbers,small signs. No program in sight. | CHORDS: plain. No program in sight. | THE DOCUMENT's TEXTS: reading: signs one by one,letters,names looked for. No program in sight. | SCORE: plain: items as trees,bars,voices;what is wrong with them. No program in sight. | SCORE: plain: sizes of items and voices (no program in sight). | SCORE: plain: a text read: gaps,words,numbers,pitches,lyrics,items,bars,voices. No program in sight. | SCORE: plain: a text read: long numbers;bars,voices,pieces. No program in sight. | Small lemmas for all walks of this seat. | THE DOCUMENT's one: is a row of bytes one rune that may be sung? The walk of a range zF a string. | THE DOCUMENT's ends: is a byte one of the signs? The walk. | SCORE: plain,for the document's reader: one rune that may be sung,out of its bytes;a number,byte by byte. No program in sight. | THE VALUE MACHINE (PX): calls and operations that panic;functions that hand back or panic. No program in sight. | The program's orders are mixed: one fact of this seat. | THE VALUE MACHINE: trailing dead numbers dropped where the result is a struct of values that nobody writes. No program in sight. | TEXTS: what Go's library does to them: the kit's contracts,by values. | FROM THE ROW's LIST OF VARIABLES to what the walks ask of the world. | What every law's row of this seat needs: the arguments read vL the call as before it,whatever their types,if the call has turned nothing that was there. | THE VALUE MACHINE (Row): a law's arguments,opened to values. | SCORE: a text read: gaps and signs: walks. (Printed by wip/pm.) | SCORE: a text read: words: walks. (Printed by wip/pm.)
-/
import Derived.Test.YtmlnilkbolcknaaGreatDoorJLawSReads1
import Derived.Shelf.Strings.Trim
import Derived.Shelf.Strings.SlTrimAscii
import Derived.Shelf.Strings.Repeat
import Derived.Shelf.Strconv.Itoa3
import Derived.Shelf.Strconv.Atoi
import Derived.Shelf.Unicode.DecodeAny
import Derived.Lib.ItoaLen
import Derived.Shelf.Strings.Prefix
import Derived.Lib.RuneCount
import Derived.Lib.IndexAny
import Derived.Lib.AtoiAll
import Derived.Test.YtmlnilkbolcknaaGreatDoorRows
import Derived.WalkKit
import Derived.WalkSpells
import Derived.WalkLawsBesides
import Derived.Deep.QuietTactic
import Derived.BigQuiet
import Derived.Lib.Hide
import Derived.Laws.RangeAny
import Derived.Laws.RangeString
import Derived.LoopTactic
import Derived.Lib.SlBytesConst
import Derived.Lib.DecodeN
import Derived.Shelf.Lay
import Derived.Shelf.Strings.Search3
import Derived.Lib.AtoiErrMem
import Derived.Lib.AppendIntMem
import Derived.Lib.LaidU8T
import Derived.Lib.LaidTab
import Derived.PinnedBridge
import Derived.Stop.LaidErr
import Derived.Lay
import Derived.ProofKit
import Derived.OpenShut
import Derived.Lib.SmallJoins
import Derived.Below
import Derived.ChangeSame
import Derived.SizedLaws
import Derived.Deep.Matrix
set_option linter.unusedVariables false
set_option linter.unusedSimpArgs false
set_option linter.deprecated false
namespace Go.Proofs.YtmlnilkbolcknaaGreatDoor.Pm
open Go
def frzS (id:Nat) (cs:List PV):L→L
 | []=>[]
 | (k,x) :: l=>(k,match x with
  | some (.pv p)=>some (.pv (frz id cs p))
  | some (.blk T ds)=>match Nat.beq k (kb id) with | true=>none | false=>some (.blk T (WB id cs ds))
  | none=>none) :: frzS id cs l
theorem qbo {id:Nat} {cs:List PV}:∀ {l:L} (k:Nat),get (frzS id cs l) k=match get l k with
  | some (.pv p)=>some (.pv (frz id cs p))
  | some (.blk T ds)=>if k=kb id then none else some (.blk T (WB id cs ds))
  | none=>none
 | [],k=>rfl
 | (j,x) :: l,k=>by
  have ih:=qbo (id:=id) (cs:=cs) (l:=l) k
  simp only [get,frzS,lk] at ih ⊢
  by_cases e:Nat.beq k j=true
  ·have e':=Nat.eq_of_beq_eq_true e
   subst e'
   rw [if_pos e,if_pos e]
   cases x with
   | none=>rfl
   | some v =>
    cases v with
    | pv p=>rfl
    | blk T ds =>
     simp only [Option.join_some]
     by_cases e2:k=kb id
     ·subst e2;simp [Nat.beq_refl]
     ·rw [show Nat.beq k (kb id)=false from by rw [Bool.eq_false_iff];exact fun h=>e2 (Nat.eq_of_beq_eq_true h),if_neg e2]
  ·rw [if_neg e,if_neg e]
   exact ih
section
variable {P:Program} {n:Nat} {c0:Cx} {Bor:BorD} {Q:VY} {n0:Nat} {l:L} {rs:List Item}
theorem Wk.frz {l':L} (id:Nat) {T:TypeId} {cs:List PV} (hg:get l (kb id)=some (.blk T cs)) (hs:YW cs) (he:frzS id cs l=l'):Wk P n c0 Bor n0 l n0 l':=fun cx a hI=>by
 subst he
 obtain ⟨ob,ho,hone,hbk⟩:=hI.blk id T cs hg
 let cx':Cx:=⟨cx.w,fun b=>cx.S b∨ob=some b,cx.own⟩
 have hlive:vQ (get l) id:=⟨T,cs,hg⟩
 have hblk:∀ b,ob=some b→cx'.S b∧∃ arr:Array Value,cx.w.heap[b]? = some (.cells arr T (0,0))∧cs.length≤arr.size∧∀ j,j<cs.length→SRep cx'.w cx'.S (cs.getD j P0) (arr.getD j undef):=by
  intro b hb
  rcases hbk with ⟨h1,_⟩|⟨b',arr,h1,h2,h3,h4⟩
  ·rw [hb] at h1;cases h1
  ·obtain rfl:b'=b:=by rw [hb] at h1;simpa using h1.symm
   refine ⟨.inr hb,arr,h2,h3,fun j hj=>?_⟩
   have hm:cs.getD j P0∈cs:=by simp [List.getD_eq_getElem?_getD,hj]
   exact (qay (h4 j hj) (hs _ hm)).mono fun b hb=>⟨.inl hb,rfl⟩
 have hrep:∀ {p:PV} {v:Value},Rep P cx p v→Rep P cx' (Pm.frz id cs p) v:=fun h=>rep_frz (c:=cx) (c':=cx') rfl (fun _ h=>Or.inl h) rfl ho hone hblk h
 have hgb:∀ i T' ds,get (frzS id cs l) (kb i)=some (.blk T' ds)→i≠id∧∃ ds',get l (kb i)=some (.blk T' ds')∧ds=WB id cs ds':=by
  intro i T' ds h
  rw [qbo] at h
  cases hx:get l (kb i) with
  | none=>rw [hx] at h;cases h
  | some v =>
   rw [hx] at h
   cases v with
   | pv p=>cases h
   | blk T2 ds2 =>
    simp only at h
    by_cases e:kb i=kb id
    ·rw [if_pos e] at h;cases h
    ·rw [if_neg e] at h
     simp only [Option.some.injEq,Val.blk.injEq] at h
     obtain ⟨rfl,rfl⟩:=h
     exact ⟨fun e2=>e (by rw [e2]),_,rfl,rfl⟩
 have hl:∀ i,vQ (get (frzS id cs l)) i→i≠id∧vQ (get l) i:=fun i ⟨T',ds,h⟩=>by
  obtain ⟨h1,ds',h2,_⟩:=hgb i T' ds h
  exact ⟨h1,T',ds',h2⟩
 refine ⟨cx',rfl,{ ids:=hI.ids,blk:=fun i T' ds h=>?_,inj:=fun i j b T1 T2 l1 l2=>hI.inj i j b T1 T2 (hl i l1).2 (hl j l2).2,apart:=fun i b T1 l1 h2=>?_,bnd:=hI.bnd,sok:=fun b hb=>?_,os:=hI.os,tape:=hI.tape,output:=hI.output,size:=hI.size,same:=hI.same,laid:=hI.laid,s0:=fun b hb=>.inl (hI.s0 b hb),s1:=fun b hb=>?_,keep:=⟨fun b hb=>⟨.inl (hI.keep.S b hb).1,(hI.keep.S b hb).2⟩,hI.keep.own,hI.keep.shape⟩,tmps:=hI.tmps,dfr:=hI.dfr,slot:=fun s p hp=>?_,isv:=fun s x hx=>?_ }⟩
 ·obtain ⟨h1,ds',h2,rfl⟩:=hgb i T' ds h
  obtain ⟨ob',h3,h4,h5⟩:=hI.blk i T' ds' h2
  refine ⟨ob',h3,qgh h4,?_⟩
  rcases h5 with ⟨h5,rfl⟩|⟨b,arr,h5,h6,h7,h8⟩
  ·exact .inl ⟨h5,rfl⟩
  ·refine .inr ⟨b,arr,h5,h6,by rw [yF];exact h7,fun j hj=>?_⟩
   rw [yF] at hj
   rw [jP _ _ _ j hj]
   exact hrep (h8 j hj)
 ·obtain ⟨h1,h3⟩:=hl i l1
  have hap:=hI.apart i b T1 h3 h2
  refine ⟨fun hb=>?_,hap.2⟩
  rcases hb with hb|hb
  ·exact hap.1 hb
  ·subst hb
   exact h1 (hI.inj i id b T1 T h3 hlive h2 ho)
 ·rcases hb with hb|hb
  ·exact hI.sok b hb
  ·subst hb;exact hI.bnd id b T ho
 ·rcases hb with hb|hb
  ·exact hI.s1 b hb
  ·subst hb;exact .inr (hI.apart id b T hlive ho).2
 ·rw [qbo] at hp
  cases hx:get l (ks s) with
  | none=>rw [hx] at hp;cases hp
  | some v =>
   rw [hx] at hp
   cases v with
   | pv q =>
    simp only [Option.some.injEq,Val.pv.injEq] at hp
    subst hp
    exact hrep (hI.slot s q hx)
   | blk T2 ds2=>obtain ⟨q,hq⟩:=hI.isv s _ hx;cases hq
 ·rw [qbo] at hx
  cases hy:get l (ks s) with
  | none=>rw [hy] at hx;cases hx
  | some v =>
   rw [hy] at hx
   cases v with
   | pv q=>exact ⟨_,by simpa using hx.symm⟩
   | blk T2 ds2=>obtain ⟨q,hq⟩:=hI.isv s _ hy;cases hq

/-! ### loops -/
def qao (p:Nat→Prop) (m:Nat):Prop:=p m∧∀ k,k<m→¬ p k
theorem qka {p:Nat→Prop}:∀ m,p m→∃ k,qao p k:=by
 intro m
 induction m using Nat.strongRecOn with
 | ind m ih =>
  intro h
  by_cases e:∃ k,k<m∧p k
  ·obtain ⟨k,h1,h2⟩:=e
   exact ih k h1 h2
  ·exact ⟨m,h,fun k h1 h2=>e ⟨k,h1,h2⟩⟩
def qjw {α:Type} (P:Program) (n:Nat) (c0:Cx) (Bor:BorD) (Q:VY) (rs:List Item) (n1:Nat) (I:α→L) (μ:α→Nat) (x:α):VY:=fun e cx a=>match e with
 | .normal=>∃ y cx',cx'.w=cx.w∧Inv ⟨P,n,c0,Bor⟩ (· < n1) cx' (get (I y)) a∧μ y<μ x
 | e=>WS ⟨P,n,c0,Bor⟩ Q rs e cx a
theorem zy {α:Type} {body:Code} (I:α→L) (μ:α→Nat) (n1:Nat) (x0:α) (h0:Wk P n c0 Bor n0 l n1 (I x0)) (h:∀ x,T P n c0 Bor (qjw P n c0 Bor Q rs n1 I μ x) n1 (I x) [.code body]):T P n c0 Bor Q n0 l (.code (.loop body) :: rs):=fun cx a hI=>by
 obtain ⟨cx0,hw0,hI0⟩:=h0 cx a hI
 let p:Act→World→Nat→Prop:=fun a w m=>∃ x cx,cx.w=w∧Inv ⟨P,n,c0,Bor⟩ (· < n1) cx (get (I x)) a∧μ x=m
 have key:=wp_loop (P:=P) (Q:=fun e a' w'=>∃ cx',cx'.w=w'∧WS ⟨P,n,c0,Bor⟩ Q rs e cx' a') (c:=body) (a:=a) (w:=cx.w) (fun a w=>∃ m,qao (p a w) m) (fun a w=>Classical.epsilon (qao (p a w)))
  (qka (μ x0) ⟨x0,cx0,hw0,hI0,rfl⟩) ?_
 ·exact key
 ·intro a w hm
  have hsp:=Classical.epsilon_spec hm
  obtain ⟨⟨x,cx1,rfl,h1,h2⟩,hleast⟩:=hsp
  refine wp_mono (h x cx1 a h1) ?_
  rintro e a' w' ⟨cx',rfl,h3⟩
  cases e with
  | normal =>
   obtain ⟨y,cx2,h4,h5,h6⟩:=h3
   have hex:=qka (p:=p a' cx'.w) (μ y) ⟨y,cx2,h4,h5,rfl⟩
   refine ⟨hex,?_⟩
   have hsp2:=Classical.epsilon_spec hex
   have hle:Classical.epsilon (qao (p a' cx'.w))≤μ y:=by
    rcases Nat.lt_or_ge (μ y) (Classical.epsilon (qao (p a' cx'.w))) with h7|h7
    ·exact absurd ⟨y,cx2,h4,h5,rfl⟩ (hsp2.2 _ h7)
    ·exact h7
   show Classical.epsilon (qao (p a' cx'.w))<Classical.epsilon (qao (p a cx1.w))
   rw [← h2]
   omega
  | exit id=>exact ⟨cx',rfl,h3⟩
  | goto l=>exact ⟨cx',rfl,h3⟩
  | ret=>exact ⟨cx',rfl,h3⟩
  | panic c=>exact ⟨cx',rfl,h3⟩
  | outgrown=>exact ⟨cx',rfl,h3⟩
theorem qq {α:Type} {I:α→L} {μ:α→Nat} {n1:Nat} {x:α} (y:α) (hw:Wk P n c0 Bor n0 l n1 (I y)) (hm:μ y<μ x):T P n c0 Bor (qjw P n c0 Bor Q rs n1 I μ x) n0 l []:=fun cx a hI=>by
 obtain ⟨cx',h1,h2⟩:=hw cx a hI
 exact ⟨y,cx',h1,h2,hm⟩
theorem zI {α:Type} {I:α→L} {μ:α→Nat} {n1:Nat} {x:α} {id:Nat} {ks rs':List Item} (h1:out id ks=none) (h2:out id rs=some rs') (h:T P n c0 Bor Q n0 l rs'):T P n c0 Bor (qjw P n c0 Bor Q rs n1 I μ x) n0 l (.code (.exit id) :: ks) :=
 T_leave h1 fun cx a hI=>ws_out h2 (h cx a hI)
theorem zB {α:Type} {I:α→L} {μ:α→Nat} {n1:Nat} {x:α} {cx:Cx} {a:Act} (h:Q .ret cx a):qjw P n c0 Bor Q rs n1 I μ x .ret cx a:=qhc h

/-! ### whole functions -/
def qgc:List PV→PV
 | [p]=>cz p
 | ps=>.tup (ps.map cz)
def retQ (P:Program) (fn:Func) (c0:Cx) (Bor:BorD) (r:PV) (H':Hp):VY:=fun e cx a=>(e = .normal∨e = .ret)∧a.defers=Bor.ds∧∃ v cx',cx'.w=cx.w∧(results fn a.tmps).run P cx.w = .ok v cx.w∧Rep P cx' r v∧Heap ⟨P,0,c0,Bor⟩ (· < H'.length) cx' (VX H')
theorem Heap.env {nx:Nat→Prop} {m:Nat} {c:Cx} {g:St} (h:Heap ⟨P,n,c0,Bor⟩ nx c g):Heap ⟨P,m,c0,Bor⟩ nx c g :=
 { ids:=h.ids,blk:=h.blk,inj:=h.inj,apart:=h.apart,bnd:=h.bnd,sok:=h.sok,os:=h.os,tape:=h.tape,output:=h.output,size:=h.size,same:=h.same,laid:=h.laid,s0:=h.s0,s1:=h.s1,keep:=h.keep }
theorem Heap.less {E:Env} {nx:Nat→Prop} {c:Cx} {g g':St} (h:Heap E nx c g) (hs:∀ i T cs,g' (kb i)=some (.blk T cs)→g (kb i)=some (.blk T cs)):Heap E nx c g':=by
 have hl:∀ i,vQ g' i→vQ g i:=fun i ⟨T,cs,hx⟩=>⟨T,cs,hs _ _ _ hx⟩
 exact { h with blk:=fun i T cs hx=>h.blk i T cs (hs _ _ _ hx),inj:=fun i j b T T' l1 l2=>h.inj i j b T T' (hl i l1) (hl j l2),apart:=fun i b T l1=>h.apart i b T (hl i l1) }
def qdd (l:L):Nat→Hp→List Prop
 | _,[]=>[]
 | i,some (T,cs) :: H=>(get l (kb i)=some (.blk T cs)) :: qdd l (i+1) H
 | i,none :: H=>qdd l (i+1) H
theorem qat {l:L}:∀ {H:Hp} {n:Nat},(∀ p∈qdd l n H,p)→∀ i x,H.getD i none=some x→get l (kb (n+i))=some (.blk x.1 x.2)
 | [],n,_,i,x,h=>by simp at h
 | none :: H,n,hp,0,x,h=>by simp at h
 | none :: H,n,hp,i+1,x,h=>by
  have:=qat (H:=H) (n:=n+1) hp i x (by simpa using h)
  rwa [show n+1+i=n+(i+1) by omega] at this
 | some y :: H,n,hp,0,x,h=>by
  obtain ⟨T,cs⟩:=y
  have:(T,cs)=x:=by simpa using h
  subst this
  exact hp _ (by simp [qdd])
 | some y :: H,n,hp,i+1,x,h=>by
  obtain ⟨T,cs⟩:=y
  have:=qat (l:=l) (H:=H) (n:=n+1) (fun p hp'=>hp p (by simp [qdd,hp'])) i x (by simpa using h)
  rwa [show n+1+i=n+(i+1) by omega] at this
theorem jz {fn:Func} {r:PV} {H':Hp} {n1:Nat} {l':L} {e:Exit} (he:e = .normal∨e = .ret) (hw:Wk P n c0 Bor n0 l n1 l') (hn:n1=H'.length) (hb:∀ p∈qdd l' 0 H',p)
  (hr:∀ (cx:Cx) (a:Act),Inv ⟨P,n,c0,Bor⟩ (· < n1) cx (get l') a→∃ v,(results fn a.tmps).run P cx.w = .ok v cx.w∧Rep P cx r v) {cx:Cx} {a:Act} (hI:Inv ⟨P,n,c0,Bor⟩ (· < n0) cx (get l) a):retQ P fn c0 Bor r H' e cx a:=by
 obtain ⟨cx',h1,h2⟩:=hw cx a hI
 obtain ⟨v,h3,h4⟩:=hr cx' a h2
 refine ⟨he,hI.dfr,v,cx',h1,by rw [← h1];exact h3,h4,?_⟩
 subst hn
 refine (h2.toHeap.env).less fun i T cs hx=>?_
 rw [ZA] at hx
 cases hy:H'.getD i none with
 | none=>rw [hy] at hx;cases hx
 | some y =>
  rw [hy] at hx
  simp only [Option.some.injEq,Val.blk.injEq] at hx
  obtain ⟨rfl,rfl⟩:=hx
  have:=qat hb i y hy
  rwa [Nat.zero_add] at this
def Yz:Nat→List PV→L
 | _,[]=>[]
 | i,p :: ps=>(ks i,some (.pv p)) :: Yz (i+1) ps
def YC:Nat→Hp→L
 | _,[]=>[]
 | i,x :: H=>(kb i,match x with | some y=>some (.blk y.1 y.2) | none=>none) :: YC (i+1) H
theorem qcy (i:Nat):∀ (ps:List PV) (n:Nat),lk (kb i) (Yz n ps)=none
 | [],_=>rfl
 | p :: ps,n=>by simp only [Yz,lk,qbu];exact qcy i ps (n+1)
theorem qcx (s:Nat):∀ (H:Hp) (n:Nat),lk (ks s) (YC n H)=none
 | [],_=>rfl
 | x :: H,n=>by simp only [YC,lk,jy];exact qcx s H (n+1)
theorem qjz:∀ (ps:List PV) (n s:Nat) (x:Option Val),lk (ks s) (Yz n ps)=some x→n≤s∧s<n+ps.length∧x=some (.pv (ps.getD (s-n) P0))
 | p :: ps,n,s,x,h=>by
  simp only [Yz,lk,YS] at h
  by_cases e:s=n
  ·subst e
   rw [decide_eq_true rfl,if_pos rfl] at h
   cases h
   exact ⟨Nat.le_refl _,by simp,by rw [Nat.sub_self];rfl⟩
  ·rw [decide_eq_false e,if_neg (by simp)] at h
   obtain ⟨h1,h2,h3⟩:=qjz ps (n+1) s x h
   refine ⟨by omega,by simp;omega,?_⟩
   rw [h3,show s-n=(s-(n+1))+1 by omega]
   rfl
theorem qjy:∀ (H:Hp) (n i:Nat) (T:TypeId) (cs:List PV),lk (kb i) (YC n H)=some (some (.blk T cs))→n≤i∧H.getD (i-n) none=some (T,cs)
 | x :: H,n,i,T,cs,h=>by
  simp only [YC,lk,VN] at h
  by_cases e:i=n
  ·subst e
   rw [decide_eq_true rfl,if_pos rfl] at h
   cases x with
   | none=>cases h
   | some y =>
    simp only [Option.some.injEq,Val.blk.injEq] at h
    obtain ⟨rfl,rfl⟩:=h
    exact ⟨Nat.le_refl _,by rw [Nat.sub_self];rfl⟩
  ·rw [decide_eq_false e,if_neg (by simp)] at h
   obtain ⟨h1,h2⟩:=qjy H (n+1) i T cs h
   refine ⟨by omega,?_⟩
   rw [show i-n=(i-(n+1))+1 by omega]
   exact h2
theorem qkf {fn:Func} {args:List PV} {H:Hp} {l0:L} (hn:args.length≤fn.ntmps) (hl0:Yz 0 args++YC 0 H=l0)
  (c:Cx) (vs:Array Value) (hh:Heap (jZ P c H) (· < H.length) c (VX H)) (hrl:RL P c args vs) :
  Inv ⟨P,fn.ntmps,c,(jZ P c H).Bor⟩ (· < H.length) c (get l0) { tmps:=vs++Array.replicate (fn.ntmps-vs.size) undef,defers:=[] }:=by
 have hvs:=hrl.1
 subst hl0
 have hgb:∀ i T cs,get (Yz 0 args++YC 0 H) (kb i)=some (.blk T cs)→VX H (kb i)=some (.blk T cs):=by
  intro i T cs hx
  rw [vY] at hx
  simp only [zF,qcy,get] at hx
  have h2:lk (kb i) (YC 0 H)=some (some (.blk T cs)):=by
   cases hy:lk (kb i) (YC 0 H) with
   | none=>rw [hy] at hx;cases hx
   | some y=>rw [hy] at hx;simpa using hx
  obtain ⟨_,h3⟩:=qjy H 0 i T cs h2
  rw [Nat.sub_zero] at h3
  rw [ZA,h3]
 have hgs:∀ s x,get (Yz 0 args++YC 0 H) (ks s)=some x→s<args.length∧x = .pv (args.getD s P0):=by
  intro s x hx
  rw [vY] at hx
  simp only [zF,get,qcx] at hx
  cases hy:lk (ks s) (Yz 0 args) with
  | none=>rw [hy] at hx;cases hx
  | some y =>
   rw [hy] at hx
   obtain ⟨_,h2,h3⟩:=qjz args 0 s y hy
   simp only [Nat.sub_zero] at h3
   rw [h3] at hx
   exact ⟨by omega,by simpa using hx.symm⟩
 have hh1:Heap ⟨P,fn.ntmps,c,(jZ P c H).Bor⟩ (· < H.length) c (VX H):=hh.env
 exact { hh1.less hgb with
   tmps:=by simp;omega
   dfr:=rfl
   slot:=fun s p hp=>by
     obtain ⟨h1,h2⟩:=hgs s _ hp
     cases h2
     have h3:=hrl.2 s h1
     have h4:s<vs.size:=by omega
     have e:(vs++Array.replicate (fn.ntmps-vs.size) undef).getD s undef=vs.getD s undef:=by
       rw [Array.getD_eq_getD_getElem?,Array.getElem?_append_left h4,Array.getD_eq_getD_getElem?]
     show Rep P c _ ((vs++Array.replicate (fn.ntmps-vs.size) undef).getD s undef)
     rw [e]
     exact h3
   isv:=fun s x hx=>⟨_,(hgs s x hx).2⟩ }
theorem qas {fn:Func} {code:Code} {args:List PV} {H:Hp} {l0:L} {Q:Cx→(Nat→Prop)→VY}
  (hn:Nat.ble args.length fn.ntmps=true) (hl0:Yz 0 args++YC 0 H=l0) (h:∀ c0 (Bor:Nat→Prop),(∀ i x,c0.own i=some x→i<H.length)→T P fn.ntmps c0 ⟨Bor,[]⟩ (Q c0 Bor) H.length l0 [.code code])
  (c:Cx) (vs:Array Value) (hh:Heap (jZ P c H) (· < H.length) c (VX H)) (hrl:RL P c args vs) :
  code.wp P (fun e a' w'=>∃ cx',cx'.w=w'∧Q c (jZ P c H).Bor.bor e cx' a') { tmps:=vs++Array.replicate (fn.ntmps-vs.size) undef,defers:=[] } c.w:=by
 have hn:=Nat.le_of_ble_eq_true hn
 exact h c (jZ P c H).Bor.bor (fun i x hx=>hh.ids i x hx) c _ (qkf hn hl0 c vs hh hrl)
theorem zG {f : FuncId} {fn : Func} {code : Code} {args : List PV} {H H' : Hp} {r : PV} {l0 : L} (hf : P.funcs[f]? = some fn) (hb : fn.body = some code) (hname : (fn.name == "runtime.NumGoroutine") = false) (hlen : H.length ≤ H'.length)
  (hn:Nat.ble args.length fn.ntmps=true) (hl0:Yz 0 args++YC 0 H=l0) (h:∀ c0 (Bor:Nat→Prop),(∀ i x,c0.own i=some x→i<H.length)→T P fn.ntmps c0 ⟨Bor,[]⟩ (retQ P fn c0 ⟨Bor,[]⟩ r H') H.length l0 [.code code]):PC P f args H r H':=by
 refine ⟨⟨fn,hf,by rw [hb];rfl,hname⟩,hlen,fun c vs hh hrl=>?_⟩
 refine calls_of_wp hf hb ?_
 have key:=qas hn hl0 h c vs hh hrl
 refine wp_mono key ?_
 rintro e a' w' ⟨cx',rfl,he,hd,v,cx2,h1,h2,h3,h4⟩
 rcases he with rfl|rfl
 ·exact ⟨hd,v,h2,v,cx2,rfl,h1,h4,h3⟩
 ·exact ⟨hd,v,h2,v,cx2,rfl,h1,h4,h3⟩
theorem pc_calls {f:FuncId} {args:List PV} {v:Value} {w:World} {vs:Array Value} (h:PC P f args [] (.av v) []) (hn:vs.size=args.length) (hr:∀ i,i<args.length→SRep w (fun b=>b<w.heap.size) (args.getD i P0) (vs.getD i undef))
  (hL:Laid w (fun b=>b<w.heap.size):=by (exact ⟨fun x hx=>absurd hx (List.not_mem_nil (a:=x)),trivial⟩)) :
  Calls P f vs w fun e w'=>e = .returned v∧RowKit.Below w.heap.size w w':=by
 obtain ⟨_,_,h⟩:=h
 let c:Cx:=⟨w,fun b=>b<w.heap.size,fun _=>none⟩
 have hh:Heap (jZ P c []) (· < ([]:Hp).length) c (VX []):=by
  refine { ids:=fun i x hx=>(by cases hx),blk:=fun i T cs hx=>(by rw [ZA] at hx;simp at hx),inj:=fun i j b T T' l1=>?_,apart:=fun i b T l1=>?_,bnd:=fun i b T hx=>(by cases hx),sok:=fun b hb=>hb,os:=rfl,tape:=rfl,output:=rfl,size:=Nat.le_refl _,same:=fun _ _ _=>rfl,laid:=hL,s0:=fun _ h=>h,s1:=fun _ h=>.inl h,keep:=Keep.refl _ }
  ·obtain ⟨T,cs,hx⟩:=l1
   rw [ZA] at hx;simp at hx
  ·obtain ⟨T,cs,hx⟩:=l1
   rw [ZA] at hx;simp at hx
 refine (h c vs hh ⟨hn,fun i hi=>.sh (hr i hi)⟩).mono ?_
 rintro e w' ⟨u,c',rfl,rfl,h1,h2⟩
 rw [zE h2]
 refine ⟨rfl,h1.os,h1.tape,h1.output,h1.size,fun k hk=>h1.same k hk ?_⟩
 rintro ⟨i,T,⟨T',cs,hx⟩,_⟩
 rw [ZA] at hx
 simp at hx
end
def resP (P:Program):List ResultVar→(List PV→Plan)→Plan
 | [],k=>k []
 | .tmp t :: rs,k=>.look (ks t) fun v=>match v with | .pv p=>resP P rs fun ps=>k (p :: ps) | .blk _ _=>.fail
 | .cell t T :: rs,k=>.look (ks t) fun v=>match v with
  | .pv (.opt id off)=>.look (kb id) fun v=>match v with
   | .blk _ cs=>match wU (P.underlying T),P.info? T with
    | some true,some ti=>seg cs off ti.size .no fun l=>resP P rs fun ps=>k (.agg l :: ps)
    | some false,some _=>seg cs off 1 .no fun l=>one1 l fun p=>resP P rs fun ps=>k (p :: ps)
    | _,_=>.fail
   | .pv _=>.fail
  | _=>.fail
abbrev resF (tmps:Array Value):ResultVar→Sem Value:=fun x=>match x with
 | .tmp t=>pure (tmps.getD t undef)
 | .cell a t=>do loadVar t (← asAddr (tmps.getD a undef))
theorem qhj {E:Env} {nx:Nat→Prop} {c:Cx} {g:St} {a:Act} (hI:Inv E nx c g a):∀ {rs:List ResultVar} {k:List PV→Plan} {p:PV} {wb:L},Res g (resP E.P rs k) p wb →
  ∃ ps vs,RL E.P c ps (List.toArray vs)∧(rs.mapM (resF a.tmps)).run E.P c.w = .ok vs c.w∧Res g (k ps) p wb
 | [],k,p,wb,h=>⟨[],[],⟨rfl,fun i hi=>by simp at hi⟩,by simp,h⟩
 | .tmp t :: rs,k,p,wb,h=>by
  obtain ⟨v,h1,h2⟩:=Res.look h
  cases v with
  | blk T cs=>exact (Res.fail h2).elim
  | pv q =>
   obtain ⟨ps,vs,h3,h4,h5⟩:=qhj hI h2
   refine ⟨q :: ps,a.tmps.getD t undef :: vs,?_,?_,h5⟩
   ·have:=(YL (hI.slot t q h1)).append h3
    simpa using this
   ·simp [List.mapM_cons,h4,resF]
 | .cell t T :: rs,k,p,wb,h=>by
  obtain ⟨v,h1,h2⟩:=Res.look h
  split at h2
  case h_2=>exact (Res.fail h2).elim
  rename_i id off
  obtain ⟨bv,hg,h3⟩:=Res.look h2
  cases bv with
  | pv _=>exact (Res.fail h3).elim
  | blk T' cs =>
   simp only at h3
   obtain ⟨b,T2,hown,hv⟩:=wy (hI.slot t _ h1)
   obtain ⟨ob',hown',hone,hb⟩:=hI.blk id T' cs hg
   rw [hown] at hown'
   cases hown'
   rcases hb with ⟨hb,_⟩|⟨b',arr,hb1,hb2,hb3,hb4⟩
   ·cases hb
   obtain rfl:b'=b:=by simpa using hb1.symm
   have hcell:∀ j,j<cs.length→c.w.cell? ⟨b',0+j,none⟩=some (arr.getD j undef):=fun j hj=>by
    have:j<arr.size:=by omega
    rw [Nat.zero_add,cell_of_row c.w _ _ arr _ _ hb2]
    simp [Array.getD_eq_getD_getElem?,this]
   -- one value loaded,the rest vL it
   have key:∀ {q:PV} {u:Value} {r:Plan},Rep E.P c q u→(loadVar T ⟨b',0+off,none⟩).run E.P c.w = .ok u c.w→Res g (resP E.P rs fun ps=>k (q :: ps)) p wb →
     ∃ ps vs,RL E.P c ps (List.toArray vs)∧((ResultVar.cell t T :: rs).mapM (resF a.tmps)).run E.P c.w = .ok vs c.w∧Res g (k ps) p wb:=by
    intro q u r hq hu hr
    obtain ⟨ps,vs,h5,h6,h7⟩:=qhj hI hr
    refine ⟨q :: ps,u :: vs,?_,?_,h7⟩
    ·have:=(YL hq).append h5
     simpa using this
    ·rw [Nat.zero_add] at hu
     have e:(resF a.tmps (.cell t T)).run E.P c.w = .ok u c.w:=by
      have hv2:a.tmps.getD t undef = .pointer (some ⟨b',off,none⟩):=hv
      simp only [resF,Sem.run_bind,hv2,asAddr,Sem.run_pure,Result.andThen_ok,hu]
     rw [List.mapM_cons]
     simp only [Sem.run_bind,e,h6,Result.andThen_ok,Sem.run_pure]
   split at h3
   ·rename_i ti hag hin
    have h4:Res g (YM cs off ti.size true .no) (.agg ((cs.drop off).take ti.size)) []∧Res g (resP E.P rs fun ps=>k (.agg ((cs.drop off).take ti.size) :: ps)) p wb:=by
     unfold seg at h3
     simp only at h3
     split at h3
     ·rename_i hb5
      refine ⟨?_,h3⟩
      simp only [YM,seg,hb5]
      exact ⟨_,rfl,rfl,rfl,fun q hq=>by cases hq⟩
     ·exact (Res.fail h3).elim
    obtain ⟨_,u,h5,h6⟩:=qbl (c:=c) (a:=0) hag hin h4.1 hcell hb4
    exact key (r:=.fail) h5 h6 h4.2
   ·rename_i ti hag hin
    unfold seg at h3
    simp only at h3
    split at h3
    ·rename_i hb5
     unfold one1 at h3
     split at h3
     ·rename_i q heq
      have h4:Res g (YM cs off ti.size false .no) q []:=by
       simp only [YM,seg,hb5,heq,one1]
       exact ⟨_,rfl,rfl,rfl,fun q hq=>by cases hq⟩
      obtain ⟨_,u,h5,h6⟩:=qbl (c:=c) (a:=0) hag hin h4 hcell hb4
      exact key (r:=.fail) h5 h6 h3
     ·exact (Res.fail h3).elim
    ·exact (Res.fail h3).elim
   ·exact (Res.fail h3).elim
def runv (g:St) (p:Plan):Option (PV × List Prop):=match run g p with|some o=>some (o.pv,o.obs)|none=>none
theorem wN {P:Program} {n:Nat} {c0:Cx} {Bor:BorD} {n0:Nat} {fn:Func} {l':L} {r:PV} (h:runv (get l') (resP P fn.results.toList fun ps=>.done (qgc ps) [])=some (r,[])) (cx:Cx) (a:Act)
  (hI:Inv ⟨P,n,c0,Bor⟩ (· < n0) cx (get l') a):∃ v,(results fn a.tmps).run P cx.w = .ok v cx.w∧Rep P cx r v:=by
 unfold runv at h
 split at h
 case h_2=>cases h
 rename_i o h0
 simp only [Option.some.injEq,Prod.mk.injEq] at h
 obtain ⟨hr,ho⟩:=h
 obtain ⟨ps,vs,h1,h2,h3⟩:=qhj hI (p:=r) (wb:=o.wb) ⟨o,h0,hr,rfl,fun q hq=>by rw [ho] at hq;cases hq⟩
 obtain ⟨rfl,_⟩:=Res.done h3
 have e:(results fn a.tmps).run P cx.w = .ok (if hs:vs.toArray.size=1 then vs.toArray[0] else .tuple vs.toArray) cx.w:=by
  have e0:results fn a.tmps=(do let vs ← fn.results.mapM (resF a.tmps);pure (if h:vs.size=1 then vs[0] else .tuple vs)):=rfl
  rw [e0,Array.mapM_eq_mapM_toList]
  simp only [Sem.run_bind,Sem.run_map,h2,Result.andThen_ok]
  rfl
 refine ⟨_,e,?_⟩
 have hlen:vs.length=ps.length:=by simpa using h1.1
 unfold qgc
 split
 ·rename_i p
  have h5:vs.toArray.size=1:=by simpa using hlen
  rw [dif_pos h5]
  have:=h1.2 0 (by simp)
  have h6:(0:Nat)<vs.length:=by simpa using hlen▸Nat.one_pos
  simp [Array.getD_eq_getD_getElem?,h6] at this
  exact rep_cz (by simpa using this)
 ·rename_i hne
  have h5:¬ vs.toArray.size=1:=fun e=>by
   have:ps.length=1:=by simp at e;omega
   obtain ⟨q,rfl⟩:=List.length_eq_one_iff.1 this
   exact hne q rfl
  rw [dif_neg h5]
  refine .tup (by simp [hlen]) fun i hi=>?_
  have hi':i<ps.length:=by simpa using hi
  have:=rep_cz (h1.2 i hi')
  simpa [List.getD_eq_getElem?_getD,hi'] using this

/-! ### contracts of the kit's kind -/
theorem pc_ofL {P:Program} {f:FuncId} {args:List PV} {r:PV} (hf:FnOk P f) (hr:∀ w vs,Laid w (fun b=>b<w.heap.size)→RL P ⟨w,fun b=>b<w.heap.size,fun _=>none⟩ args vs→Calls P f vs w fun e w'=>∃ v,e = .returned v∧RowKit.Below w.heap.size w w'∧∀ c,Rep P c r v)
  (hargs:∀ c vs,RL P c args vs→RL P ⟨c.w,fun b=>b<c.w.heap.size,fun _=>none⟩ args vs):PC P f args [] r []:=by
 refine ⟨hf,Nat.le_refl _,fun c vs hh hrl=>(hr c.w vs ⟨fun x hx=>hh.sok _ (hh.laid.1 x hx),hh.laid.2⟩ (hargs c vs hrl)).mono ?_⟩
 rintro e w' ⟨v,rfl,hb,hv⟩
 have hbl:∀ b,b<c.w.heap.size→w'.heap[b]? = c.w.heap[b]? := hb.block
 have hno:∀ i,¬ vQ (VX []) i:=fun i ⟨T,cs,hx⟩=>by rw [ZA] at hx;simp at hx
 have hk:Keep c ⟨w',c.S,c.own⟩:=⟨fun b hb=>⟨hb,hbl b (hh.sok b hb)⟩,fun _ _ h=>h,fun b cs T h=>⟨cs,by rw [hbl b (some_lt h)];exact h,rfl⟩⟩
 exact ⟨v,⟨w',c.S,c.own⟩,rfl,rfl,{ ids:=hh.ids,blk:=fun i T cs hx=>absurd ⟨T,cs,hx⟩ (hno i),inj:=fun i j b T T' l1=>absurd l1 (hno i),apart:=fun i b T l1=>absurd l1 (hno i),bnd:=fun i b T hx=>Nat.lt_of_lt_of_le (hh.bnd i b T hx) hb.size,sok:=fun b hS=>Nat.lt_of_lt_of_le (hh.sok b hS) hb.size,os:=hb.os,tape:=hb.tape,output:=hb.output,size:=hb.size,same:=fun b hb' _=>hbl b hb',laid:=hh.laid,s0:=fun _ h=>h,s1:=fun _ h=>.inl h,keep:=hk },hv _⟩

/-! ### small words -/
section
variable {P:Program} {n:Nat} {c0:Cx} {Bor:BorD} {Q:VY} {n0:Nat} {l:L} {rs:List Item}
theorem qL {t:Nat} {x y:Code} {b:Bool} (hb:get l (ks t)=some (.pv (.av (.bool b)))) (hv:b=true) (h:T P n c0 Bor Q n0 l (.code x :: rs)):T P n c0 Bor Q n0 l (.code (.cond (.tmp t) x y) :: rs) :=
 T_cond hb (fun _=>h) fun e=>by rw [hv] at e;cases e
theorem qO {t:Nat} {x y:Code} {b:Bool} (hb:get l (ks t)=some (.pv (.av (.bool b)))) (hv:b=false) (h:T P n c0 Bor Q n0 l (.code y :: rs)):T P n c0 Bor Q n0 l (.code (.cond (.tmp t) x y) :: rs) :=
 T_cond hb (fun e=>by rw [hv] at e;cases e) fun _=>h
end
theorem oz:∀ p∈([]:List Prop),p:=fun p hp=>by cases hp
theorem oc {p:Prop} {l:List Prop} (h:p) (k:∀ q∈l,q):∀ q∈p :: l,q:=fun q hq=>by
 rcases List.mem_cons.1 hq with rfl|hq
 ·exact h
 ·exact k q hq
theorem Wk.eq {P:Program} {n:Nat} {c0:Cx} {Bor:BorD} {n0:Nat} {l l':L} (h:l=l'):Wk P n c0 Bor n0 l n0 l':=h▸Wk.refl
abbrev iv (n:Int):PV:=.av (.int .i64 n)
abbrev bv (b:Bool):PV:=.av (.bool b)
abbrev sv (s:ByteArray):PV:=.av (.string s)
abbrev ps (s:Nat) (p:PV):Nat × Option Val:=(ks s,some (.pv p))
abbrev pb (i:Nat) (T:TypeId) (cs:List PV):Nat × Option Val:=(kb i,some (.blk T cs))
theorem Yk {α:Type} (f:α→List PV) (s:Nat) (hf:∀ x,(f x).length=s):∀ l:List α,(l.flatMap f).length=l.length*s
 | []=>by simp
 | x :: l=>by rw [List.flatMap_cons,List.length_append,hf,Yk f s hf l,List.length_cons,Nat.succ_mul];omega
theorem jJ {α:Type} (f:α→List PV) (s:Nat) (hf:∀ x,(f x).length=s) (d:α):∀ (l:List α) (k j m:Nat),k<l.length→j+m≤s →
  k*s+j+m≤(l.flatMap f).length∧((l.flatMap f).drop (k*s+j)).take m=((f (l.getD k d)).drop j).take m
 | x :: l,0,j,m,_,hj=>by
  refine ⟨by rw [Yk f s hf,List.length_cons,Nat.succ_mul];omega,?_⟩
  rw [Nat.zero_mul,Nat.zero_add,List.flatMap_cons,List.drop_append_of_le_length (by rw [hf];omega),List.take_append_of_le_length (by rw [List.length_drop,hf];omega)]
  rfl
 | x :: l,k+1,j,m,hk,hj=>by
  have hk':k<l.length:=by simpa using hk
  obtain ⟨h1,h2⟩:=jJ f s hf d l k j m hk' hj
  refine ⟨by rw [List.flatMap_cons,List.length_append,hf,Nat.succ_mul];omega,?_⟩
  have e:(k+1)*s+j=s+(k*s+j):=by rw [Nat.succ_mul];omega
  rw [List.flatMap_cons,e,← List.drop_drop,show s=(f x).length from (hf x).symm,List.drop_left,hf x,h2]
  rfl
theorem qek {P:Program} {f:FuncId} {args:List PV} {r:PV} {us:List Value} {v:Value} (hf:FnOk P f) (ha:QM args=some us) (hr:qgr r=some v)
  (h:∀ w,Laid w (fun b=>b<w.heap.size)→Calls P f us.toArray w fun e w'=>e = .returned v∧RowKit.Below w.heap.size w w'):PC P f args [] r []:=by
 refine pc_ofL hf (fun w vs hL hrl=>?_) fun c vs hrl=>?_
 ·rw [ZX (f:=ZZ) (fs:=QM) rfl (fun _ _=>rfl) (fun _ _ _ h k=>ZY h k) ha hrl]
  exact (h w hL).mono fun e w' ⟨he,hb⟩=>⟨v,he,hb,fun c=>.sh (qfa hr)⟩
 ·rw [ZX (f:=ZZ) (fs:=QM) rfl (fun _ _=>rfl) (fun _ _ _ h k=>ZY h k) ha hrl]
  obtain ⟨h1,h2⟩:=WC (w:=c.w) (S:=fun b=>b<c.w.heap.size) (f:=ZZ) (fs:=QM) rfl (fun _ _=>rfl) (fun _ _ h=>qbr h) ha
  exact ⟨by simpa using h1,fun i hi=>by rw [qbx];exact .sh (h2 i hi)⟩
theorem vW {P:Program} {f:FuncId} {args:List PV} {r:PV} {us:List Value} {v:Value} (hf:FnOk P f) (ha:QM args=some us) (hr:qgr r=some v)
  (h:∀ w,Calls P f us.toArray w fun e w'=>e = .returned v∧RowKit.Below w.heap.size w w'):PC P f args [] r []:=qek hf ha hr fun w _=>h w
theorem jA {P : Program} {f : FuncId} {fn : Func} (hf : P.funcs[f]? = some fn) (hb : fn.body.isNone = false) (hn : (fn.name == "runtime.NumGoroutine") = false) : FnOk P f := ⟨fn, hf, hb, hn⟩
theorem qbq {α:Type} (f:α→List PV) (l m:List α):(l++m).flatMap f=l.flatMap f++m.flatMap f:=List.flatMap_append
def rkey (σ:Nat→Nat) (k:Nat):Nat:=match Nat.beq (k % 2) 1 with|true=>kb (σ (k / 2))|false=>k
def rval (σ:Nat→Nat):Option Val→Option Val
 | some (.pv p)=>some (.pv (ren σ p))
 | some (.blk T cs)=>some (.blk T (vJ σ cs))
 | none=>none
def qca (n1:Nat) (l:L):Bool:=l.all fun x=>match x.2 with|some (.blk _ _)=>Nat.beq (x.1 % 2) 1 && Nat.blt (x.1 / 2) n1|some (.pv _)=>Nat.beq (x.1 % 2) 0|none=>true
theorem reSt_of {σ:Nat→Nat} {n1:Nat} {g:St}:∀ {l:L},l.map (fun x=>g (rkey σ x.1))=l.map (fun x=>rval σ x.2)→qca n1 l=true→∀ p∈reSt σ n1 l g,p
 | [],_,_,p,hp=>by cases hp
 | x :: l,h,hb,p,hp=>by
  simp only [List.map_cons,List.cons.injEq] at h
  simp only [qca,List.all_cons,Bool.and_eq_true] at hb
  simp only [reSt,List.map_cons,List.mem_cons] at hp
  rcases hp with rfl|hp
  ·obtain ⟨k,v⟩:=x
   cases v with
   | none=>trivial
   | some v =>
    cases v with
    | pv p =>
     have h0:k % 2=0:=Nat.eq_of_beq_eq_true hb.1
     have h1:=h.1
     simp only [rkey,rval,h0] at h1
     exact h1
    | blk T cs =>
     have hb1:=hb.1
     simp only [Bool.and_eq_true,Nat.blt_eq] at hb1
     have h0:k % 2=1:=Nat.eq_of_beq_eq_true hb1.1
     have h1:=h.1
     simp only [rkey,rval,h0,Nat.beq_refl] at h1
     exact ⟨h0,hb1.2,h1⟩
  ·exact reSt_of h.2 hb.2 p hp
theorem Wk.ren2 {P:Program} {n:Nat} {c0:Cx} {Bor:BorD} {n0:Nat} {l:L} (l':L) (m:Nat) (hc0:∀ i x,c0.own i=some x→i<m) (σl:List Nat) (hσ:σl.take m=List.range m) (hnd:wL σl=true) (hb:qca σl.length l'=true)
  (h:l'.map (fun x=>get l (rkey (sgm n0 σl) x.1))=l'.map (fun x=>rval (sgm n0 σl) x.2)):Wk P n c0 Bor n0 l σl.length l':=Wk.ren m hc0 σl hσ hnd (reSt_of h hb)
theorem qbh {P:Program} {f:FuncId} {args:List PV} {r:PV} {v:Value} (H':Hp) (hr:qgr r=some v) (_hd:∀ i,H'.getD i none=none) (h:PC P f args [] r H'):PC P f args [] r []:=by
 obtain ⟨h1,_,h2⟩:=h
 refine ⟨h1,Nat.le_refl _,fun c vs hh hrl=>(h2 c vs hh hrl).mono ?_⟩
 rintro e w' ⟨u,c',rfl,rfl,h3,h4⟩
 have hno:∀ (H:Hp),(∀ i,H.getD i none=none)→∀ i,¬ vQ (VX H) i:=fun H hH i ⟨T,cs,hx⟩=>by rw [ZA,hH] at hx;cases hx
 have hno0:=hno [] (fun i=>by simp)
 have hown:∀ i x,c.own i=some x→False:=fun i x hx=>by have:i<0:=hh.ids i x hx;omega
 have hk:=h3.keep
 refine ⟨u,⟨c'.w,c'.S,fun _=>none⟩,rfl,rfl,{ ids:=fun i x hx=>(by cases hx),blk:=fun i T cs hx=>absurd ⟨T,cs,hx⟩ (hno0 i),inj:=fun i j b T T' l1=>absurd l1 (hno0 i),apart:=fun i b T l1=>absurd l1 (hno0 i),bnd:=fun i b T hx=>(by cases hx),sok:=h3.sok,os:=h3.os,tape:=h3.tape,output:=h3.output,size:=h3.size,same:=h3.same,laid:=h3.laid,s0:=h3.s0,s1:=h3.s1,keep:=⟨hk.S,fun i x hx=>(hown i x hx).elim,hk.shape⟩ },?_⟩
 have e:u=v:=by
  unfold qgr at hr
  split at hr
  ·split at hr
   case h_2=>cases hr
   rename_i cs l hl
   cases hr
   obtain ⟨vs2,rfl,q1,q2⟩:=qdh h4
   rw [ZX (f:=ZZ) (fs:=QM) rfl (fun _ _=>rfl) (fun _ _ _ h k=>ZY h k) hl ⟨q1,q2⟩]
  ·exact ZY hr h4
 rw [e]
 exact .sh (qfa hr)
theorem ren_shd {σ:Nat→Nat} {p:PV} (h:p.shd=true):ren σ p=p:=by
 cases p <;> first|rfl|cases h
theorem qjc {σ:Nat→Nat}:∀ {cs:List PV},YW cs→vJ σ cs=cs
 | [],_=>rfl
 | p :: l,h=>by
  rw [vJ,ren_shd (h p (by simp)),qjc (fun q hq=>h q (by simp [hq]))]
theorem qbp {α:Type} (f:α→List PV) (hf:∀ x,(f x).all PV.shd=true) (l:List α):YW (l.flatMap f):=fun p hp=>by
 obtain ⟨x,_,hx⟩:=List.mem_flatMap.1 hp
 exact List.all_eq_true.1 (hf x) p hx
def lf (k:Nat):List (Nat × List PV)→Option (List PV)
 | []=>none
 | x :: F=>match Nat.beq k x.1 with | true=>some x.2 | false=>lf k F
def fixF (F:List (Nat × List PV)) (x:Nat × Option Val):Option Val:=match x.2 with
 | some (.blk T cs)=>match lf x.1 F with | some ds=>some (.blk T ds) | none=>some (.blk T cs)
 | some (.pv p)=>some (.pv p)
 | none=>none
def rvalF (σ:Nat→Nat) (F:List (Nat × List PV)) (x:Nat × Option Val):Option Val:=match x.2 with
 | some (.blk T cs)=>match lf x.1 F with | some ds=>some (.blk T ds) | none=>some (.blk T (vJ σ cs))
 | some (.pv p)=>some (.pv (ren σ p))
 | none=>none
theorem lf_shd {k:Nat} {cs:List PV}:∀ {F:List (Nat × List PV)},(∀ q∈F.map (fun x=>YW x.2),q)→lf k F=some cs→YW cs
 | [],_,h=>by cases h
 | x :: F,hF,h=>by
  simp only [lf] at h
  split at h
  ·cases h
   exact hF _ (by simp)
  ·exact lf_shd (F:=F) (fun q hq=>hF q (by simp only [List.map_cons,List.mem_cons];exact .inr hq)) h
theorem Wk.ren3 {P:Program} {n:Nat} {c0:Cx} {Bor:BorD} {n0:Nat} {l:L} (l':L) (m:Nat) (hc0:∀ i x,c0.own i=some x→i<m) (σl:List Nat) (F:List (Nat × List PV)) (hF:∀ q∈F.map (fun x=>YW x.2),q) (hx:l'.map (fixF F)=l'.map (fun x=>x.2)) (hσ:σl.take m=List.range m) (hnd:wL σl=true) (hb:qca σl.length l'=true)
  (h:l'.map (fun x=>get l (rkey (sgm n0 σl) x.1))=l'.map (rvalF (sgm n0 σl) F)):Wk P n c0 Bor n0 l σl.length l' :=
 Wk.ren2 l' m hc0 σl hσ hnd hb (h.trans (List.map_congr_left fun x hxl=>by
  have h1:=List.map_inj_left.1 hx x hxl
  obtain ⟨k,v⟩:=x
  cases v with
  | none=>rfl
  | some v =>
   cases v with
   | pv p=>rfl
   | blk T cs =>
    simp only [fixF,rvalF,rval] at h1 ⊢
    cases hl:lf k F with
    | none=>rfl
    | some ds =>
     rw [hl] at h1
     simp only [Option.some.injEq,Val.blk.injEq] at h1
     simp only [Option.some.injEq,Val.blk.injEq,true_and]
     rw [← h1.2,qjc (lf_shd hF hl)]))
theorem frz_shd {id:Nat} {cs:List PV} {p:PV} (h:p.shd=true):frz id cs p=p:=by
 cases p <;> first|rfl|cases h
theorem qkn {id:Nat} {cs:List PV}:∀ {ds:List PV},YW ds→WB id cs ds=ds
 | [],_=>rfl
 | p :: l,h=>by
  rw [WB,frz_shd (h p (by simp)),qkn (fun q hq=>h q (by simp [hq]))]
def frzF (id:Nat) (cs:List PV) (F:List (Nat × List PV)):L→L
 | []=>[]
 | (k,x) :: l=>(k,match x with
  | some (.pv p)=>some (.pv (frz id cs p))
  | some (.blk T ds)=>match Nat.beq k (kb id) with | true=>none | false=>match lf k F with | some es=>some (.blk T es) | none=>some (.blk T (WB id cs ds))
  | none=>none) :: frzF id cs F l
theorem frzF_eq {id:Nat} {cs:List PV} {F:List (Nat × List PV)} (hF:∀ q∈F.map (fun x=>YW x.2),q):∀ {l:L},l.map (fixF F)=l.map (fun x=>x.2)→frzS id cs l=frzF id cs F l
 | [],_=>rfl
 | (k,x) :: l,h=>by
  simp only [List.map_cons,List.cons.injEq] at h
  simp only [frzS,frzF,List.cons.injEq,Prod.mk.injEq,true_and]
  refine ⟨?_,frzF_eq hF h.2⟩
  cases x with
  | none=>rfl
  | some v =>
   cases v with
   | pv p=>rfl
   | blk T ds =>
    have h1:=h.1
    simp only [fixF] at h1 ⊢
    cases hl:lf k F with
    | none=>rfl
    | some es =>
     rw [hl] at h1
     simp only [Option.some.injEq,Val.blk.injEq,true_and] at h1
     have hs:=lf_shd hF hl
     subst h1
     cases Nat.beq k (kb id) <;> simp [qkn hs]
theorem Wk.frz2 {P:Program} {n:Nat} {c0:Cx} {Bor:BorD} {n0:Nat} {l l':L} (id:Nat) {T:TypeId} {cs:List PV} (F:List (Nat × List PV)) (hF:∀ q∈F.map (fun x=>YW x.2),q) (hx:l.map (fixF F)=l.map (fun x=>x.2)) (hg:get l (kb id)=some (.blk T cs)) (hs:YW cs) (he:frzF id cs F l=l'):Wk P n c0 Bor n0 l n0 l' :=
 Wk.frz id hg hs ((frzF_eq hF hx).trans he)
theorem Wk.slot {P:Program} {n:Nat} {c0:Cx} {Bor:BorD} {n0:Nat} {l:L} (s:Nat) (p q:PV) (hs:get l (Pm.ks s)=some (.pv p)) (hpq:∀ c v,Rep P c p v→Rep P c q v):Wk P n c0 Bor n0 l n0 ([(ks s,some (.pv q))]++l):=fun cx a hI=>by
 have hge:∀ k,get ([(Pm.ks s,some (.pv q))]++l) k=if Nat.beq k (Pm.ks s) then some (.pv q) else get l k:=fun k=>by
  rw [vY]
  simp only [zF,lk]
  by_cases h1:Nat.beq k (Pm.ks s)=true
  ·simp [h1]
  ·simp only [h1];rfl
 have hb:∀ i,get ([(Pm.ks s,some (.pv q))]++l) (kb i)=get l (kb i):=fun i=>by
  rw [hge,qbu];rfl
 have hl:∀ i,vQ (get ([(Pm.ks s,some (.pv q))]++l)) i→vQ (get l) i:=fun i ⟨T',cs,hx⟩=>⟨T',cs,by rw [← hb];exact hx⟩
 refine ⟨cx,rfl,{ ids:=hI.ids,blk:=fun i T' cs hx=>hI.blk i T' cs (by rw [← hb];exact hx),inj:=fun i j b T T' l1 l2=>hI.inj i j b T T' (hl i l1) (hl j l2),apart:=fun i b T l1=>hI.apart i b T (hl i l1),bnd:=hI.bnd,sok:=hI.sok,os:=hI.os,tape:=hI.tape,output:=hI.output,size:=hI.size,same:=hI.same,laid:=hI.laid,s0:=hI.s0,s1:=hI.s1,keep:=hI.keep,tmps:=hI.tmps,dfr:=hI.dfr,slot:=fun s' p' hp=>?_,isv:=fun s' x hx=>?_ }⟩
 ·rw [hge,YS] at hp
  by_cases e:s'=s
  ·subst e
   rw [decide_eq_true rfl,if_pos rfl] at hp
   cases hp
   exact hpq _ _ (hI.slot s' _ hs)
  ·rw [decide_eq_false e,if_neg (by simp)] at hp
   exact hI.slot s' p' hp
 ·rw [hge,YS] at hx
  by_cases e:s'=s
  ·subst e
   rw [decide_eq_true rfl,if_pos rfl] at hx
   cases hx
   exact ⟨_,rfl⟩
  ·rw [decide_eq_false e,if_neg (by simp)] at hx
   exact hI.isv s' x hx
section
variable {P:Program} {n:Nat} {c0:Cx} {Bor:BorD} {n0:Nat} {l:L}
theorem Wk.nilc (id j:Nat) (T:TypeId) {B:TypeId} {cells:List PV} (hs:get l (kb id)=some (.blk B cells)) (hj:cells[j]? = some (.av (.slice none 0 0))):Wk P n c0 Bor n0 l (n0+1) ([(kb id,some (.blk B (cells.set j (.osl n0 0 0)))),(kb n0,some (.blk T []))]++l):=fun cx a hI=>by
 obtain ⟨hk,hh⟩:=VM hI.toHeap (id:=n0) (fun h=>absurd h (Nat.lt_irrefl _)) T
 obtain ⟨ob0,ho0,_⟩:=hI.blk id B cells hs
 have hid:id<n0:=hI.ids id _ ho0
 have hg:zF [(kb n0,some (.blk T []))] (get l) (kb id)=some (.blk B cells):=by rw [jv,if_neg (by omega)];exact hs
 refine ⟨⟨cx.w,cx.S,yJ cx.own n0 (none,T)⟩,rfl,?_⟩
 have hge:∀ k,get ([(kb id,some (.blk B (cells.set j (.osl n0 0 0)))),(kb n0,some (.blk T []))]++l) k=if Nat.beq k (kb id) then some (.blk B (cells.set j (.osl n0 0 0))) else zF [(kb n0,some (.blk T []))] (get l) k:=fun k=>by
  rw [vY]
  simp only [zF,lk]
  by_cases h1:Nat.beq k (kb id)=true
  ·simp [h1]
  ·simp only [h1];rfl
 have hb:∀ i,get ([(kb id,some (.blk B (cells.set j (.osl n0 0 0)))),(kb n0,some (.blk T []))]++l) (kb i)=if i=id then some (.blk B (cells.set j (.osl n0 0 0))) else zF [(kb n0,some (.blk T []))] (get l) (kb i):=fun i=>by
  rw [hge,VN];by_cases e:i=id <;> simp [e]
 have hsl:∀ s,get ([(kb id,some (.blk B (cells.set j (.osl n0 0 0)))),(kb n0,some (.blk T []))]++l) (Pm.ks s)=get l (Pm.ks s):=fun s=>by
  rw [hge,jy,if_neg (by simp),qal]
 have hl:∀ i,vQ (get ([(kb id,some (.blk B (cells.set j (.osl n0 0 0)))),(kb n0,some (.blk T []))]++l)) i→vQ (zF [(kb n0,some (.blk T []))] (get l)) i:=fun i ⟨T',cs,hx⟩=>by
  rw [hb] at hx
  by_cases e:i=id
  ·subst e;exact ⟨B,cells,hg⟩
  ·rw [if_neg e] at hx;exact ⟨T',cs,hx⟩
 exact { ids:=fun i x hx=>by
           rcases hh.ids i x hx with h|h
           · exact Nat.lt_succ_of_lt h
           · subst h;exact Nat.lt_succ_self _
         blk:=fun i T' cs hx=>by
           rw [hb] at hx
           by_cases e:i=id
           · subst e
             rw [if_pos rfl] at hx
             cases hx
             obtain ⟨ob,h1,h2,h3⟩:=hh.blk i B cells hg
             refine ⟨ob,h1,fun p hp=>?_,?_⟩
             · rcases List.mem_or_eq_of_mem_set hp with h|h
               · exact h2 p h
               · rw [h];rfl
             · rcases h3 with ⟨_,h4⟩|⟨b,arr,h4,h5,h6,h7⟩
               · rw [h4] at hj;simp at hj
               · refine .inr ⟨b,arr,h4,h5,by rw [List.length_set];exact h6,fun q hq=>?_⟩
                 rw [List.length_set] at hq
                 by_cases e:q=j
                 · subst e
                   have h8:=h7 q hq
                   have e2:cells.getD q P0 = .av (.slice none 0 0):=by rw [List.getD_eq_getElem?_getD,hj];rfl
                   rw [e2] at h8
                   rw [show (cells.set q (.osl n0 0 0)).getD q P0 = .osl n0 0 0 from by rw [List.getD_eq_getElem?_getD,List.getElem?_set_self hq];rfl,zE h8]
                   exact .osl yB (.inl ⟨_,rfl,rfl⟩)
                 · rw [show (cells.set j (.osl n0 0 0)).getD q P0=cells.getD q P0 from by rw [List.getD_eq_getElem?_getD,List.getD_eq_getElem?_getD,List.getElem?_set_ne (Ne.symm e)]]
                   exact h7 q hq
           · rw [if_neg e] at hx
             exact hh.blk i T' cs hx
         inj:=fun i j b T T' l1 l2=>hh.inj i j b T T' (hl i l1) (hl j l2),apart:=fun i b T l1=>hh.apart i b T (hl i l1),bnd:=hh.bnd,sok:=hh.sok,
         os:=hh.os,tape:=hh.tape,output:=hh.output,size:=hh.size,same:=hh.same,laid:=hh.laid,s0:=hh.s0,s1:=hh.s1,keep:=hh.keep,tmps:=hI.tmps,dfr:=hI.dfr
         slot:=fun s' p hp=>by
           rw [hsl] at hp
           exact (hI.slot s' p hp).mono hk
         isv:=fun s' x hx=>by
           rw [hsl] at hx
           exact hI.isv s' x hx }
end
def apartK (ws:Nat→List Nat) (rd:Nat→List Nat) (bf:List (List Nat)) (n:Nat):Bool :=
 (List.range n).all fun j=>(List.range j).all fun i=>(bf.getD j []).contains i ||
  (((ws i).all fun k=>!(ws j).contains k && !(rd j).contains k) && (ws j).all fun k=>!(rd i).contains k)
theorem hits_mem {l:L} {k:Nat}:QC l k=true→k∈l.map (·.1):=fun h=>by
 obtain ⟨x,hx,rfl⟩:=WA h
 exact List.mem_map.2 ⟨x,hx,rfl⟩
theorem apart_of {W:Nat→L} {rd:Nat→List Nat} {ws rs:Nat→List Nat} {bf:List (List Nat)} {n:Nat} (hw:∀ i,i<n→∀ x∈W i,x.1∈ws i) (hr:∀ i,i<n→∀ k∈rd i,k∈rs i) (h:apartK ws rs bf n=true):VO W rd bf n=true:=by
 simp only [apartK,VO,List.all_eq_true,List.mem_range,Bool.or_eq_true,Bool.and_eq_true,Bool.not_eq_true'] at h ⊢
 intro j hj i hi
 rcases h j hj i hi with h1|⟨h1,h2⟩
 ·exact .inl h1
 ·refine .inr ⟨fun x hx=>?_,fun x hx=>?_⟩
  ·obtain ⟨h3,h4⟩:=h1 x.1 (hw i (by omega) x hx)
   refine ⟨?_,?_⟩
   ·cases hh:QC (W j) x.1 with
    | false=>rfl
    | true =>
     obtain ⟨y,hy,e⟩:=List.mem_map.1 (hits_mem hh)
     have:=hw j hj y hy
     rw [e] at this
     rw [List.contains_iff_mem.2 this] at h3
     cases h3
   ·cases hh:(rd j).contains x.1 with
    | false=>rfl
    | true =>
     have:=hr j hj x.1 (List.contains_iff_mem.1 hh)
     rw [List.contains_iff_mem.2 this] at h4
     cases h4
  ·have h3:=h2 x.1 (hw j hj x hx)
   cases hh:(rd i).contains x.1 with
   | false=>rfl
   | true =>
    have:=hr i (by omega) x.1 (List.contains_iff_mem.1 hh)
    rw [List.contains_iff_mem.2 this] at h3
    cases h3
def subK (l m:List Nat):Bool:=l.all fun k=>m.contains k
def qkc:List Oper→List Out→List (List Nat × List Nat)→Bool
 | [],[],[]=>true
 | o :: os,x :: xs,k :: ks=>match subK ((wr o.dst x).map (·.1)) k.1,subK x.reads k.2 with
  | true,true=>qkc os xs ks
  | _,_=>false
 | _,_,_=>false
theorem qaq:∀ {os:List Oper} {xs:List Out} {ks:List (List Nat × List Nat)},qkc os xs ks=true→∀ i o x,os[i]? = some o→xs[i]? = some x →
  (∀ y∈wr o.dst x,y.1∈(ks.getD i ([],[])).1)∧∀ k∈x.reads,k∈(ks.getD i ([],[])).2
 | o :: os,x :: xs,k :: ks,h,0,o',x',ho,hx=>by
  simp only [qkc] at h
  split at h
  ·rename_i h1 h2
   simp only [List.getElem?_cons_zero,Option.some.injEq] at ho hx
   subst ho;subst hx
   refine ⟨fun y hy=>?_,fun q hq=>?_⟩
   ·exact List.contains_iff_mem.1 (List.all_eq_true.1 h1 y.1 (List.mem_map.2 ⟨y,hy,rfl⟩))
   ·exact List.contains_iff_mem.1 (List.all_eq_true.1 h2 q hq)
  ·cases h
 | o :: os,x :: xs,k :: ks,h,i+1,o',x',ho,hx=>by
  simp only [qkc] at h
  split at h
  ·exact qaq h i o' x' (by simpa using ho) (by simpa using hx)
  ·cases h
 | [],_,_,_,i,_,_,ho,_=>by simp at ho
 | _ :: _,[],_,_,i,_,_,_,hx=>by simp at hx
def evrK (P:Program) (n:Nat) (ops:List Oper) (n0:Nat) (ans:List (Nat × Ans)) (ks:List (List Nat × List Nat)) (live:List Nat) (l:L):Option (L × List Prop) :=
 match evs P n ops n0 ans ops 0 l with
 | some (l',obs,outs)=>match qkc ops outs ks with
  | true=>some (live.map fun k=>(k,get l' k),obs)
  | false=>none
 | none=>none
def qkt (ops:List Oper) (bf:List (List Nat)) (ks:List (List Nat × List Nat)):Bool:=befB ops bf && apartK (fun i=>(ks.getD i ([],[])).1) (fun i=>(ks.getD i ([],[])).2) bf ops.length
theorem evs_len {P:Program} {n:Nat} {ops:List Oper} {n0:Nat} {ans:List (Nat × Ans)}:∀ {r:List Oper} {i:Nat} {l l':L} {obs:List Prop} {outs:List Out},evs P n ops n0 ans r i l=some (l',obs,outs)→outs.length=r.length
 | [],i,l,l',obs,outs,h=>by
  simp only [evs,Option.some.injEq,Prod.mk.injEq] at h
  obtain ⟨_,_,rfl⟩:=h
  rfl
 | o :: r,i,l,l',obs,outs,h=>by
  simp only [evs] at h
  split at h
  case h_2=>cases h
  split at h
  case h_2=>cases h
  rename_i l1 obs1 outs1 he
  simp only [Option.some.injEq,Prod.mk.injEq] at h
  obtain ⟨_,_,rfl⟩:=h
  simp [evs_len he]
theorem regionK_ok {E:Env} {n0:Nat} {l l':L} {id:Nat} {ops:Array Oper} {ans:List (Nat × Ans)} {bf:List (List Nat)} {ks:List (List Nat × List Nat)} {live:List Nat} {obs:List Prop} (hm:E.P.follows .mixedOrders=true) (h:evrK E.P E.n ops.toList n0 ans ks live l=some (l',obs)) (hd:qkt ops.toList bf ks=true) (hob:∀ p∈obs,p)
  {Q:Exit→Act→World→Prop} (hQ:∀ c a,Inv E (· < n0+8*ops.size) c (get l') a→Q .normal a c.w) {c:Cx} {a:Act} (hI:Inv E (· < n0) c (get l) a):(Code.region id ops true).wp E.P Q a c.w:=by
 unfold evrK at h
 split at h
 case h_2=>cases h
 rename_i l1 obs1 outs he
 split at h
 case h_2=>cases h
 rename_i hk
 simp only [Option.some.injEq,Prod.mk.injEq] at h
 obtain ⟨rfl,rfl⟩:=h
 simp only [qkt,Bool.and_eq_true] at hd
 have hl:=evs_len he
 have hap:VO (Wt ops.toList.toArray fun i=>outs.getD i jw) (fun i=>(outs.getD i jw).reads) bf ops.toList.length=true:=by
  refine apart_of (fun i hi x hx=>?_) (fun i hi k hk'=>?_) hd.2
  ·have h1:ops.toList[i]? = some ops.toList[i]:=by simp only [List.getElem?_eq_getElem hi]
   have h2:outs[i]? = some (outs.getD i jw):=by rw [List.getD_eq_getElem?_getD,List.getElem?_eq_getElem (by omega)];rfl
   refine (qaq hk i _ _ h1 h2).1 x ?_
   have:Wt ops.toList.toArray (fun i=>outs.getD i jw) i=wr ops.toList[i].dst (outs.getD i jw):=by
    unfold Wt
    rw [List.getElem?_toArray,h1]
    rfl
   rw [this] at hx
   exact hx
  ·have h1:ops.toList[i]? = some ops.toList[i]:=by simp only [List.getElem?_eq_getElem hi]
   have h2:outs[i]? = some (outs.getD i jw):=by rw [List.getD_eq_getElem?_getD,List.getElem?_eq_getElem (by omega)];rfl
   exact (qaq hk i _ _ h1 h2).2 k hk'
 obtain ⟨h1,h2,h3⟩:=qfb (g0:=get l) (tab:=fun i=>outs.getD i jw) he (by simp) (fun j _=>by simp) (by
  funext k
  have:∀ m,yZ (get l) (Wt ops.toList.toArray fun i=>outs.getD i jw) (fun j=>decide (j<0)) m=get l:=fun m=>by
   induction m with
   | zero=>rfl
   | succ m ih=>simp only [yZ,Nat.not_lt_zero,decide_false,Bool.false_eq_true,if_false];exact ih
  rw [this])
 have hops:ops.toList.toArray=ops:=by simp
 have hlen:ops.toList.length=ops.size:=by simp
 have hstep:∀ i o,ops.toList[i]? = some o→∀ g,(∀ k∈(outs.getD i jw).reads,g k=yZ (get l) (Wt ops.toList.toArray fun i=>outs.getD i jw) (fun j=>decide (j<i)) ops.toList.length k)→WJ E ops.toList.toArray i o (outs.getD i jw) (n0+8*i) g:=by
  intro i o ho g hg
  obtain ⟨h4,h5,h6⟩:=h3 i o (Nat.zero_le _) ho
  exact qew ho h6 (ZK h4 hg) fun p hp=>hob p (h5 p hp)
 have hfin:∀ {c:Cx} {a:Act},Inv E (fun id=>id<n0+8*ops.toList.length) c (yZ (get l) (Wt ops.toList.toArray fun i=>outs.getD i jw) (fun _=>true) ops.toList.length) a→Q .normal a c.w:=by
  intro c a h
  rw [← h2,hlen] at h
  exact hQ c a (h.less fun k v hk=>qez k v hk)
 have hs:=any_ops (E:=E) (l:=ops.toList) (g0:=get l) (tab:=fun i=>outs.getD i jw) (n0:=n0) hd.1 hap hstep (Q:=Q) (fun c a h=>hfin h)
   ops.toList.length (Array.replicate ops.toList.length false) ⟨{ c.w with drawn:=c.w.drawn+1 },c.S,c.own⟩ a (by simp) (by
    rw [ZU (g:=fun _=>false) fun i _=>wI _ _]
    exact VK _) (fun j o _ hj=>by
    have hj':(Array.replicate ops.toList.length false).getD j false=true:=hj
    rw [wI] at hj'
    cases hj') (by
    have h0:yZ (get l) (Wt ops.toList.toArray fun i=>outs.getD i jw) (fun j=>(Array.replicate ops.toList.length false).getD j false) ops.toList.length=get l:=by
     have e:(fun j=>(Array.replicate ops.toList.length false).getD j false)=fun _=>false:=funext fun j=>wI _ j
     rw [e]
     have:∀ m,yZ (get l) (Wt ops.toList.toArray fun i=>outs.getD i jw) (fun _=>false) m=get l:=fun m=>by
      induction m with
      | zero=>rfl
      | succ m ih=>simp only [yZ,Bool.false_eq_true,if_false];exact ih
     exact this _
    rw [h0]
    exact (hI.drawn _).more fun i hi=>.inl hi)
 rw [hops] at hs
 refine wp_region_any hm ?_
 rw [hlen] at hs
 exact hs
theorem T_regionD {P:Program} {n:Nat} {c0:Cx} {Bor:BorD} {Q:VY} {n0:Nat} {l:L} {rs:List Item} {id:Nat} {ops:Array Oper} (ans:List (Nat × Ans)) (bf:List (List Nat)) (ks:List (List Nat × List Nat)) (live:List Nat) {l':L} {obs:List Prop} (hm:P.follows .mixedOrders=true) (h:evrK P n ops.toList n0 ans ks live l=some (l',obs)) (hd:qkt ops.toList bf ks=true) (hob:∀ p∈obs,p)
  (hT:T P n c0 Bor Q (n0+8*ops.size) l' rs):T P n c0 Bor Q n0 l (.code (.region id ops true) :: rs):=fun _ _ hI =>
 regionK_ok (E:=⟨P,n,c0,Bor⟩) hm h hd hob (fun c a h=>⟨c,rfl,hT c a h⟩) hI
abbrev nv (n:Nat):PV:=iv (n:Int)
abbrev fv (n:FuncId):PV:=.av (.func (.func n) #[] #[])
section
variable {P:Program} {n:Nat} {c0:Cx} {Bor:BorD} {Q:VY} {n0:Nat} {l:L} {rs:List Item}
theorem zD (hm:P.follows .mixedOrders=true) {id:Nat} {ops:Array Oper} {draw:Bool} (ans:List (Nat × Ans)) (l':L) {obs:List Prop} (hob:∀ p∈obs,p) (hT:T P n c0 Bor Q (n0+8*ops.size) l' rs)
  (h:evr P n ops.toList n0 ans draw (l'.map (·.1)) l=some (l',obs):=by kernel_rfl):T P n c0 Bor Q n0 l (.code (.region id ops draw) :: rs) :=
 T_region ans _ (fun _=>hm) h hob hT
theorem VA (hm:P.follows .mixedOrders=true) {id:Nat} {ops:Array Oper} (ans:List (Nat × Ans)) (bf:List (List Nat)) (ks:List (List Nat × List Nat)) (l':L) {obs:List Prop} (hob:∀ p∈obs,p) (hT:T P n c0 Bor Q (n0+8*ops.size) l' rs)
  (h:evrK P n ops.toList n0 ans ks (l'.map (·.1)) l=some (l',obs):=by kernel_rfl) (hd:qkt ops.toList bf ks=true:=by kernel_rfl):T P n c0 Bor Q n0 l (.code (.region id ops true) :: rs) :=
 T_regionD ans bf ks _ hm h hd hob hT
theorem qS {t:Nat} {x y:Code} {b:Bool} (hv:b=true) (h:T P n c0 Bor Q n0 l (.code x :: rs)) (hb:get l (ks t)=some (.pv (.av (.bool b))):=by rfl):T P n c0 Bor Q n0 l (.code (.cond (.tmp t) x y) :: rs):=qL hb hv h
theorem qR {t:Nat} {x y:Code} {b:Bool} (hv:b=false) (h:T P n c0 Bor Q n0 l (.code y :: rs)) (hb:get l (ks t)=some (.pv (.av (.bool b))):=by rfl):T P n c0 Bor Q n0 l (.code (.cond (.tmp t) x y) :: rs):=qO hb hv h
theorem rt {m:Nat} {fn:Func} {r:PV} {H':Hp} (hc0:∀ i x,c0.own i=some x→i<m) (l':L) (σl:List Nat) {cx:Cx} {a:Act} (hI:Inv ⟨P,n,c0,Bor⟩ (· < n0) cx (get l) a)
  (hσ:σl.take m=List.range m:=by rfl) (hnd:wL σl=true:=by rfl) (hb:qca σl.length l'=true:=by kernel_rfl)
  (h:l'.map (fun x=>get l (rkey (sgm n0 σl) x.1))=l'.map (fun x=>rval (sgm n0 σl) x.2):=by kernel_rfl) (hn:σl.length=H'.length:=by rfl)
  (hr:runv (get l') (resP P fn.results.toList fun ps=>.done (qgc ps) [])=some (r,[]):=by kernel_rfl) (hbk:∀ p∈qdd l' 0 H',p:=by exact oz):retQ P fn c0 Bor r H' .ret cx a :=
 jz (.inr rfl) (Wk.ren2 l' m hc0 σl hσ hnd hb h) hn hbk (fun cx a hI=>wN hr cx a hI) hI
abbrev Ren0 (k:Nat) (a:List PV):Prop:=a=vJ (yq [] k) a
end
theorem bt {p:Prop} [Decidable p] (h:p):(!decide p)=false:=by rw [decide_eq_true h];rfl
theorem bf {p:Prop} [Decidable p] (h:¬ p):(!decide p)=true:=by rw [decide_eq_false h];rfl
section
variable {P:Program} {n:Nat} {c0:Cx} {Bor:BorD} {Q:VY} {n0:Nat} {l:L} {rs:List Item}
theorem qT {p:Prop} [Decidable p] (h:p):decide p=true:=decide_eq_true h
theorem qV {p:Prop} [Decidable p] (h:¬ p):decide p=false:=decide_eq_false h
/-! ### a state told by what changes -/
inductive Mk where
 | k1 | k2 | k3 | k4 | k5 | k6 | k7 | k8 | d | n | r
structure Kl (l:L):Type where
structure Kc (m:List Mk) (ch:L):Type where
instance kpe:HXor (Kl []) (Kc [] []) (Kl []):=⟨fun _ _=>⟨⟩⟩
instance kpr (l:L):HXor (Kl l) (Kc [.r] []) (Kl l):=⟨fun _ _=>⟨⟩⟩
instance kpn (l:L) (m:List Mk) (ch l':L) (c:Nat × Option Val) [HXor (Kl l) (Kc m ch) (Kl l')]:HXor (Kl l) (Kc (.n :: m) (c :: ch)) (Kl (c :: l')):=⟨fun _ _=>⟨⟩⟩
instance kpd (l:L) (m:List Mk) (ch l':L) (a:Nat × Option Val) [HXor (Kl l) (Kc m ch) (Kl l')]:HXor (Kl (a :: l)) (Kc (.d :: m) ch) (Kl l'):=⟨fun _ _=>⟨⟩⟩
instance kp1 (l:L) (m:List Mk) (ch l':L) (a0:Nat × Option Val) [HXor (Kl l) (Kc m ch) (Kl l')]:HXor (Kl (a0 :: l)) (Kc (.k1 :: m) ch) (Kl (a0 :: l')):=⟨fun _ _=>⟨⟩⟩
instance kp2 (l:L) (m:List Mk) (ch l':L) (a0 a1:Nat × Option Val) [HXor (Kl l) (Kc m ch) (Kl l')]:HXor (Kl (a0 :: a1 :: l)) (Kc (.k2 :: m) ch) (Kl (a0 :: a1 :: l')):=⟨fun _ _=>⟨⟩⟩
instance kp3 (l:L) (m:List Mk) (ch l':L) (a0 a1 a2:Nat × Option Val) [HXor (Kl l) (Kc m ch) (Kl l')]:HXor (Kl (a0 :: a1 :: a2 :: l)) (Kc (.k3 :: m) ch) (Kl (a0 :: a1 :: a2 :: l')):=⟨fun _ _=>⟨⟩⟩
instance kp4 (l:L) (m:List Mk) (ch l':L) (a0 a1 a2 a3:Nat × Option Val) [HXor (Kl l) (Kc m ch) (Kl l')]:HXor (Kl (a0 :: a1 :: a2 :: a3 :: l)) (Kc (.k4 :: m) ch) (Kl (a0 :: a1 :: a2 :: a3 :: l')):=⟨fun _ _=>⟨⟩⟩
instance kp5 (l:L) (m:List Mk) (ch l':L) (a0 a1 a2 a3 a4:Nat × Option Val) [HXor (Kl l) (Kc m ch) (Kl l')]:HXor (Kl (a0 :: a1 :: a2 :: a3 :: a4 :: l)) (Kc (.k5 :: m) ch) (Kl (a0 :: a1 :: a2 :: a3 :: a4 :: l')):=⟨fun _ _=>⟨⟩⟩
instance kp6 (l:L) (m:List Mk) (ch l':L) (a0 a1 a2 a3 a4 a5:Nat × Option Val) [HXor (Kl l) (Kc m ch) (Kl l')]:HXor (Kl (a0 :: a1 :: a2 :: a3 :: a4 :: a5 :: l)) (Kc (.k6 :: m) ch) (Kl (a0 :: a1 :: a2 :: a3 :: a4 :: a5 :: l')):=⟨fun _ _=>⟨⟩⟩
instance kp7 (l:L) (m:List Mk) (ch l':L) (a0 a1 a2 a3 a4 a5 a6:Nat × Option Val) [HXor (Kl l) (Kc m ch) (Kl l')]:HXor (Kl (a0 :: a1 :: a2 :: a3 :: a4 :: a5 :: a6 :: l)) (Kc (.k7 :: m) ch) (Kl (a0 :: a1 :: a2 :: a3 :: a4 :: a5 :: a6 :: l')):=⟨fun _ _=>⟨⟩⟩
instance kp8 (l:L) (m:List Mk) (ch l':L) (a0 a1 a2 a3 a4 a5 a6 a7:Nat × Option Val) [HXor (Kl l) (Kc m ch) (Kl l')]:HXor (Kl (a0 :: a1 :: a2 :: a3 :: a4 :: a5 :: a6 :: a7 :: l)) (Kc (.k8 :: m) ch) (Kl (a0 :: a1 :: a2 :: a3 :: a4 :: a5 :: a6 :: a7 :: l')):=⟨fun _ _=>⟨⟩⟩
theorem qQ (hm:P.follows .mixedOrders=true) {id:Nat} {ops:Array Oper} {draw:Bool} (ans:List (Nat × Ans)) (m:List Mk) (ch:L) {l':L} [HXor (Kl l) (Kc m ch) (Kl l')] {obs:List Prop} (hob:∀ p∈obs,p) (hT:T P n c0 Bor Q (n0+8*ops.size) l' rs)
  (h:evr P n ops.toList n0 ans draw (l'.map (·.1)) l=some (l',obs):=by kernel_rfl):T P n c0 Bor Q n0 l (.code (.region id ops draw) :: rs) :=
 zD hm ans l' hob hT h
theorem wC (hm:P.follows .mixedOrders=true) {id:Nat} {ops:Array Oper} (ans:List (Nat × Ans)) (bf:List (List Nat)) (ks:List (List Nat × List Nat)) (m:List Mk) (ch:L) {l':L} [HXor (Kl l) (Kc m ch) (Kl l')] {obs:List Prop} (hob:∀ p∈obs,p) (hT:T P n c0 Bor Q (n0+8*ops.size) l' rs)
  (h:evrK P n ops.toList n0 ans ks (l'.map (·.1)) l=some (l',obs):=by kernel_rfl) (hd:qkt ops.toList bf ks=true:=by kernel_rfl):T P n c0 Bor Q n0 l (.code (.region id ops true) :: rs) :=
 VA hm ans bf ks l' hob hT h hd
/-! ### what several branches come to -/
end
theorem ik {n:Int} (h : -9223372036854775808≤n∧n≤9223372036854775807):InK .i64 n:=by simp only [InK];omega
def VB (l:List (Nat × Nat)):List (List Nat):=l.map fun x=>List.range' x.1 x.2
abbrev TX:=List UInt8
theorem tt:true=true:=rfl
theorem ff:false=false:=rfl
theorem oi (n:Int) {l:List Prop} (h : -9223372036854775808≤n∧n≤9223372036854775807) (k:∀ q∈l,q):∀ q∈InK .i64 n :: l,q:=oc (ik h) k
def bfm (l:List (List (Nat × Nat))):List (List Nat):=l.map fun x=>x.flatMap fun y=>List.range' y.1 y.2
def gy (a n:Nat):List (Nat × Ans):=(List.range' a n).map fun i=>(i,.gd true .no)
def gn (a n:Nat):List (Nat × Ans):=(List.range' a n).map fun i=>(i,.gd false .no)
theorem on {p:Prop} {l:List Prop} (n:Nat) (h:p) (k:∀ q∈l,q):∀ q∈List.replicate n p++l,q:=fun q hq=>by
 rcases List.mem_append.1 hq with hq|hq
 ·rw [(List.mem_replicate.1 hq).2];exact h
 ·exact k q hq
abbrev sn:PV:=.av (.slice none 0 0)
abbrev rsA (i:List Nat) (n:Nat) (A:List PV):Prop:=vJ (yq i n) A=vJ (yq i n) A
theorem zO {P:Program} {f:FuncId} {A:List PV} {r:PV} {H':Hp} {l:List Prop} (n:Nat) (h:PC P f A [] r H') (k:∀ q∈l,q):∀ q∈PC P f A [] r H' :: rsA [] n A :: l,q:=oc h (oc rfl k)
theorem zY {P:Program} {f:FuncId} {A cs:List PV} {T:TypeId} {r:PV} {H':Hp} {l:List Prop} (i:List Nat) (n:Nat) (h:PC P f A [some (T,cs)] r H') (k:∀ q∈l,q):∀ q∈PC P f A [some (T,cs)] r H' :: rsA i n A :: rsA i n cs :: l,q:=oc h (oc rfl (oc rfl k))
def invS (σ:List Nat) (i:Nat):Nat:=σ.idxOf i
def cutS (σ ss:List Nat) (l:L):L:=ss.map (fun r=>(ks r,rval (invS σ) (get l (ks r))))++(List.range σ.length).map fun j=>(kb j,rval (invS σ) (get l (kb (σ.getD j 0))))
section
variable {P:Program} {n:Nat} {c0:Cx} {Bor:BorD} {Q:VY} {n0:Nat} {l:L} {rs:List Item}
theorem qH (hm:P.follows .mixedOrders=true) {id:Nat} {ops:Array Oper} {draw:Bool} (m:List Mk) (ch:L) {l':L} [HXor (Kl l) (Kc m ch) (Kl l')] (hT:T P n c0 Bor Q (n0+8*ops.size) l' rs)
  (h:evr P n ops.toList n0 [] draw (l'.map (·.1)) l=some (l',[]):=by kernel_rfl):T P n c0 Bor Q n0 l (.code (.region id ops draw) :: rs):=zD hm [] l' oz hT h
theorem qk {m:Nat} {fn:Func} {r:PV} {H':Hp} (hc0:∀ i x,c0.own i=some x→i<m) (ss σl:List Nat)
  (hσ:σl.take m=List.range m:=by rfl) (hnd:wL σl=true:=by rfl) (hb:qca σl.length (cutS σl ss l)=true:=by kernel_rfl)
  (h:(cutS σl ss l).map (fun x=>get l (rkey (sgm n0 σl) x.1))=(cutS σl ss l).map (fun x=>rval (sgm n0 σl) x.2):=by kernel_rfl) (hn:σl.length=H'.length:=by rfl)
  (hr:runv (get (cutS σl ss l)) (resP P fn.results.toList fun ps=>.done (qgc ps) [])=some (r,[]):=by kernel_rfl) (hbk:∀ p∈qdd (cutS σl ss l) 0 H',p:=by exact oz):T P n c0 Bor (retQ P fn c0 Bor r H') n0 l (.code .ret :: rs) :=
 yk fun _ _ hI=>rt hc0 (cutS σl ss l) σl hI hσ hnd hb h hn hr hbk
theorem yC (hm:P.follows .mixedOrders=true) {id:Nat} {ops:Array Oper} {draw:Bool} (pos:Nat) (m:List Mk) (ch:L) {l':L} [HXor (Kl l) (Kc m ch) (Kl l')] {f:FuncId} {A:List PV} {r:PV} {H':Hp} {k:Nat} {obs:List Prop} (hob:∀ p∈PC P f A [] r H' :: rsA [] k A :: obs,p) (hT:T P n c0 Bor Q (n0+8*ops.size) l' rs)
  (h:evr P n ops.toList n0 [(pos,.call [] A [] r H')] draw (l'.map (·.1)) l=some (l',PC P f A [] r H' :: rsA [] k A :: obs):=by kernel_rfl):T P n c0 Bor Q n0 l (.code (.region id ops draw) :: rs):=zD hm _ l' hob hT h
theorem zC (hm:P.follows .mixedOrders=true) {id:Nat} {ops:Array Oper} {draw:Bool} (pos:Nat) (m:List Mk) (ch:L) {l':L} [HXor (Kl l) (Kc m ch) (Kl l')] {f:FuncId} {A cs:List PV} {T':TypeId} {r:PV} {H':Hp} {i:List Nat} {k:Nat} {obs:List Prop} (hob:∀ p∈PC P f A [some (T',cs)] r H' :: rsA i k A :: rsA i k cs :: obs,p) (hT:T P n c0 Bor Q (n0+8*ops.size) l' rs)
  (h:evr P n ops.toList n0 [(pos,.call i A [some (T',cs)] r H')] draw (l'.map (·.1)) l=some (l',PC P f A [some (T',cs)] r H' :: rsA i k A :: rsA i k cs :: obs):=by kernel_rfl):T P n c0 Bor Q n0 l (.code (.region id ops draw) :: rs):=zD hm _ l' hob hT h
theorem T_r0 (hm:P.follows .mixedOrders=true) {id:Nat} {ops:Array Oper} {draw:Bool} (pos:Nat) (l':L) {f:FuncId} {A:List PV} {r:PV} {H':Hp} {k:Nat} {obs:List Prop} (hob:∀ p∈PC P f A [] r H' :: rsA [] k A :: obs,p) (hT:T P n c0 Bor Q (n0+8*ops.size) l' rs)
  (h:evr P n ops.toList n0 [(pos,.call [] A [] r H')] draw (l'.map (·.1)) l=some (l',PC P f A [] r H' :: rsA [] k A :: obs):=by kernel_rfl):T P n c0 Bor Q n0 l (.code (.region id ops draw) :: rs):=zD hm _ l' hob hT h
theorem QB (hm:P.follows .mixedOrders=true) {id:Nat} {ops:Array Oper} {draw:Bool} (pos:Nat) (l':L) {f:FuncId} {A cs:List PV} {T':TypeId} {r:PV} {H':Hp} {i:List Nat} {k:Nat} {obs:List Prop} (hob:∀ p∈PC P f A [some (T',cs)] r H' :: rsA i k A :: rsA i k cs :: obs,p) (hT:T P n c0 Bor Q (n0+8*ops.size) l' rs)
  (h:evr P n ops.toList n0 [(pos,.call i A [some (T',cs)] r H')] draw (l'.map (·.1)) l=some (l',PC P f A [some (T',cs)] r H' :: rsA i k A :: rsA i k cs :: obs):=by kernel_rfl):T P n c0 Bor Q n0 l (.code (.region id ops draw) :: rs):=zD hm _ l' hob hT h
end
abbrev st (l:List UInt8):ByteArray:=⟨l.toArray⟩
theorem qy (a b:List UInt8):st a++st b=st (a++b):=by
 apply ByteArray.ext
 rw [ByteArray.data_append]
 simp
theorem qbz (l:List UInt8):(st l).toList=l:=by
 rw [ByteArray.toList_eq]
theorem qv (a b:List UInt8):((st a).toList == (st b).toList)=decide (a=b):=by
 rw [qbz,qbz]
 rw [Bool.eq_iff_iff];simp
theorem yW (a b:List UInt8):(!((st a).toList == (st b).toList)) = !decide (a=b):=by rw [qv]
theorem ZP (l:List UInt8) (i j:Nat):(st l).extract i j=st ((l.drop i).take (j-i)):=by
 apply ByteArray.ext
 rw [ByteArray.data_extract]
 apply Array.ext'
 simp
theorem ww (l:List UInt8) (i:Nat) (j:Nat) (hj:j=l.length):(st l).extract i j=st (l.drop i):=by
 rw [ZP,List.take_of_length_le (by simp;omega)]
theorem st_upto (l:List UInt8) (j:Nat):(st l).extract 0 j=st (l.take j):=by
 rw [ZP,List.drop_zero,Nat.sub_zero]
abbrev r3 (s:List UInt8) (x:Nat) (k:Int):List PV:=[sv (st s),nv x,iv k]
abbrev vB (s:List UInt8) (x k:Nat):List PV:=[sv (st s),nv x,nv k]
abbrev r5 (s:List UInt8) (x:Nat) (e f k:Int):List PV:=[sv (st s),nv x,iv e,iv f,iv k]
abbrev vN (s:List UInt8) (x:Nat) (e f:Int) (k:Nat):List PV:=[sv (st s),nv x,iv e,iv f,nv k]
abbrev yz (s:List UInt8) (x:Nat) (e:Int) (f:Nat) (k:Int):List PV:=[sv (st s),nv x,iv e,nv f,iv k]
abbrev jV (s:List UInt8) (x:Nat) (e:Int) (f k:Nat):List PV:=[sv (st s),nv x,iv e,nv f,nv k]
abbrev se:PV:=sv (st [])
end Go.Proofs.YtmlnilkbolcknaaGreatDoor.Pm
namespace Go.Proofs.YtmlnilkbolcknaaGreatDoor.Pi
def nat7 (l:Int):Int:=if l=0 then 0 else if l=1 then 2 else if l=2 then 4 else if l=3 then 5 else if l=4 then 7 else if l=5 then 9 else 11
theorem nat7_range (l:Int):0≤nat7 l∧nat7 l≤11:=by unfold nat7;omega
def rightB (l a o:Int):Bool:=decide (0≤l∧l≤6 ∧ -3≤a∧a≤3 ∧ -12≤o∧o≤12)
theorem rightB_iff {l a o:Int}:rightB l a o=true↔0≤l∧l≤6 ∧ -3≤a∧a≤3 ∧ -12≤o∧o≤12:=by simp [rightB]
def withinB (s h:Int):Bool:=decide (-200≤s∧s≤200 ∧ -4096≤h∧h≤4096)
theorem withinB_iff {s h:Int}:withinB s h=true ↔ -200≤s∧s≤200 ∧ -4096≤h∧h≤4096:=by simp [withinB]
def qit (l o:Int):Int:=7*o+l
def qev (l a o:Int):Int:=12*o+nat7 l+a
def key (l a o:Int):Int × Int:=if rightB l a o then (qev l a o+12,0) else (0,2)
def at_ (s h:Int):Int × Int × Int × Int :=
 if rightB (s % 7) (h-(12*(s / 7)+nat7 (s % 7))) (s / 7) then (s % 7,h-(12*(s / 7)+nat7 (s % 7)),s / 7,0) else (0,0,0,3)
def move (l a o s h:Int):Int × Int × Int × Int :=
 if rightB l a o then (if withinB s h then at_ (qit l o+s) (qev l a o+h) else (0,0,0,3)) else (0,0,0,2)
def sum (s h s' h':Int):Int × Int × Int :=
 if withinB s h && withinB s' h' && withinB (s+s') (h+h') then (s+s',h+h',0) else (0,0,3)
theorem one {l a o l' a' o':Int} (h1:rightB l a o=true) (h2:rightB l' a' o'=true) (hs:qit l o=qit l' o') (hh:qev l a o=qev l' a' o'):l=l'∧a=a'∧o=o':=by
 have:=rightB_iff.1 h1
 have:=rightB_iff.1 h2
 unfold qit at hs
 unfold qev at hh
 have e1:o=o':=by omega
 have e2:l=l':=by omega
 subst e1 e2
 omega

/-! TWICE MIRRORED -/
/-! INTERVALS MOVE PITCHES -/
def white (t:Int):Int:=12*(t / 7)+nat7 (t % 7)
def up (l:Int):Int:=if l=2∨l=6 then 1 else 2
theorem qil (l:Int):1≤up l∧up l≤2:=by unfold up;split <;> omega
theorem qdr (t:Int):white (t+1)=white t+up (t % 7):=by
 have h:t % 7=0∨t % 7=1∨t % 7=2∨t % 7=3∨t % 7=4∨t % 7=5∨t % 7=6:=by omega
 unfold white
 rcases h with h|h|h|h|h|h|h
 ·rw [show (t+1) % 7=1 by omega,show (t+1) / 7=t / 7 by omega,h];(have e0:nat7 0=0:=rfl);(have e1:nat7 1=2:=rfl);(have e2:nat7 2=4:=rfl);(have e3:nat7 3=5:=rfl);(have e4:nat7 4=7:=rfl);(have e5:nat7 5=9:=rfl);(have e6:nat7 6=11:=rfl);(have u:up 0=2∧up 1=2∧up 2=1∧up 3=2∧up 4=2∧up 5=2∧up 6=1:=by decide);omega
 ·rw [show (t+1) % 7=2 by omega,show (t+1) / 7=t / 7 by omega,h];(have e0:nat7 0=0:=rfl);(have e1:nat7 1=2:=rfl);(have e2:nat7 2=4:=rfl);(have e3:nat7 3=5:=rfl);(have e4:nat7 4=7:=rfl);(have e5:nat7 5=9:=rfl);(have e6:nat7 6=11:=rfl);(have u:up 0=2∧up 1=2∧up 2=1∧up 3=2∧up 4=2∧up 5=2∧up 6=1:=by decide);omega
 ·rw [show (t+1) % 7=3 by omega,show (t+1) / 7=t / 7 by omega,h];(have e0:nat7 0=0:=rfl);(have e1:nat7 1=2:=rfl);(have e2:nat7 2=4:=rfl);(have e3:nat7 3=5:=rfl);(have e4:nat7 4=7:=rfl);(have e5:nat7 5=9:=rfl);(have e6:nat7 6=11:=rfl);(have u:up 0=2∧up 1=2∧up 2=1∧up 3=2∧up 4=2∧up 5=2∧up 6=1:=by decide);omega
 ·rw [show (t+1) % 7=4 by omega,show (t+1) / 7=t / 7 by omega,h];(have e0:nat7 0=0:=rfl);(have e1:nat7 1=2:=rfl);(have e2:nat7 2=4:=rfl);(have e3:nat7 3=5:=rfl);(have e4:nat7 4=7:=rfl);(have e5:nat7 5=9:=rfl);(have e6:nat7 6=11:=rfl);(have u:up 0=2∧up 1=2∧up 2=1∧up 3=2∧up 4=2∧up 5=2∧up 6=1:=by decide);omega
 ·rw [show (t+1) % 7=5 by omega,show (t+1) / 7=t / 7 by omega,h];(have e0:nat7 0=0:=rfl);(have e1:nat7 1=2:=rfl);(have e2:nat7 2=4:=rfl);(have e3:nat7 3=5:=rfl);(have e4:nat7 4=7:=rfl);(have e5:nat7 5=9:=rfl);(have e6:nat7 6=11:=rfl);(have u:up 0=2∧up 1=2∧up 2=1∧up 3=2∧up 4=2∧up 5=2∧up 6=1:=by decide);omega
 ·rw [show (t+1) % 7=6 by omega,show (t+1) / 7=t / 7 by omega,h];(have e0:nat7 0=0:=rfl);(have e1:nat7 1=2:=rfl);(have e2:nat7 2=4:=rfl);(have e3:nat7 3=5:=rfl);(have e4:nat7 4=7:=rfl);(have e5:nat7 5=9:=rfl);(have e6:nat7 6=11:=rfl);(have u:up 0=2∧up 1=2∧up 2=1∧up 3=2∧up 4=2∧up 5=2∧up 6=1:=by decide);omega
 ·rw [show (t+1) % 7=0 by omega,show (t+1) / 7=t / 7+1 by omega,h];(have e0:nat7 0=0:=rfl);(have e1:nat7 1=2:=rfl);(have e2:nat7 2=4:=rfl);(have e3:nat7 3=5:=rfl);(have e4:nat7 4=7:=rfl);(have e5:nat7 5=9:=rfl);(have e6:nat7 6=11:=rfl);(have u:up 0=2∧up 1=2∧up 2=1∧up 3=2∧up 4=2∧up 5=2∧up 6=1:=by decide);omega
theorem white_pred (t:Int):white (t-1)=white t-up ((t-1) % 7):=by
 have h:=qdr (t-1)
 rw [show t-1+1=t by omega] at h
 omega
theorem white_bd (t:Int) (h : -1000≤t∧t≤1000) : -2000≤white t∧white t≤2000:=by
 have:=nat7_range (t % 7)
 unfold white
 omega
end Go.Proofs.YtmlnilkbolcknaaGreatDoor.Pi
namespace Go.Proofs.YtmlnilkbolcknaaGreatDoor.Pm
open Go Go.Proofs.YtmlnilkbolcknaaGreatDoor.Pi
def letB:List UInt8:=[67,68,69,70,71,65,66]
def zZ (r:Int):Int × Bool :=
 if r=9839∨r=35 then (1,true) else if r=119082∨r=120 then (2,true) else if r=9837∨r=98 then (-1,true) else if r=119083 then (-2,true) else (0,false)
def digs:List UInt8:=[48,49,50,51,52,53,54,55,56,57]
def yG (t:List UInt8):Int:=(Lib.atoi t).getD 0
def body (s:List UInt8):List UInt8:=if Lib.hasPrefix s [45]=true then s.drop 1 else s
def Zy (m:Bool) (t:List UInt8):Prop:=t=[]∨4<t.length∨((t.getD 0 0).toNat=48∧(1<t.length∨m=true))∨Lib.trimS t digs≠[]
instance (m:Bool) (t:List UInt8):Decidable (Zy m t):=by unfold Zy;infer_instance
def qI (s:List UInt8):Int × Bool :=
 if Zy (Lib.hasPrefix s [45]) (body s) then (0,false) else (if Lib.hasPrefix s [45]=true then 0-yG (body s) else yG (body s),true)
def zU (l:List UInt8):Nat:=(Lib.decodeGo (st l)).1
def zj (l:List UInt8):Nat:=(Lib.decodeGo (st l)).2
def vK (l:List UInt8) (a:Int) (n:Nat):Bool × Int × Nat :=
 if _h:(zZ (zU l)).2=true∧1≤zj l∧1≤l.length then
  if (a+(zZ (zU l)).1)*(zZ (zU l)).1<0∨3<max (a+(zZ (zU l)).1) (0-(a+(zZ (zU l)).1)) then (false,a+(zZ (zU l)).1,n)
  else vK (l.drop (zj l)) (a+(zZ (zU l)).1) (n+zj l)
 else (true,a,n)
termination_by l.length
decreasing_by rw [List.length_drop];omega
def vL (s:List UInt8):Bool × Int × Nat:=if Lib.hasPrefix (s.drop 1) [226,153,174]=true then (true,0,4) else vK (s.drop 1) 0 1
def qW (s:List UInt8):(Int × Int × Int) × Int × Int :=
 if s=[]∨¬ 0≤Lib.indexByte letB (s.getD 0 0) then ((0,0,0),2,0)
 else if (vL s).1=false then ((0,0,0),3,(vL s).2.2)
 else if (qI (s.drop (vL s).2.2)).2=false then ((0,0,0),2,(vL s).2.2)
 else if rightB (Lib.indexByte letB (s.getD 0 0)) (vL s).2.1 (qI (s.drop (vL s).2.2)).1=true then ((Lib.indexByte letB (s.getD 0 0),(vL s).2.1,(qI (s.drop (vL s).2.2)).1),0,0)
 else ((0,0,0),3,(vL s).2.2)

/-! ### decoding -/
theorem qkw {l:List UInt8} (h:l≠[]):1≤zj l:=by
 have hs:(st l).size≠0:=by
  intro e
  exact h (List.length_eq_zero_iff.1 e)
 unfold zj Lib.decodeGo
 rw [if_neg hs]
 unfold Utf8.decode
 dsimp only
 repeat' split
 all_goals first|decide|(show 1≤_;omega)
theorem QU (l:List UInt8):zj l≤l.length:=by
 by_cases h:l=[]
 ·subst h;exact Nat.le_refl 0
 have hs:(st l).size≠0:=by
  intro e
  exact h (List.length_eq_zero_iff.1 e)
 have hl:(st l).size=l.length:=rfl
 unfold zj Lib.decodeGo
 rw [if_neg hs]
 unfold Utf8.decode
 dsimp only
 repeat' split
 all_goals simp only [Bool.and_eq_true,decide_eq_true_eq] at *
 all_goals omega
theorem WP {l:List UInt8} (h:(zZ (zU l)).2=true):l≠[]∧1≤zj l∧1≤l.length:=by
 have h1:l≠[]:=by
  rintro rfl
  revert h
  decide
 exact ⟨h1,qkw h1,by cases l with|nil=>exact absurd rfl h1|cons a l=>simp⟩
theorem VC {l:List UInt8} {a:Int} {n:Nat} (h:¬ (zZ (zU l)).2=true):vK l a n=(true,a,n):=by
 rw [vK,dif_neg (fun c=>h c.1)]
theorem qai {l:List UInt8} {a:Int} {n:Nat} (h:(zZ (zU l)).2=true) (hb:(a+(zZ (zU l)).1)*(zZ (zU l)).1<0∨3<max (a+(zZ (zU l)).1) (0-(a+(zZ (zU l)).1))):vK l a n=(false,a+(zZ (zU l)).1,n):=by
 rw [vK,dif_pos ⟨h,(WP h).2⟩,if_pos hb]
theorem qga {l:List UInt8} {a:Int} {n:Nat} (h:(zZ (zU l)).2=true) (hb:¬ ((a+(zZ (zU l)).1)*(zZ (zU l)).1<0∨3<max (a+(zZ (zU l)).1) (0-(a+(zZ (zU l)).1)))):vK l a n=vK (l.drop (zj l)) (a+(zZ (zU l)).1) (n+zj l):=by
 rw [vK,dif_pos ⟨h,(WP h).2⟩,if_neg hb]
theorem signB_bd (r:Int) : -2≤(zZ r).1∧(zZ r).1≤2:=by
 unfold zZ
 repeat' split
 all_goals decide
theorem YP {p:UInt8→Bool}:∀ {l:List UInt8},l.dropWhile p=[]→∀ b∈l,p b=true
 | [],_,b,hb=>by simp at hb
 | a :: l,h,b,hb=>by
  by_cases ha:p a=true
  ·rw [List.dropWhile_cons_of_pos ha] at h
   rcases List.mem_cons.1 hb with rfl|hb
   ·exact ha
   ·exact YP h b hb
  ·rw [List.dropWhile_cons_of_neg ha] at h
   cases h
theorem YI {p:UInt8→Bool}:∀ {l:List UInt8},∀ b∈l.takeWhile p,p b=true
 | [],b,hb=>by simp at hb
 | a :: l,b,hb=>by
  by_cases ha:p a=true
  ·rw [List.takeWhile_cons_of_pos ha] at hb
   rcases List.mem_cons.1 hb with rfl|hb
   ·exact ha
   ·exact YI b hb
  ·rw [List.takeWhile_cons_of_neg ha] at hb
   cases hb
theorem qim {t:List UInt8} (h:Lib.trimS t digs=[]):∀ b∈t,b∈digs:=by
 unfold Lib.trimS Lib.trimLeftS Lib.trimRightS at h
 replace h:=YP h
 intro b hb
 have hb':b∈t.reverse:=by simpa using hb
 rw [← List.takeWhile_append_dropWhile (p:=fun x=>digs.contains x) (l:=t.reverse),List.mem_append] at hb'
 rcases hb' with hb'|hb'
 ·have:=YI b hb'
  simpa using this
 ·have:=h b (by simpa using hb')
  simpa using this
theorem QT {b:UInt8} (h:b∈digs):∃ d,Lib.digitVal b=some d∧d≤9∧b.toNat=48+d:=by
 have:∀ b∈digs,∃ d:Fin 10,Lib.digitVal b=some d.1∧b.toNat=48+d.1:=by decide
 obtain ⟨d,h1,h2⟩:=this b h
 exact ⟨d.1,h1,by omega,h2⟩
theorem qfd:∀ {t:List UInt8} {acc:Nat},(∀ b∈t,b∈digs)→∃ n,Lib.decFrom acc t=some n∧n<(acc+1)*10 ^ t.length
 | [],acc,_=>⟨acc,rfl,by simp⟩
 | b :: r,acc,h=>by
  obtain ⟨d,h1,h2,_⟩:=QT (h b (by simp))
  obtain ⟨n,h3,h4⟩:=qfd (t:=r) (acc:=acc*10+d) (fun c hc=>h c (by simp [hc]))
  refine ⟨n,?_,?_⟩
  ·simp only [Lib.decFrom,h1]
   exact h3
  ·rw [List.length_cons,Nat.pow_succ]
   have hp:=Nat.pow_pos (n:=r.length) (show 0<10 by decide)
   have:(acc*10+d+1)*10 ^ r.length≤(acc+1)*(10 ^ r.length*10):=by
    rw [Nat.mul_comm (10 ^ r.length) 10,← Nat.mul_assoc]
    exact Nat.mul_le_mul_right _ (by omega)
   omega
theorem qbt {t:List UInt8} (h0:t≠[]) (h:∀ b∈t,b∈digs):∃ n:Nat,Lib.atoi t=some (n:Int)∧n<10 ^ t.length:=by
 cases t with
 | nil=>exact absurd rfl h0
 | cons b r =>
  obtain ⟨d,_,h2,h3⟩:=QT (h b (by simp))
  obtain ⟨n,h4,h5⟩:=qfd (acc:=0) h
  refine ⟨n,?_,by simpa using h5⟩
  have e1:(b == 45)=false:=by
   rw [beq_eq_false_iff_ne];rintro rfl
   have:(45:UInt8).toNat=45:=rfl
   omega
  have e2:(b == 43)=false:=by
   rw [beq_eq_false_iff_ne];rintro rfl
   have:(43:UInt8).toNat=43:=rfl
   omega
  simp only [Lib.atoi,e1,e2,Lib.decNat,Bool.false_eq_true,if_false,List.isEmpty_cons,h4]
  rfl
theorem qdl {m:Bool} {t:List UInt8} (h:¬ Zy m t):Lib.atoi t=some (yG t)∧0≤yG t∧yG t≤9999∧t.length≤4∧1≤t.length:=by
 unfold Zy at h
 simp only [not_or] at h
 obtain ⟨h1,h2,_,h4⟩:=h
 obtain ⟨n,h5,h6⟩:=qbt h1 (qim (by simpa using h4))
 have h7:(10:Nat) ^ t.length≤10 ^ 4:=Nat.pow_le_pow_right (by decide) (by omega)
 have h8:1≤t.length:=by cases t with|nil=>exact absurd rfl h1|cons a l=>simp
 unfold yG
 rw [h5]
 refine ⟨rfl,?_,?_,by omega,h8⟩
 ·show (0:Int)≤n;omega
 ·show (n:Int)≤9999;omega
theorem QN:∀ (j:Nat) b,digs[j]? = some b→b.toNat<128:=by
 intro j b h
 have:∀ b∈digs,b.toNat<128:=by decide
 exact this b (List.mem_of_getElem? h)
theorem pre_len {s:List UInt8} (h:Lib.hasPrefix s [45]=true):1≤s.length:=by
 cases s with
 | nil=>cases h
 | cons a l=>simp
theorem Zz {s:List UInt8} (h:Lib.hasPrefix s [45]=true):body s=s.drop 1:=if_pos h
theorem jT {s:List UInt8} (h:¬ Lib.hasPrefix s [45]=true):body s=s:=if_neg h
theorem ZM {m:Bool} {t:List UInt8} (h1:¬ t=[]) (h2:¬ (4:Int)<(t.length:Int)) (h3:¬ (((t.getD 0 0).toNat:Nat):Int)=48∨(¬ (1:Int)<(t.length:Int)∧¬ m=true)) (h4:Lib.trimS t digs=[]):¬ Zy m t:=by
 unfold Zy
 rintro (h|h|⟨h5,h6⟩|h)
 ·exact h1 h
 ·omega
 ·rcases h3 with h3|⟨h3,h7⟩
  ·omega
  ·rcases h6 with h6|h6
   ·omega
   ·exact h7 h6
 ·exact h h4
theorem jQ {s:List UInt8} (h:Zy (Lib.hasPrefix s [45]) (body s)):qI s=(0,false):=if_pos h
theorem qjt {s:List UInt8} (h:¬ Zy (Lib.hasPrefix s [45]) (s.drop 1)) (h1:Lib.hasPrefix s [45]=true):qI s=(0-yG (s.drop 1),true):=by
 unfold qI;rw [Zz h1,if_neg h,if_pos h1]
theorem qen {s:List UInt8} (h:¬ Zy (Lib.hasPrefix s [45]) s) (h1:¬ Lib.hasPrefix s [45]=true):qI s=(yG s,true):=by
 unfold qI;rw [jT h1,if_neg h,if_neg h1]
theorem zW {o:Int} (h0 : -1000≤o) (h1:o≤1000):(Lib.itoa o).length≤21:=Lib.itoa_length_le o (by omega) (by omega)
theorem qhy {s:List UInt8} (h:¬ s=[]):1≤s.length:=List.length_pos_iff.2 h
theorem qgs {s:List UInt8} (h:¬ s=[]):(st s).extract (0:Int).toNat (1:Int).toNat=st [s.getD 0 0]:=by
 cases s with
 | nil=>exact absurd rfl h
 | cons a l=>exact st_upto _ 1
theorem qjm {s:List UInt8} (h:Lib.hasPrefix s [226,153,174]=true):3≤s.length:=by
 unfold Lib.hasPrefix at h
 have:=(List.isPrefixOf_iff_prefix.1 h).length_le
 simpa using this
theorem mul_small {x y:Int} (h1 : -5≤x) (h2:x≤5) (h3 : -2≤y) (h4:y≤2) : -10≤x*y∧x*y≤10:=by
 have h5:y = -2∨y = -1∨y=0∨y=1∨y=2:=by omega
 rcases h5 with rfl|rfl|rfl|rfl|rfl <;> omega
theorem qcc {s:List UInt8} (h:s=[]∨¬ 0≤Lib.indexByte letB (s.getD 0 0)):qW s=((0,0,0),2,0):=if_pos h
section
variable {s:List UInt8} {a:Int} {n:Nat} (h0:¬ s=[]) (h1:0≤Lib.indexByte letB (s.getD 0 0))
include h0 h1
theorem vM (hb:vL s=(false,a,n)):qW s=((0,0,0),3,(n:Int)):=by
 unfold qW;rw [if_neg (by rintro (h|h);exact h0 h;exact h h1),hb,if_pos rfl]
theorem WV (hb:vL s=(true,a,n)) (h2:¬ (qI (s.drop n)).2=true):qW s=((0,0,0),2,(n:Int)):=by
 unfold qW;rw [if_neg (by rintro (h|h);exact h0 h;exact h h1),hb,if_neg (fun h=>Bool.noConfusion h),if_pos (eq_false_of_ne_true h2)]
theorem WT (hb:vL s=(true,a,n)) (h2:(qI (s.drop n)).2=true) (h3:rightB (Lib.indexByte letB (s.getD 0 0)) a (qI (s.drop n)).1=true):qW s=((Lib.indexByte letB (s.getD 0 0),a,(qI (s.drop n)).1),0,0):=by
 unfold qW;rw [if_neg (by rintro (h|h);exact h0 h;exact h h1),hb,if_neg (fun h=>Bool.noConfusion h),if_neg (by rw [h2];decide),if_pos h3]
theorem WU (hb:vL s=(true,a,n)) (h2:(qI (s.drop n)).2=true) (h3:¬ rightB (Lib.indexByte letB (s.getD 0 0)) a (qI (s.drop n)).1=true):qW s=((0,0,0),3,(n:Int)):=by
 unfold qW;rw [if_neg (by rintro (h|h);exact h0 h;exact h h1),hb,if_neg (fun h=>Bool.noConfusion h),if_neg (by rw [h2];decide),if_neg h3]
end
theorem QO {s:List UInt8} (h:Lib.hasPrefix (s.drop 1) [226,153,174]=true):vL s=(true,0,4):=if_pos h
theorem zz {s:List UInt8} {r:Bool × Int × Nat} (h:¬ Lib.hasPrefix (s.drop 1) [226,153,174]=true) {a:Int} {n:Nat} (hS:vK (s.drop n) a n=vK (s.drop 1) 0 1) (hr:vK (s.drop n) a n=r):vL s=r:=by
 unfold vL;rw [if_neg h,← hS,hr]
theorem VH (s:List UInt8) : -9999≤(qI s).1∧(qI s).1≤9999:=by
 unfold qI
 split
 ·decide
 ·rename_i h
  have:=qdl h
  split
  ·show -9999≤0-yG (body s)∧0-yG (body s)≤9999;omega
  ·show -9999≤yG (body s)∧yG (body s)≤9999;omega
def zN (s:Int):Bool:=decide (s % 7=0∨s % 7=3∨s % 7=4)
def vP (s h:Int):Int:=h-12*(s / 7)-nat7 (s % 7)
def vz (p:Bool) (m:Int):List UInt8 :=
 if 0<m then Lib.repeatL [65] (min m 7).toNat else if m=0 then (if p=true then [80] else [77]) else if p=true then Lib.repeatL [100] (min (0-m) 7).toNat
 else if m = -1 then [109] else Lib.repeatL [100] (min (0-m-1) 7).toNat
def Yq (mn:List UInt8) (s h:Int):List UInt8 × Int :=
 if 6<(vz (zN s) (vP s h)).length then ([],3) else (mn++vz (zN s) (vP s h)++Lib.itoa (s+1),0)
def qG (s h:Int):List UInt8 × Int :=
 if withinB s h=true then (if s<0∨(s=0∧h<0) then Yq [45] (0-s) (0-h) else Yq [] s h) else ([],3)
def wv (s:List UInt8):List UInt8:=Lib.trimPrefix s [45]
def quals:List UInt8:=[80,77,109,65,100]
def qz (s:List UInt8):List UInt8:=Lib.trimLeftS (wv s) quals
def zL (s:List UInt8):List UInt8:=(wv s).take ((wv s).length-(qz s).length)
def jj (p:Bool) (q:List UInt8):Option Int :=
 if (q=[80]∧p=true)∨(q=[77]∧¬ p=true) then some 0 else if q=[109]∧¬ p=true then some (-1) else if Lib.trimS q [65]=[] then some (q.length:Int)
 else if Lib.trimS q [100]=[]∧p=true then some (-(q.length:Int)) else if Lib.trimS q [100]=[] then some (-((q.length:Int)+1)) else none
def qU (s:List UInt8):Int:=(qI (qz s)).1-1
def vZ (s:List UInt8) (m:Int):Int × Int :=
 if (wv s).length<s.length then (0-qU s,0-(12*(qU s / 7)+nat7 (qU s % 7)+m)) else (qU s,12*(qU s / 7)+nat7 (qU s % 7)+m)
def checked (s:List UInt8) (j:Int × Int):(Int × Int) × Int:=if (qG j.1 j.2).2=0∧(qG j.1 j.2).1=s then (j,0) else ((0,0),2)
def qY (s:List UInt8):(Int × Int) × Int :=
 if ¬ (qI (qz s)).2=true∨(qI (qz s)).1<1∨zL s=[] then ((0,0),2)
 else if 200<qU s∨(6:Int)<((zL s).length:Int) then ((0,0),3)
 else match jj (zN (qU s)) (zL s) with
  | none=>((0,0),2)
  | some m=>checked s (vZ s m)

theorem yN {c:UInt8} (h:c.toNat<128):∀ (j:Nat) b,([c]:List UInt8)[j]? = some b→b.toNat<128:=by
 intro j b hb
 have:=List.mem_of_getElem? hb
 simp only [List.mem_singleton] at this
 subst this;exact h
theorem qjf:∀ (j:Nat) b,quals[j]? = some b→b.toNat<128:=by
 intro j b h
 have:∀ b∈quals,b.toNat<128:=by decide
 exact this b (List.mem_of_getElem? h)
theorem qdv (s:List UInt8):(wv s).length≤s.length:=by
 unfold wv Lib.trimPrefix
 split
 ·rw [List.length_drop];omega
 ·exact Nat.le_refl _
theorem qfe (s:List UInt8):(qz s).length≤(wv s).length:=(List.dropWhile_suffix _).length_le
theorem yH (c:UInt8):∀ n,(Lib.repeatL [c] n).length=n
 | 0=>rfl
 | n+1=>by
  have:=yH c n
  show ([c]++Lib.repeatL [c] n).length=n+1
  rw [List.length_append,this];simp;omega
theorem qual_len (p:Bool) (m:Int):(vz p m).length≤7:=by
 unfold vz
 repeat' split
 all_goals first|(rw [yH];omega)|(show 1≤7;decide)
theorem vX {mn:List UInt8} {s h:Int} {q:List UInt8} (hq:vz (zN s) (vP s h)=q) (hl:(6:Int)<(q.length:Int)):Yq mn s h=([],3):=by
 unfold Yq;rw [hq,if_pos (by omega)]
theorem yL {mn:List UInt8} {s h:Int} {q:List UInt8} (hq:vz (zN s) (vP s h)=q) (hl:¬ (6:Int)<(q.length:Int)):Yq mn s h=(mn++q++Lib.itoa (s+1),0):=by
 unfold Yq;rw [hq,if_neg (by omega)]
theorem qbk {s h:Int} (hw:¬ withinB s h=true):qG s h=([],3):=if_neg hw
theorem yO {s h:Int} {r:List UInt8 × Int} (hw:withinB s h=true) (hn:s<0∨(s=0∧h<0)) (hr:Yq [45] (0-s) (0-h)=r):qG s h=r:=by unfold qG;rw [if_pos hw,if_pos hn,hr]
theorem yI {s h:Int} {r:List UInt8 × Int} (hw:withinB s h=true) (hn:¬ (s<0∨(s=0∧h<0))) (hr:Yq [] s h=r):qG s h=r:=by unfold qG;rw [if_pos hw,if_neg hn,hr]
section
variable {p:Bool} {m:Int}
theorem QR (h:0<m):vz p m=Lib.repeatL [65] (min m 7).toNat:=if_pos h
theorem YK (h:m=0) (hp:p=true):vz p m=[80]:=by subst h;unfold vz;rw [if_neg (by decide),if_pos rfl,if_pos hp]
theorem qcf (h:m=0) (hp:¬ p=true):vz p m=[77]:=by subst h;unfold vz;rw [if_neg (by decide),if_pos rfl,if_neg hp]
theorem YJ (h0:¬ 0<m) (h:¬ m=0) (hp:p=true):vz p m=Lib.repeatL [100] (min (0-m) 7).toNat:=by unfold vz;rw [if_neg h0,if_neg h,if_pos hp]
theorem qce (h:m = -1) (hp:¬ p=true):vz p m=[109]:=by subst h;unfold vz;rw [if_neg (by decide),if_neg (by decide),if_neg hp,if_pos rfl]
theorem QS (h0:¬ 0<m) (h:¬ m=0) (hp:¬ p=true) (h1:¬ m = -1):vz p m=Lib.repeatL [100] (min (0-m-1) 7).toNat:=by unfold vz;rw [if_neg h0,if_neg h,if_neg hp,if_neg h1]
end
section
variable {s:List UInt8}
theorem vD (h:¬ (qI (qz s)).2=true∨(qI (qz s)).1<1∨zL s=[]):qY s=((0,0),2):=if_pos h
variable (h0:(qI (qz s)).2=true) (h1:¬ (qI (qz s)).1<1) (h2:¬ zL s=[])
include h0 h1 h2
theorem wz (h:200<qU s∨(6:Int)<((zL s).length:Int)):qY s=((0,0),3):=by
 unfold qY;rw [if_neg (by rintro (h|h|h);exact h h0;exact h1 h;exact h2 h),if_pos h]
variable (h3:¬ 200<qU s) (h4:¬ (6:Int)<((zL s).length:Int))
include h3 h4
theorem QI (h:jj (zN (qU s)) (zL s)=none):qY s=((0,0),2):=by
 unfold qY;rw [if_neg (by rintro (h|h|h);exact h h0;exact h1 h;exact h2 h),if_neg (by rintro (h|h);exact h3 h;exact h4 h),h]
theorem qM {m:Int} {j:Int × Int} (h:jj (zN (qU s)) (zL s)=some m) (hj:vZ s m=j):qY s=checked s j:=by
 unfold qY;rw [if_neg (by rintro (h|h|h);exact h h0;exact h1 h;exact h2 h),if_neg (by rintro (h|h);exact h3 h;exact h4 h),h,← hj]
end
theorem zH {s:List UInt8} {x y:Int} (h1:(qG x y).2=0) (h2:(qG x y).1=s):checked s (x,y)=((x,y),0):=if_pos ⟨h1,h2⟩
theorem zK {s:List UInt8} {x y:Int} (h1:¬ (qG x y).2=0):checked s (x,y)=((0,0),2):=if_neg (fun h=>h1 h.1)
theorem zJ {s:List UInt8} {x y:Int} (h1:¬ (qG x y).1=s):checked s (x,y)=((0,0),2):=if_neg (fun h=>h1 h.2)
section
variable {p:Bool} {q:List UInt8}
theorem qfv (h:q=[80]) (hp:p=true):jj p q=some 0:=if_pos (.inl ⟨h,hp⟩)
theorem VT (h:q=[77]) (hp:¬ p=true):jj p q=some 0:=if_pos (.inr ⟨h,hp⟩)
variable (h1:¬ (q=[80]∧p=true)) (h2:¬ (q=[77]∧¬ p=true))
include h1 h2
theorem VS (h:q=[109]) (hp:¬ p=true):jj p q=some (-1):=by unfold jj;rw [if_neg (by rintro (h|h);exact h1 h;exact h2 h),if_pos ⟨h,hp⟩]
variable (h3:¬ (q=[109]∧¬ p=true))
include h3
theorem wD (h:Lib.trimS q [65]=[]):jj p q=some (q.length:Int):=by unfold jj;rw [if_neg (by rintro (h|h);exact h1 h;exact h2 h),if_neg h3,if_pos h]
variable (h4:¬ Lib.trimS q [65]=[])
include h4
theorem wk (h:Lib.trimS q [100]=[]) (hp:p=true):jj p q=some (-(q.length:Int)):=by unfold jj;rw [if_neg (by rintro (h|h);exact h1 h;exact h2 h),if_neg h3,if_neg h4,if_pos ⟨h,hp⟩]
theorem Qk (h:Lib.trimS q [100]=[]) (hp:¬ p=true):jj p q=some (-((q.length:Int)+1)):=by unfold jj;rw [if_neg (by rintro (h|h);exact h1 h;exact h2 h),if_neg h3,if_neg h4,if_neg (fun c=>hp c.2),if_pos h]
theorem qdt (h:¬ Lib.trimS q [100]=[]):jj p q=none:=by unfold jj;rw [if_neg (by rintro (h|h);exact h1 h;exact h2 h),if_neg h3,if_neg h4,if_neg (fun c=>h c.1),if_neg h]
end
theorem q_cut (s:List UInt8):(st (wv s)).extract (0:Int).toNat ((((wv s).length:Nat):Int)-(((qz s).length:Nat):Int)).toNat=st (zL s):=by
 rw [show ((((wv s).length:Nat):Int)-(((qz s).length:Nat):Int)).toNat=(wv s).length-(qz s).length from by omega]
 exact st_upto _ _
theorem qOf_le (s:List UInt8):(zL s).length≤(wv s).length:=by unfold zL;rw [List.length_take];omega
/-! ### decoding -/
theorem qhg (l:List UInt8) (k:Nat):(st l).get! k=l.getD k 0:=by
 show (l.toArray)[k]! = l.getD k 0
 rw [Array.getElem!_eq_getD,List.getD_eq_getElem?_getD,Array.getD_eq_getD_getElem?]
 simp
 rfl
theorem qcp {b:UInt8} {r:List UInt8} (h:b.toNat<128):zU (b :: r)=b.toNat∧zj (b :: r)=1:=by
 have hs:(st (b :: r)).size≠0:=by show (b :: r).length≠0;simp
 have e:Lib.decodeGo (st (b :: r))=(b.toNat,1):=by
  unfold Lib.decodeGo
  rw [if_neg hs]
  unfold Utf8.decode
  dsimp only
  simp only [qhg]
  exact if_pos h
 unfold zU zj
 rw [e]
 exact ⟨rfl,rfl⟩
theorem qgv {c:UInt8} {r:List UInt8} (h1:128≤c.toNat) (h2:c.toNat<192):zU (226 :: 153 :: c :: r)=8192+25*64+c.toNat % 64∧zj (226 :: 153 :: c :: r)=3:=by
 have hs:(st (226 :: 153 :: c :: r)).size≠0:=by show (226 :: 153 :: c :: r).length≠0;simp
 have hl:(st (226 :: 153 :: c :: r)).size=r.length+3:=rfl
 have e:Lib.decodeGo (st (226 :: 153 :: c :: r))=(8192+25*64+c.toNat % 64,3):=by
  unfold Lib.decodeGo
  rw [if_neg hs]
  unfold Utf8.decode
  dsimp only
  simp only [qhg,hl]
  have h3:c.toNat / 64=2:=by omega
  have h4:c.toNat % 64<64:=Nat.mod_lt _ (by decide)
  simp [h3,Utf8.valid]
  omega
 unfold zU zj
 rw [e]
 exact ⟨rfl,rfl⟩
theorem qku {c:UInt8} {r:List UInt8} (h1:128≤c.toNat) (h2:c.toNat<192):zU (240 :: 157 :: 132 :: c :: r)=118784+256+c.toNat % 64∧zj (240 :: 157 :: 132 :: c :: r)=4:=by
 have hs:(st (240 :: 157 :: 132 :: c :: r)).size≠0:=by show (240 :: 157 :: 132 :: c :: r).length≠0;simp
 have hl:(st (240 :: 157 :: 132 :: c :: r)).size=r.length+4:=rfl
 have e:Lib.decodeGo (st (240 :: 157 :: 132 :: c :: r))=(118784+256+c.toNat % 64,4):=by
  unfold Lib.decodeGo
  rw [if_neg hs]
  unfold Utf8.decode
  dsimp only
  simp only [qhg,hl]
  have h3:c.toNat / 64=2:=by omega
  have h4:c.toNat % 64<64:=Nat.mod_lt _ (by decide)
  simp [h3,Utf8.valid]
  omega
 unfold zU zj
 rw [e]
 exact ⟨rfl,rfl⟩

/-! ### numbers -/
def dg3 (u:Nat):List UInt8:=if u<10 then [UInt8.ofNat (48+u)] else if u<100 then [UInt8.ofNat (48+u / 10),UInt8.ofNat (48+u % 10)] else [UInt8.ofNat (48+u / 100),UInt8.ofNat (48+u / 10 % 10),UInt8.ofNat (48+u % 10)]
theorem dec_dg3 {u:Nat} (h:u<1000):Lib.decDigits u=dg3 u:=by
 unfold dg3
 by_cases h1:u<10
 ·rw [if_pos h1,Lib.decDigits_one h1]
 ·rw [if_neg h1]
  by_cases h2:u<100
  ·rw [if_pos h2,Lib.decDigits_two h1 h2]
  ·rw [if_neg h2,Lib.decDigits,dif_neg h1,Lib.decDigits_two (by omega) (by omega),show u / 10 / 10=u / 100 from by omega]
   rfl
theorem qhs:∀ u:Fin 1000,qI (dg3 u.1)=((u.1:Int),true)∧(1≤u.1→qI (45 :: dg3 u.1)=(0-(u.1:Int),true))∧(∃ b∈digs,(dg3 u.1).head? = some b):=by
 decide +kernel
theorem qkd {u:Nat} (h:u<1000):Lib.itoa (u:Int)=dg3 u:=by rw [Lib.itoa_nonneg,dec_dg3 h]
theorem qgm {u:Nat} (h:u<1000) (h1:1≤u):Lib.itoa (0-(u:Int))=45 :: dg3 u:=by
 rw [show 0-(u:Int) = -(u:Int) from by omega,Lib.itoa_neg u h1,dec_dg3 h]
theorem num_itoa {n:Int} (h1 : -999≤n) (h2:n≤999):qI (Lib.itoa n)=(n,true):=by
 by_cases h:0≤n
 ·obtain ⟨u,rfl⟩:∃ u:Nat,n=u:=⟨n.toNat,by omega⟩
  rw [qkd (by omega)]
  exact (qhs ⟨u,by omega⟩).1
 ·obtain ⟨u,rfl⟩:∃ u:Nat,n=0-(u:Int):=⟨(-n).toNat,by omega⟩
  rw [qgm (by omega) (by omega)]
  exact (qhs ⟨u,by omega⟩).2.1 (by show 1≤u;omega)
theorem itoa_head {n:Int} (h1 : -999≤n) (h2:n≤999):∃ b r,Lib.itoa n=b :: r∧(b∈digs∨b=45)∧(0≤n→b∈digs):=by
 by_cases h:0≤n
 ·obtain ⟨u,rfl⟩:∃ u:Nat,n=u:=⟨n.toNat,by omega⟩
  rw [qkd (by omega)]
  obtain ⟨b,hb,hh⟩:=(qhs ⟨u,by omega⟩).2.2
  cases hd:dg3 u with
  | nil=>rw [show dg3 (⟨u,by omega⟩:Fin 1000).1=[] from hd] at hh;cases hh
  | cons c r =>
   rw [show dg3 (⟨u,by omega⟩:Fin 1000).1=c :: r from hd] at hh
   cases hh
   exact ⟨_,r,rfl,.inl hb,fun _=>hb⟩
 ·obtain ⟨u,rfl⟩:∃ u:Nat,n=0-(u:Int):=⟨(-n).toNat,by omega⟩
  rw [qgm (by omega) (by omega)]
  exact ⟨45,_,rfl,.inr rfl,fun c=>by omega⟩
theorem letter_at0:∀ l:Fin 7,(letB.drop l.1).take 1=[letB.getD l.1 0]∧Lib.indexByte letB (letB.getD l.1 0)=(l.1:Int):=by decide
/-! ### intervals -/
theorem qual_all:∀ (p:Bool) (k:Fin 14),jj p (vz p ((k.1:Int)-7))=some ((k.1:Int)-7)∨6<(vz p ((k.1:Int)-7)).length:=by decide
theorem qual_bytes:∀ (p:Bool) (k:Fin 14),(∀ b∈vz p ((k.1:Int)-7),b∈quals)∧(vz p ((k.1:Int)-7)≠[]):=by decide
theorem qual_small {p:Bool} {m:Int} (h:¬ 6<(vz p m).length) : -7≤m∧m≤6:=by
 unfold vz at h
 split at h
 ·rw [yH] at h;omega
 ·split at h
  ·omega
  ·split at h
   ·rw [yH] at h;omega
   ·split at h
    ·omega
    ·rw [yH] at h;omega
theorem qual_ok {p:Bool} {m:Int} (h:¬ 6<(vz p m).length):jj p (vz p m)=some m∧(∀ b∈vz p m,b∈quals)∧vz p m≠[]:=by
 obtain ⟨h1,h2⟩:=qual_small h
 have e:(((⟨(m+7).toNat,by omega⟩:Fin 14).1:Int))-7=m:=by show (((m+7).toNat:Nat):Int)-7=m;omega
 have h3:=qual_all p ⟨(m+7).toNat,by omega⟩
 have h4:=qual_bytes p ⟨(m+7).toNat,by omega⟩
 rw [e] at h3 h4
 exact ⟨h3.resolve_right h,h4⟩
theorem qae {p:UInt8→Bool}:∀ {q l:List UInt8},(∀ b∈q,p b=true)→(q++l).dropWhile p=l.dropWhile p
 | [],_,_=>rfl
 | a :: q,l,h=>by
  rw [List.cons_append,List.dropWhile_cons_of_pos (h a (by simp))]
  exact qae fun b hb=>h b (by simp [hb])
theorem named_name {s h:Int} (hok:(qG s h).2=0):qY (qG s h).1=((s,h),0):=by
 have hw:withinB s h=true:=by
  by_cases hw:withinB s h=true
  ·exact hw
  ·rw [qbk hw] at hok;exact absurd hok (by decide)
 obtain ⟨w1,w2,w3,w4⟩:=withinB_iff.1 hw
 -- without the sign
 obtain ⟨mn,x,y,hname,hx0,hx2,hmn⟩:∃ mn x y,qG s h=Yq mn x y∧0≤x∧x≤200∧((mn=[45]∧s=0-x∧h=0-y)∨(mn=[]∧s=x∧h=y)):=by
  by_cases hn:s<0∨(s=0∧h<0)
  ·exact ⟨[45],0-s,0-h,yO hw hn rfl,by omega,by omega,.inl ⟨rfl,by omega,by omega⟩⟩
  ·exact ⟨[],s,h,yI hw hn rfl,by omega,by omega,.inr ⟨rfl,rfl,rfl⟩⟩
 obtain ⟨q,hq⟩:∃ q,q=vz (zN x) (vP x y):=⟨_,rfl⟩
 have hlen:¬ 6<q.length:=by
  intro hl
  rw [hname,vX hq.symm (by omega)] at hok
  exact absurd hok (by decide)
 have hnm:qG s h=(mn++q++Lib.itoa (x+1),0):=by rw [hname,yL hq.symm (by omega)]
 obtain ⟨v1,v2,v3⟩:=qual_ok (p:=zN x) (m:=vP x y) (by rw [← hq];exact hlen)
 rw [← hq] at v1 v2 v3
 obtain ⟨b,r,hi,_,hb⟩:=itoa_head (n:=x+1) (by omega) (by omega)
 replace hb:=hb (by omega)
 obtain ⟨S,hS⟩:∃ S,S=mn++q++Lib.itoa (x+1):=⟨_,rfl⟩
 rw [hnm]
 show qY (mn++q++Lib.itoa (x+1))=_
 rw [← hS]
 have hd45:∀ b∈quals,b≠45:=by decide
 have ht:wv S=q++Lib.itoa (x+1):=by
  unfold wv Lib.trimPrefix
  rcases hmn with ⟨rfl,_,_⟩|⟨rfl,_,_⟩
  ·rw [hS,if_pos (by simp [Lib.hasPrefix])]
   rfl
  ·rw [hS,if_neg]
   ·rfl
   ·cases q with
    | nil=>exact absurd rfl v3
    | cons c q =>
     have:=hd45 c (v2 c (by simp))
     simp [Lib.hasPrefix,Ne.symm this]
 have hdq:∀ b∈digs,quals.contains b=false:=by decide
 have hd:qz S=Lib.itoa (x+1):=by
  unfold qz Lib.trimLeftS
  rw [ht,qae (fun c hc=>by simpa using v2 c hc),hi,List.dropWhile_cons_of_neg (by rw [hdq b hb];decide)]
 have hqo:zL S=q:=by
  unfold zL
  rw [ht,hd,List.length_append,Nat.add_sub_cancel,List.take_left]
 have hn:=num_itoa (n:=x+1) (by omega) (by omega)
 have hst:qU S=x:=by unfold qU;rw [hd,hn];show x+1-1=x;omega
 have hlt:(wv S).length<S.length↔mn=[45]:=by
  rw [ht,hS]
  rcases hmn with ⟨rfl,_,_⟩|⟨rfl,_,_⟩
  ·simp
  ·simp
 have hj:vZ S (vP x y)=(s,h):=by
  unfold vZ vP
  rw [hst]
  rcases hmn with ⟨e,e1,e2⟩|⟨e,e1,e2⟩
  ·rw [if_pos (hlt.2 e)]
   exact Prod.ext (by show _=s;omega) (by show _=h;omega)
  ·rw [if_neg (fun c=>by have:=hlt.1 c;rw [e] at this;cases this)]
   exact Prod.ext (by show _=s;omega) (by show _=h;omega)
 rw [qM (s:=S) (by rw [hd,hn]) (by rw [hd,hn];show ¬ x+1<1;omega) (by rw [hqo];exact v3) (by rw [hst];omega) (by rw [hqo];omega) (m:=vP x y) (by rw [hst,hqo];exact v1) hj]
 exact zH (by rw [hnm]) (by rw [hnm,hS])
/-! ### digits -/
theorem itoa_min {n:Int} (h:n<0):([45]:TX)++Lib.itoa (0-n)=Lib.itoa n:=by
 obtain ⟨u,rfl⟩:∃ u:Nat,n = -(u:Int):=⟨(-n).toNat,by omega⟩
 rw [Lib.itoa_neg u (by omega),show 0 - -(u:Int)=(u:Int) from by omega,Lib.itoa_nonneg]
 rfl
theorem itoa_dig {n:Int} (h0:0≤n) (h:n<10):Lib.itoa n=[UInt8.ofNat (48+n).toNat]:=by
 obtain ⟨u,rfl⟩:∃ u:Nat,n=(u:Int):=⟨n.toNat,by omega⟩
 rw [Lib.itoa_nonneg,Lib.decDigits_one (by omega)]
 rfl
theorem itoa_app {n:Int} (h:¬ n<10):Lib.itoa (n.tdiv 10)++Lib.itoa (n.tmod 10)=Lib.itoa n:=by
 obtain ⟨u,rfl⟩:∃ u:Nat,n=(u:Int):=⟨n.toNat,by omega⟩
 have e1:(u:Int).tdiv 10=((u / 10:Nat):Int):=rfl
 have e2:(u:Int).tmod 10=((u % 10:Nat):Int):=rfl
 rw [e1,e2,Lib.itoa_nonneg,Lib.itoa_nonneg,Lib.itoa_nonneg]
 rw [Lib.decDigits.eq_def u,dif_neg (by omega),Lib.decDigits_one (show u % 10<10 from Nat.mod_lt _ (by decide))]
theorem quo_bd {n:Int} (h:¬ n<10):0≤n.tdiv 10∧n.tdiv 10<n∧0≤n.tmod 10∧n.tmod 10<10:=by
 obtain ⟨u,rfl⟩:∃ u:Nat,n=(u:Int):=⟨n.toNat,by omega⟩
 have e1:(u:Int).tdiv 10=((u / 10:Nat):Int):=rfl
 have e2:(u:Int).tmod 10=((u % 10:Nat):Int):=rfl
 omega
theorem bytes_one {x:Int} (h0:0≤x) (h1:x<256):([.av (.int .u8 x)]:List PV)=YG (st [UInt8.ofNat x.toNat]):=by
 obtain ⟨u,rfl⟩:∃ u:Nat,x=(u:Int):=⟨x.toNat,by omega⟩
 show _=[PV.av (.int .u8 ((UInt8.ofNat u).toNat:Int))]
 rw [UInt8.toNat_ofNat_of_lt' (by show u<256;omega)]
theorem qjb (c:UInt8):∀ k,Lib.repeatL [c] k++[c]=Lib.repeatL [c] (k+1)
 | 0=>rfl
 | k+1=>by
  show [c]++Lib.repeatL [c] k++[c]=[c]++Lib.repeatL [c] (k+1)
  rw [List.append_assoc,qjb c k]

/-! ### beginnings -/
theorem qah {s t:List UInt8} {n:Nat} (ht:t≠[]):(n+t.length≤s.length∧(s.drop n).take t.length=t)↔Lib.hasPrefix (s.drop n) t=true:=by
 unfold Lib.hasPrefix
 rw [List.isPrefixOf_iff_prefix,List.prefix_iff_eq_take]
 constructor
 ·exact fun h=>h.2.symm
 ·intro h
  have hl:=congrArg List.length h
  rw [List.length_take,List.length_drop] at hl
  have:=List.length_pos_iff.2 ht
  exact ⟨by omega,h.symm⟩
theorem qhf {s t:List UInt8} {n:Nat} (ht:t≠[]) (h1:¬ (n:Int)+(t.length:Int)≤(s.length:Int)):Lib.hasPrefix (s.drop n) t=false:=by
 rw [← Bool.not_eq_true,← qah ht];exact fun c=>h1 (by omega)
theorem qjv {s:List UInt8} (h0:0<s.length):Lib.hasPrefix s [45]=decide ((((s.getD 0 0).toNat:Nat):Int)=45):=by
 cases s with
 | nil=>cases h0
 | cons a l =>
  rw [Bool.eq_iff_iff]
  simp only [Lib.hasPrefix,List.isPrefixOf,Bool.and_true,beq_iff_eq,List.getD_cons_zero,decide_eq_true_eq]
  constructor
  ·rintro rfl;rfl
  ·intro h
   exact UInt8.toNat_inj.1 (show (45:UInt8).toNat=a.toNat from by have:(45:UInt8).toNat=45:=rfl;omega)

/-! ### numbers,digit by digit -/
def Zq (n:Int) (b:UInt8):Int:=IntKind.wrap .i64 (IntKind.wrap .i64 (10*n)+IntKind.wrap .i64 (IntKind.wrap .u8 (((b.toNat:Nat):Int)-48)))
def WE (n:Int):List UInt8→Int
 | []=>n
 | b :: r=>WE (Zq n b) r
theorem Wj (b:UInt8):∀ (l:List UInt8) (n:Int),WE n (l++[b])=Zq (WE n l) b
 | [],_=>rfl
 | c :: l,n=>Wj b l (Zq n c)
theorem isdig {b:UInt8} (h1:¬ (((b.toNat:Nat):Int)<48)) (h2:¬ (57<(b.toNat:Int))):b∈digs:=by
 have key:∀ b:UInt8,48≤b.toNat→b.toNat≤57→b∈digs:=by
  intro b h1 h2
  have:∀ k:Fin 10,UInt8.ofNat (48+k.1)∈digs:=by decide
  have e:=this ⟨b.toNat-48,by omega⟩
  rw [show 48+(⟨b.toNat-48,by omega⟩:Fin 10).1=b.toNat from by show 48+(b.toNat-48)=b.toNat;omega] at e
  simpa using e
 exact key b (by omega) (by omega)
theorem qeo {b:UInt8} (h:(b.toNat:Int)<48∨57<(b.toNat:Int)):b ∉ digs:=by
 intro hb
 obtain ⟨d,_,h2,h3⟩:=QT hb
 omega
theorem qkv:∀ {l:List UInt8} {acc:Nat},(∀ b∈l,b∈digs)→l.length≤14→acc<10 ^ (14-l.length)→∀ {n},Lib.decFrom acc l=some n→WE (acc:Int) l=(n:Int)
 | [],acc,_,_,_,n,h=>by cases h;rfl
 | b :: r,acc,hd,hl,ha,n,h=>by
  obtain ⟨d,h1,h2,h3⟩:=QT (hd b (by simp))
  simp only [Lib.decFrom,h1] at h
  rw [List.length_cons] at hl ha
  have hp:10 ^ (14-r.length)=10 ^ (14-(r.length+1))*10:=by rw [← Nat.pow_succ];congr 1;omega
  have hq:10 ^ (14-(r.length+1))≤10 ^ 14:=Nat.pow_le_pow_right (by decide) (by omega)
  have e:Zq (acc:Int) b=((acc*10+d:Nat):Int):=by
   unfold Zq
   rw [qav (k:=.u8) (by simp only [InK];omega),qav (k:=.i64) (n:=10*(acc:Int)) (by simp only [InK];omega),qav (k:=.i64) (n:=(b.toNat:Int)-48) (by simp only [InK];omega),qav (by simp only [InK];omega)]
   omega
  show WE (Zq (acc:Int) b) r=n
  rw [e]
  exact qkv (fun c hc=>hd c (by simp [hc])) (by omega) (by omega) h
theorem qgw {t:List UInt8} (h0:t≠[]) (hd:∀ b∈t,b∈digs) (hl:t.length≤4):WE 0 t=yG t:=by
 obtain ⟨n,h1,_⟩:=qbt h0 hd
 obtain ⟨m,h2,_⟩:=qfd (acc:=0) hd
 have h3:=qkv hd (by omega) (Nat.pow_pos (by decide)) h2
 have h4:yG t=(n:Int):=by unfold yG;rw [h1];rfl
 rw [h4]
 cases t with
 | nil=>exact absurd rfl h0
 | cons b r =>
  obtain ⟨d,_,h5,h6⟩:=QT (hd b (by simp))
  have e1:(b == 45)=false:=by
   rw [beq_eq_false_iff_ne];rintro rfl
   have:(45:UInt8).toNat=45:=rfl
   omega
  have e2:(b == 43)=false:=by
   rw [beq_eq_false_iff_ne];rintro rfl
   have:(43:UInt8).toNat=43:=rfl
   omega
  simp only [Lib.atoi,e1,e2,Lib.decNat,Bool.false_eq_true,if_false,List.isEmpty_cons,h2] at h1
  have h7:(m:Int)=n:=by simpa using h1
  rw [← h7];exact h3
theorem trim_none {t:List UInt8} (h:∀ b∈t,b∈digs):Lib.trimS t digs=[]:=by
 unfold Lib.trimS Lib.trimLeftS Lib.trimRightS
 have key:∀ l:List UInt8,(∀ b∈l,b∈digs)→l.dropWhile (digs.contains ·)=[]:=by
  intro l hl
  induction l with
  | nil=>rfl
  | cons a l ih=>rw [List.dropWhile_cons_of_pos (by simpa using hl a (by simp))];exact ih fun b hb=>hl b (by simp [hb])
 rw [key t.reverse fun b hb=>h b (by simpa using hb)]
 rfl
theorem noNum_byte {m:Bool} {t:List UInt8} {b:UInt8} (hb:b∈t) (h:b ∉ digs):Zy m t:=.inr (.inr (.inr fun c=>h (qim c b hb)))
theorem get_mem {s:List UInt8} {k:Nat} (h:k<s.length):s.getD k 0∈s:=by
 rw [List.getD_eq_getElem?_getD,List.getElem?_eq_getElem h];exact List.getElem_mem h
theorem qhz {s:List UInt8} {i k:Nat} (hi:i≤k) (h:k<s.length):s.getD k 0∈s.drop i:=by
 have:s.getD k 0=(s.drop i).getD (k-i) 0:=by rw [List.getD_eq_getElem?_getD,List.getD_eq_getElem?_getD,List.getElem?_drop];congr 2;omega
 rw [this];exact get_mem (by rw [List.length_drop];omega)
theorem vw {s:List UInt8} {i k:Nat} (hi:i≤k) (h:k<s.length):(s.take (k+1)).drop i=(s.take k).drop i++[s.getD k 0]:=by
 rw [List.take_add_one,List.drop_append_of_le_length (by rw [List.length_take];omega),List.getElem?_eq_getElem h]
 congr 1
 rw [List.getD_eq_getElem?_getD,List.getElem?_eq_getElem h];rfl
theorem ZN {s:List UInt8} {i:Nat}:(s.drop i).getD 0 0=s.getD i 0:=by rw [List.getD_eq_getElem?_getD,List.getD_eq_getElem?_getD,List.getElem?_drop];rfl
theorem body_i {s:List UInt8} {i:Nat} (h:(i=1∧Lib.hasPrefix s [45]=true)∨(i=0∧Lib.hasPrefix s [45]=false)):body s=s.drop i:=by
 rcases h with ⟨rfl,h⟩|⟨rfl,h⟩
 ·exact Zz h
 ·rw [jT (by rw [h];decide)];rfl
section
variable {s:List UInt8} {i:Nat} (hi:(i=1∧Lib.hasPrefix s [45]=true)∨(i=0∧Lib.hasPrefix s [45]=false))
include hi
theorem jU {k:Nat} (h1:i≤k) (h2:k<s.length) (h:s.getD k 0 ∉ digs):qI s=(0,false) :=
 jQ (by rw [body_i hi];exact noNum_byte (qhz h1 h2) h)
theorem wJ (h:(s.length:Int)-(i:Int)<1∨4<(s.length:Int)-(i:Int)∨(((s.getD i 0).toNat:Nat):Int)=48∧(1<(s.length:Int)-(i:Int)∨i=1)):qI s=(0,false):=by
 refine jQ ?_
 rw [body_i hi]
 unfold Zy
 rw [List.length_drop,ZN]
 rcases h with h|h|⟨h,h'⟩
 ·exact .inl (List.drop_eq_nil_of_le (by omega))
 ·exact .inr (.inl (by omega))
 ·refine .inr (.inr (.inl ⟨by omega,?_⟩))
  rcases h' with h'|h'
  ·exact .inl (by omega)
  ·rcases hi with ⟨_,hp⟩|⟨e,_⟩
   ·exact .inr hp
   ·omega
theorem YX {n:Int} (hn:n=WE 0 (s.drop i)) (hd:∀ b∈s.drop i,b∈digs) (h1:1≤(s.length:Int)-(i:Int)) (h2:(s.length:Int)-(i:Int)≤4) (h3:¬ ((((s.getD i 0).toNat:Nat):Int)=48∧(1<(s.length:Int)-(i:Int)∨i=1))) :
  qI s=(if i=1 then 0-n else n,true):=by
 have hl:(s.drop i).length=s.length-i:=List.length_drop
 have h0:s.drop i≠[]:=fun c=>by rw [c] at hl;simp at hl;omega
 have hv:=qgw h0 hd (by omega)
 rw [hv] at hn
 subst hn
 have hno:¬ Zy (Lib.hasPrefix s [45]) (s.drop i):=by
  unfold Zy
  rw [hl,ZN]
  rintro (h|h|⟨h,h'⟩|h)
  ·exact h0 h
  ·omega
  ·refine h3 ⟨by omega,?_⟩
   rcases h' with h'|h'
   ·exact .inl (by omega)
   ·rcases hi with ⟨e,_⟩|⟨_,hp⟩
    ·exact .inr e
    ·rw [hp] at h';cases h'
  ·exact h (trim_none hd)
 rcases hi with ⟨rfl,hp⟩|⟨rfl,hp⟩
 ·rw [qjt hno hp,if_pos rfl]
 ·rw [qen hno (by rw [hp];decide)];rfl
end
theorem num_bd2 {s:List UInt8} {i:Nat} {n:Int} (hn:n=WE 0 (s.drop i)) (hd:∀ b∈s.drop i,b∈digs) (h1:1≤(s.length:Int)-(i:Int)) (h2:(s.length:Int)-(i:Int)≤4):0≤n∧n≤9999:=by
 have hl:(s.drop i).length=s.length-i:=List.length_drop
 have h0:s.drop i≠[]:=fun c=>by rw [c] at hl;simp at hl;omega
 rw [qgw h0 hd (by omega)] at hn
 obtain ⟨u,h3,h4⟩:=qbt h0 hd
 have h5:(10:Nat) ^ (s.drop i).length≤10 ^ 4:=Nat.pow_le_pow_right (by decide) (by omega)
 have:yG (s.drop i)=(u:Int):=by unfold yG;rw [h3];rfl
 omega

/-! ### names of intervals -/
theorem qep (s h:Int):h-white s=vP s h:=by unfold white vP;omega
theorem zS {s:Int} (h:s % 7=0∨s % 7=3∨s % 7=4):zN s=true:=decide_eq_true h
theorem wP {s:Int} (h:¬ (s % 7=0∨s % 7=3∨s % 7=4)):¬ zN s=true:=by rw [show zN s=false from decide_eq_false h];decide
section
variable {p:Bool} {m:Int}
theorem q_up (h:0<m) (h1:m≤6):vz p m=Lib.repeatL [65] m.toNat:=by rw [QR h,show min m 7=m from by omega]
theorem q_dn (h:m<0) (h1 : -6≤m) (hp:p=true):vz p m=Lib.repeatL [100] (0-m).toNat:=by rw [YJ (by omega) (by omega) hp,show min (0-m) 7=0-m from by omega]
theorem q_dn2 (h:m < -1) (h1 : -7≤m) (hp:¬ p=true):vz p m=Lib.repeatL [100] (0-m-1).toNat:=by rw [QS (by omega) (by omega) hp (by omega),show min (0-m-1) 7=0-m-1 from by omega]
theorem q_far (h:6<m∨(p=true∧m < -6)∨(¬ p=true∧m < -7)):(6:Int)<((vz p m).length:Int):=by
 rcases h with h|⟨hp,h⟩|⟨hp,h⟩
 ·rw [QR (by omega),yH];omega
 ·rw [YJ (by omega) (by omega) hp,yH];omega
 ·rw [QS (by omega) (by omega) hp (by omega),yH];omega
end
theorem vv {c:UInt8} {k:Nat} (h:1≤k):¬ Lib.repeatL [c] k=[]:=fun e=>by
 have:=yH c k
 rw [e] at this;simp at this;omega
theorem zq {s h:Int} (hw:withinB s h=true) (hn:¬ (s<0∨(s=0∧h<0))) (h1:6<vP s h∨(zN s=true∧vP s h < -6)∨(¬ zN s=true∧vP s h < -7)):qG s h=([],3) :=
 yI hw hn (vX rfl (q_far h1))
theorem zk {s h:Int} {q:List UInt8} (hw:withinB s h=true) (hn:¬ (s<0∨(s=0∧h<0))) (hq:vz (zN s) (vP s h)=q) (hl:q.length≤6):qG s h=(q++Lib.itoa (s+1),0) :=
 yI hw hn (yL hq (by omega))
theorem qdq {s h:Int} (hw:withinB s h=true):withinB (0-s) (0-h)=true:=by
 rw [withinB_iff] at hw ⊢;omega
theorem qct {s h:Int} (hw:withinB s h=true) (hn:s<0∨(s=0∧h<0)) (h1:(qG (0-s) (0-h)).2=0):qG s h=([45]++(qG (0-s) (0-h)).1,0):=by
 have e:=yI (qdq hw) (by omega:¬ (0-s<0∨(0-s=0∧0-h<0))) rfl
 rw [e] at h1 ⊢
 rw [yO hw hn rfl]
 unfold Yq at h1 ⊢
 split
 ·rename_i c;rw [if_pos c] at h1;exact absurd h1 (by decide)
 ·rfl
theorem qcu {s h:Int} (hw:withinB s h=true) (hn:s<0∨(s=0∧h<0)) (h1:¬ (qG (0-s) (0-h)).2=0):qG s h=([],(qG (0-s) (0-h)).2):=by
 have e:=yI (qdq hw) (by omega:¬ (0-s<0∨(0-s=0∧0-h<0))) rfl
 rw [e] at h1 ⊢
 rw [yO hw hn rfl]
 unfold Yq at h1 ⊢
 split
 ·rfl
 ·rename_i c;rw [if_neg c] at h1;exact absurd rfl h1
theorem name_short (s h:Int):(qG s h).1.length≤100:=by
 by_cases hw:Pi.withinB s h=true
 ·have hb:=Pi.withinB_iff.1 hw
  have key:∀ mn x y,mn.length≤1 → -1≤x→x≤500→(Yq mn x y).1.length≤100:=fun mn x y h1 h2 h3=>by
   unfold Yq
   split
   ·decide
   ·have h4:=qual_len (zN x) (vP x y)
    have h5:=zW (o:=x+1) (by omega) (by omega)
    simp only [List.length_append]
    omega
  by_cases hn:s<0∨(s=0∧h<0)
  ·rw [yO hw hn rfl];exact key _ _ _ (by decide) (by omega) (by omega)
  ·rw [yI hw hn rfl];exact key _ _ _ (by decide) (by omega) (by omega)
 ·rw [qbk hw];decide
abbrev Pt:=Int × Int × Int
abbrev Cl:=Int × Int
def ptC (p:Pt):List PV:=[iv p.1,iv p.2.1,iv p.2.2]
def wA (l:List Pt):List PV:=l.flatMap ptC
def dPt:Pt:=(0,0,0)
def cl (p:Pt):Cl:=(p.1,p.2.1)
/-! ### the notes of a chord -/
/-! ### what chord it is -/
/-! ### classes -/
/-! ### signs -/
def sgT:Nat→List UInt8
 | 0=>[226,153,175] | 1=>[35] | 2=>[240,157,132,170] | 3=>[120] | 4=>[226,153,173] | 5=>[98] | 6=>[240,157,132,171] | _=>[]
def byT:Nat→Int
 | 0=>1 | 1=>1 | 2=>2 | 3=>2 | 4 => -1 | 5 => -1 | 6 => -2 | _=>0
theorem pre_ex {l t:List UInt8} (h:Lib.hasPrefix l t=true):∃ r,l=t++r:=by
 unfold Lib.hasPrefix at h
 obtain ⟨r,hr⟩:=List.isPrefixOf_iff_prefix.1 h
 exact ⟨r,hr.symm⟩
theorem qhq (t r:List UInt8):Lib.hasPrefix (t++r) t=true:=by
 unfold Lib.hasPrefix
 exact List.isPrefixOf_iff_prefix.2 ⟨r,rfl⟩
theorem sg_at {q:Nat} (hq:q<7) {l:List UInt8} (h:Lib.hasPrefix l (sgT q)=true):zZ (zU l:Int)=(byT q,true)∧zj l=(sgT q).length:=by
 obtain ⟨r,rfl⟩:=pre_ex h
 have hc:q=0∨q=1∨q=2∨q=3∨q=4∨q=5∨q=6:=by omega
 rcases hc with rfl|rfl|rfl|rfl|rfl|rfl|rfl
 ·obtain ⟨d1,d2⟩:=qgv (c:=175) (r:=r) (by decide) (by decide)
  exact ⟨by show zZ (zU (226 :: 153 :: 175 :: r):Int)=_;rw [d1];decide,d2⟩
 ·obtain ⟨d1,d2⟩:=qcp (b:=35) (r:=r) (by decide)
  exact ⟨by show zZ (zU (35 :: r):Int)=_;rw [d1];decide,d2⟩
 ·obtain ⟨d1,d2⟩:=qku (c:=170) (r:=r) (by decide) (by decide)
  exact ⟨by show zZ (zU (240 :: 157 :: 132 :: 170 :: r):Int)=_;rw [d1];decide,d2⟩
 ·obtain ⟨d1,d2⟩:=qcp (b:=120) (r:=r) (by decide)
  exact ⟨by show zZ (zU (120 :: r):Int)=_;rw [d1];decide,d2⟩
 ·obtain ⟨d1,d2⟩:=qgv (c:=173) (r:=r) (by decide) (by decide)
  exact ⟨by show zZ (zU (226 :: 153 :: 173 :: r):Int)=_;rw [d1];decide,d2⟩
 ·obtain ⟨d1,d2⟩:=qcp (b:=98) (r:=r) (by decide)
  exact ⟨by show zZ (zU (98 :: r):Int)=_;rw [d1];decide,d2⟩
 ·obtain ⟨d1,d2⟩:=qku (c:=171) (r:=r) (by decide) (by decide)
  exact ⟨by show zZ (zU (240 :: 157 :: 132 :: 171 :: r):Int)=_;rw [d1];decide,d2⟩
theorem dec_inv {l:List UInt8} (h:l≠[]) (hc:zU l≠65533) :
  (zU l=(l.getD 0 0).toNat)∨(128≤zU l∧zU l<2048) ∨
  (3≤l.length∧2048≤zU l∧zU l<65536∧(l.getD 0 0).toNat=224+zU l / 4096∧(l.getD 1 0).toNat=128+zU l / 64 % 64∧(l.getD 2 0).toNat=128+zU l % 64) ∨
  (4≤l.length∧65536≤zU l∧(l.getD 0 0).toNat=240+zU l / 262144∧(l.getD 1 0).toNat=128+zU l / 4096 % 64∧(l.getD 2 0).toNat=128+zU l / 64 % 64∧(l.getD 3 0).toNat=128+zU l % 64):=by
 have hs:(st l).size≠0:=by
  intro e
  exact h (List.length_eq_zero_iff.1 e)
 have hl:(st l).size=l.length:=rfl
 obtain ⟨d,hd⟩:∃ d,d=zU l:=⟨_,rfl⟩
 rw [← hd] at hc ⊢
 have e:d=(Utf8.decode (st l) 0).1:=by rw [hd];unfold zU Lib.decodeGo;rw [if_neg hs]
 clear hd
 unfold Utf8.decode at e
 dsimp only at e
 simp only [qhg,hl,Nat.zero_add] at e
 have k0:=(l.getD 0 0).toNat_lt
 have k1:=(l.getD 1 0).toNat_lt
 have k2:=(l.getD 2 0).toNat_lt
 have k3:=(l.getD 3 0).toNat_lt
 have hre:Utf8.runeError=65533:=rfl
 split at e
 ·exact .inl e
 ·split at e
  ·rename_i c1 c2
   simp only [Bool.and_eq_true,decide_eq_true_eq,beq_iff_eq] at c2
   split at e
   ·refine .inr (.inl ?_)
    dsimp only at e
    omega
   ·exact absurd e hc
  ·split at e
   ·rename_i c1 c2 c3
    simp only [Bool.and_eq_true,decide_eq_true_eq,beq_iff_eq] at c3
    split at e
    ·rename_i c4
     simp only [Bool.and_eq_true,decide_eq_true_eq] at c4
     refine .inr (.inr (.inl ?_))
     dsimp only at e
     omega
    ·exact absurd e hc
   ·split at e
    ·rename_i c1 c2 c3 c5
     simp only [Bool.and_eq_true,decide_eq_true_eq,beq_iff_eq] at c5
     split at e
     ·rename_i c4
      simp only [Bool.and_eq_true,decide_eq_true_eq] at c4
      refine .inr (.inr (.inr ?_))
      dsimp only at e
      omega
     ·exact absurd e hc
    ·exact absurd e hc
theorem qhp {l:List UInt8} {x:UInt8} (h:l≠[]) (h0:(l.getD 0 0).toNat=x.toNat):Lib.hasPrefix l [x]=true:=by
 cases l with
 | nil=>exact absurd rfl h
 | cons a r =>
  have:a=x:=UInt8.toNat_inj.1 h0
  subst this
  exact qhq [a] r
theorem qgf {l:List UInt8} {x y z:UInt8} (h:3≤l.length) (h0:(l.getD 0 0).toNat=x.toNat) (h1:(l.getD 1 0).toNat=y.toNat) (h2:(l.getD 2 0).toNat=z.toNat):Lib.hasPrefix l [x,y,z]=true:=by
 match l,h with
 | a :: b :: c :: r,_ =>
  have e0:a=x:=UInt8.toNat_inj.1 h0
  have e1:b=y:=UInt8.toNat_inj.1 h1
  have e2:c=z:=UInt8.toNat_inj.1 h2
  subst e0 e1 e2
  exact qhq [a,b,c] r
theorem qjl {l:List UInt8} {x y z u:UInt8} (h:4≤l.length) (h0:(l.getD 0 0).toNat=x.toNat) (h1:(l.getD 1 0).toNat=y.toNat) (h2:(l.getD 2 0).toNat=z.toNat) (h3:(l.getD 3 0).toNat=u.toNat):Lib.hasPrefix l [x,y,z,u]=true:=by
 match l,h with
 | a :: b :: c :: d :: r,_ =>
  have e0:a=x:=UInt8.toNat_inj.1 h0
  have e1:b=y:=UInt8.toNat_inj.1 h1
  have e2:c=z:=UInt8.toNat_inj.1 h2
  have e3:d=u:=UInt8.toNat_inj.1 h3
  subst e0 e1 e2 e3
  exact qhq [a,b,c,d] r
theorem sign_runes {r:Nat} (h:(zZ (r:Int)).2=true):r=9839∨r=35∨r=119082∨r=120∨r=9837∨r=98∨r=119083:=by
 unfold zZ at h
 split at h
 ·omega
 ·split at h
  ·omega
  ·split at h
   ·omega
   ·split at h
    ·omega
    ·cases h
theorem sg_some {l:List UInt8} (h:(zZ (zU l:Int)).2=true):∃ q,q<7∧Lib.hasPrefix l (sgT q)=true:=by
 have hne:=(WP h).1
 have hr:=sign_runes h
 rcases dec_inv hne (by omega) with e|e|⟨e1,e2,e3,e4,e5,e6⟩|⟨e1,e2,e4,e5,e6,e7⟩
 ·have h8:=(l.getD 0 0).toNat_lt
  rcases hr with hr|hr|hr|hr|hr|hr|hr
  ·omega
  ·exact ⟨1,by decide,qhp hne (by rw [← e,hr];rfl)⟩
  ·omega
  ·exact ⟨3,by decide,qhp hne (by rw [← e,hr];rfl)⟩
  ·omega
  ·exact ⟨5,by decide,qhp hne (by rw [← e,hr];rfl)⟩
  ·omega
 ·omega
 ·rcases hr with hr|hr|hr|hr|hr|hr|hr
  ·exact ⟨0,by decide,qgf e1 (by rw [e4,hr];rfl) (by rw [e5,hr];rfl) (by rw [e6,hr];rfl)⟩
  ·omega
  ·omega
  ·omega
  ·exact ⟨4,by decide,qgf e1 (by rw [e4,hr];rfl) (by rw [e5,hr];rfl) (by rw [e6,hr];rfl)⟩
  ·omega
  ·omega
 ·rcases hr with hr|hr|hr|hr|hr|hr|hr
  ·omega
  ·omega
  ·exact ⟨2,by decide,qjl e1 (by rw [e4,hr];rfl) (by rw [e5,hr];rfl) (by rw [e6,hr];rfl) (by rw [e7,hr];rfl)⟩
  ·omega
  ·omega
  ·omega
  ·exact ⟨6,by decide,qjl e1 (by rw [e4,hr];rfl) (by rw [e5,hr];rfl) (by rw [e6,hr];rfl) (by rw [e7,hr];rfl)⟩
theorem sg_none {l:List UInt8} (h:∀ j,j<7→Lib.hasPrefix l (sgT j)=false) (a:Int) (n:Nat):vK l a n=(true,a,n) :=
 VC fun c=>by
  obtain ⟨q,h1,h2⟩:=sg_some c
  rw [h q h1] at h2;cases h2
section
variable {s:List UInt8} {q n:Nat} {a:Int} (hq:q<7) (h:Lib.hasPrefix (s.drop n) (sgT q)=true)
include hq h
theorem jq (hb:(a+byT q)*byT q<0∨3<max (a+byT q) (0-(a+byT q))):vK (s.drop n) a n=(false,a+byT q,n):=by
 obtain ⟨h1,h2⟩:=sg_at hq h
 have:=qai (l:=s.drop n) (a:=a) (n:=n) (by rw [h1]) (by rw [h1];exact hb)
 rw [h1] at this;exact this
theorem qea (hb:¬ ((a+byT q)*byT q<0∨3<max (a+byT q) (0-(a+byT q)))):vK (s.drop n) a n=vK (s.drop (n+(sgT q).length)) (a+byT q) (n+(sgT q).length):=by
 obtain ⟨h1,h2⟩:=sg_at hq h
 have:=qga (l:=s.drop n) (a:=a) (n:=n) (by rw [h1]) (by rw [h1];exact hb)
 rw [h1,h2,List.drop_drop] at this;exact this
end
theorem ZR {s t:List UInt8} {n:Nat} (ht:1≤t.length) (h:Lib.hasPrefix (s.drop n) t=true):n+t.length≤s.length:=by
 have h0:t≠[]:=by rintro rfl;simp at ht
 exact ((qah h0).2 h).1

/-! ### letters -/
def wM:Nat→List UInt8→Int
 | 0,_ => -1
 | k+1,s=>if Lib.hasPrefix s ((letB.drop k).take 1)=true then (k:Int) else wM k s
theorem qkb:∀ k s,-1≤wM k s∧wM k s<(k:Int)+1
 | 0,_=>by unfold wM;omega
 | k+1,s=>by
  unfold wM
  have:=qkb k s
  split <;> omega
theorem qan:∀ k:Fin 7,∃ x,(letB.drop k.1).take 1=[x]:=fun k=>⟨_,(letter_at0 k).1⟩
theorem qgl:∀ k,k≤7→wM k [] = -1
 | 0,_=>rfl
 | k+1,h=>by
  obtain ⟨x,hx⟩:=qan ⟨k,by omega⟩
  unfold wM
  rw [show (letB.drop k).take 1=[x] from hx,if_neg (by intro c;cases c)]
  exact qgl k (by omega)
theorem qap (c:UInt8) (r:List UInt8):∀ k,k≤7→wM k (c :: r)=wM k [c]
 | 0,_=>rfl
 | k+1,h=>by
  obtain ⟨x,hx⟩:=qan ⟨k,by omega⟩
  unfold wM
  rw [show (letB.drop k).take 1=[x] from hx,qap c r k (by omega)]
  rfl
theorem qet (c:UInt8):wM 7 [c]=Lib.indexByte letB c:=by
 have:∀ k:Fin 256,wM 7 [UInt8.ofNat k.1]=Lib.indexByte letB (UInt8.ofNat k.1):=by decide +kernel
 have e:=this ⟨c.toNat,c.toNat_lt⟩
 simpa using e
theorem lastL_neg {s:List UInt8} (h:wM 7 s<0):s=[]∨¬ 0≤Lib.indexByte letB (s.getD 0 0):=by
 cases s with
 | nil=>exact .inl rfl
 | cons c r =>
  rw [qap c r 7 (by decide),qet] at h
  exact .inr (by show ¬ 0≤Lib.indexByte letB c;omega)
theorem lastL_pos {s:List UInt8} (h:¬ wM 7 s<0):¬ s=[]∧0≤Lib.indexByte letB (s.getD 0 0)∧wM 7 s=Lib.indexByte letB (s.getD 0 0):=by
 cases s with
 | nil=>rw [qgl 7 (by decide)] at h;omega
 | cons c r =>
  rw [qap c r 7 (by decide),qet] at h ⊢
  exact ⟨by simp,by show 0≤Lib.indexByte letB c;omega,rfl⟩

/-! ### names -/
theorem YN {b:UInt8} (h:(((b.toNat:Nat):Int)=80∨(b.toNat:Int)=77∨(b.toNat:Int)=109∨(b.toNat:Int)=65∨(b.toNat:Int)=100)):b∈quals:=by
 have key:∀ x:UInt8,b.toNat=x.toNat→x∈quals→b∈quals:=fun x e hx=>by rw [UInt8.toNat_inj.1 e];exact hx
 rcases h with h|h|h|h|h
 ·exact key 80 (by have:(80:UInt8).toNat=80:=rfl;omega) (by decide)
 ·exact key 77 (by have:(77:UInt8).toNat=77:=rfl;omega) (by decide)
 ·exact key 109 (by have:(109:UInt8).toNat=109:=rfl;omega) (by decide)
 ·exact key 65 (by have:(65:UInt8).toNat=65:=rfl;omega) (by decide)
 ·exact key 100 (by have:(100:UInt8).toNat=100:=rfl;omega) (by decide)
theorem noqual {b:UInt8} (h1:¬ (b.toNat:Int)=80) (h2:¬ (b.toNat:Int)=77) (h3:¬ (b.toNat:Int)=109) (h4:¬ (b.toNat:Int)=65) (h5:¬ (b.toNat:Int)=100):b ∉ quals:=by
 intro h
 have:∀ b∈quals,b.toNat=80∨b.toNat=77∨b.toNat=109∨b.toNat=65∨b.toNat=100:=by decide
 have:=this b h
 omega
theorem tOf_i {s:List UInt8} {i:Nat} (h:(i=1∧Lib.hasPrefix s [45]=true)∨(i=0∧Lib.hasPrefix s [45]=false)):wv s=s.drop i∧(i≤s.length)∧((wv s).length<s.length↔i=1):=by
 unfold wv Lib.trimPrefix
 rcases h with ⟨rfl,h⟩|⟨rfl,h⟩
 ·rw [if_pos h]
  have:=pre_len h
  refine ⟨rfl,this,?_⟩
  show (s.drop 1).length<s.length↔_
  rw [List.length_drop];omega
 ·rw [if_neg (by rw [h];decide)]
  exact ⟨rfl,by omega,by omega⟩
theorem qaz {s:List UInt8} {i n:Nat} (hi:(i=1∧Lib.hasPrefix s [45]=true)∨(i=0∧Lib.hasPrefix s [45]=false)) (h1:i≤n) (h2:n≤s.length) (hq:∀ b∈(s.take n).drop i,b∈quals) (he:n<s.length→s.getD n 0 ∉ quals) :
  qz s=s.drop n∧((zL s).length=n-i):=by
 obtain ⟨ht,hl,_⟩:=tOf_i hi
 have hd:qz s=s.drop n:=by
  unfold qz
  rw [ht,Lib.trimLeftS_drop (s.drop i) quals (n-i) (by rw [List.length_drop];omega) ?_ ?_,List.drop_drop,show i+(n-i)=n from by omega]
  ·intro j b hj hb
   have:b∈(s.take n).drop i:=by
    rw [List.getElem?_drop] at hb
    have h3:(s.take n)[i+j]? = some b:=by rw [List.getElem?_take,if_pos (by omega)];exact hb
    rw [← List.getElem?_drop] at h3
    exact List.mem_of_getElem? h3
   simpa using hq b this
  ·intro b hb
   rw [List.getElem?_drop,show i+(n-i)=n from by omega] at hb
   have hn:n<s.length:=by
    rcases Nat.lt_or_ge n s.length with c|c
    ·exact c
    ·rw [List.getElem?_eq_none c] at hb;cases hb
   have:s.getD n 0=b:=by rw [List.getD_eq_getElem?_getD,hb];rfl
   have h4:=he hn
   rw [this] at h4
   simpa using h4
 refine ⟨hd,?_⟩
 unfold zL
 rw [hd,ht,List.length_take,List.length_drop,List.length_drop]
 omega
theorem YA {s:List UInt8} {x y:Int} (h1:(qG x y).2=0) (h2:(qG x y).1=s):qY s=((x,y),0):=by rw [← h2];exact named_name h1
theorem VJ {s:List UInt8} {i:Nat} {n:Int} (hi:(i=1∧Lib.hasPrefix s [45]=true)∨(i=0∧Lib.hasPrefix s [45]=false)) (hn:(qI (qz s)).1=n) (h1:(qI (qz s)).2=true) (h2:¬ n<1) (h3:¬ zL s=[]) (h4:¬ 201<n) (h5:(zL s).length≤6)
  (hm:∀ m:Int,-7≤m→m≤6→¬ ((qG (if i=1 then 0-(n-1) else n-1) (if i=1 then 0-(white (n-1)+m) else white (n-1)+m)).2=0∧(qG (if i=1 then 0-(n-1) else n-1) (if i=1 then 0-(white (n-1)+m) else white (n-1)+m)).1=s)):qY s=((0,0),2):=by
 obtain ⟨_,_,ht⟩:=tOf_i hi
 have hst:qU s=n-1:=by unfold qU;rw [hn]
 cases hv:jj (zN (qU s)) (zL s) with
 | none=>exact QI h1 (by rw [hn];exact h2) h3 (by rw [hst];omega) (by omega) hv
 | some m =>
  rw [qM h1 (by rw [hn];exact h2) h3 (by rw [hst];omega) (by omega) hv rfl]
  obtain ⟨j,hj⟩:∃ j,j=vZ s m:=⟨_,rfl⟩
  have hj2:j=(if i=1 then 0-(n-1) else n-1,if i=1 then 0-(white (n-1)+m) else white (n-1)+m):=by
   rw [hj];unfold vZ white
   rw [hst]
   by_cases hc:i=1
   ·rw [if_pos (ht.2 hc),if_pos hc,if_pos hc]
   ·rw [if_neg (fun c=>hc (ht.1 c)),if_neg hc,if_neg hc]
  rw [← hj]
  unfold checked
  by_cases hok:(qG j.1 j.2).2=0∧(qG j.1 j.2).1=s
  ·exfalso
   have hv2:zL s≠[]:=h3
   -- what it adds is small: by its length
   have hmb : -7≤m∧m≤6:=by
    unfold jj at hv
    split at hv
    ·cases hv;omega
    ·split at hv
     ·cases hv;omega
     ·split at hv
      ·cases hv;omega
      ·split at hv
       ·cases hv;omega
       ·split at hv
        ·cases hv;omega
        ·cases hv
   rw [hj2] at hok
   exact hm m hmb.1 hmb.2 hok
  ·rw [if_neg hok]
abbrev zX:=List UInt8
inductive It where
 | mk (k s:Int) (ps:List Pt) (b:Int × Int) (ly:zX) (ks:List It)
def iK:It→Int | .mk k _ _ _ _ _=>k
def iS:It→Int | .mk _ s _ _ _ _=>s
def iP:It→List Pt | .mk _ _ ps _ _ _=>ps
def iB:It→Int × Int | .mk _ _ _ b _ _=>b
def iL:It→zX | .mk _ _ _ _ ly _=>ly
def iC:It→List It | .mk _ _ _ _ _ ks=>ks
abbrev zQ:It:=.mk 0 0 [] (0,0) [] []
mutual
def ic:It→List PV
 | .mk _ _ _ _ _ ks=>zP ks
def zP:List It→List PV
 | []=>[]
 | x :: l=>iv (iK x) :: iv (iS x) :: .ssl (wA (iP x)) 0 (iP x).length :: iv (iB x).1 :: iv (iB x).2 :: sv (st (iL x)) :: .ssl (ic x) 0 (iC x).length :: zP l
end
def gI (x:It):List PV:=[iv (iK x),iv (iS x),.ssl (wA (iP x)) 0 (iP x).length,iv (iB x).1,iv (iB x).2,sv (st (iL x)),.ssl (zP (iC x)) 0 (iC x).length]
theorem ic_ics (x:It):ic x=zP (iC x):=by cases x with|mk k s ps b ly ks=>rw [ic];rfl
theorem Yj:∀ l:List It,zP l=l.flatMap gI
 | []=>by simp [zP]
 | x :: l=>by rw [zP,Yj l,List.flatMap_cons,ic_ics];rfl
theorem ics_at (l:List It) (k j m:Nat) (hk:k<l.length) (hj:j+m≤7):k*7+j+m≤(zP l).length∧((zP l).drop (k*7+j)).take m=((gI (l.getD k zQ)).drop j).take m:=by
 rw [Yj]
 exact jJ gI 7 (fun _=>rfl) zQ l k j m hk hj
theorem gI_shd (x:It):(gI x).all PV.shd=true:=by unfold gI;rfl
theorem yA (l:List It):YW (zP l):=by rw [Yj];exact qbp gI gI_shd _
theorem el_lt {l:List It} {i:Nat} (h:i<l.length):SizeOf.sizeOf (l.getD i zQ)<SizeOf.sizeOf l:=by
 rw [List.getD_eq_getElem?_getD,List.getElem?_eq_getElem h]
 exact List.sizeOf_lt_of_mem (List.getElem_mem h)
theorem kids_lt' (x:It):SizeOf.sizeOf (iC x)<SizeOf.sizeOf x:=by
 cases x with|mk k s ps b ly ks=>simp only [iC,It.mk.sizeOf_spec];omega
abbrev Br:=Int × Int × List It
def brC (b:Br):List PV:=[iv b.1,iv b.2.1,.ssl (zP b.2.2) 0 b.2.2.length]
def yU (l:List Br):List PV:=l.flatMap brC
abbrev ZG:Br:=(0,0,[])
abbrev Vo:=zX × List Br
def voC (v:Vo):List PV:=[sv (st v.1),.ssl (yU v.2) 0 v.2.length]
def yD (l:List Vo):List PV:=l.flatMap voC
abbrev vS:Vo:=([],[])
theorem yj (l:List Br):YW (yU l):=qbp brC (fun _=>rfl) l
theorem yP (l:List Vo):YW (yD l):=qbp voC (fun _=>rfl) l

/-! ### names and lyrics -/
def abc:List UInt8:=[97,98,99,100,101,102,103,104,105,106,107,108,109,110,111,112,113,114,115,116,117,118,119,120,121,122]
theorem trim_nil {t cs:List UInt8}:Lib.trimS t cs=[]↔∀ b∈t,b∈cs:=by
 unfold Lib.trimS Lib.trimLeftS Lib.trimRightS
 constructor
 ·intro h
  replace h:=YP h
  intro b hb
  have hb':b∈t.reverse:=by simpa using hb
  rw [← List.takeWhile_append_dropWhile (p:=fun x=>cs.contains x) (l:=t.reverse),List.mem_append] at hb'
  rcases hb' with hb'|hb'
  ·have:=YI b hb'
   simpa using this
  ·have:=h b (by simpa using hb')
   simpa using this
 ·intro h
  have key:∀ l:List UInt8,(∀ b∈l,b∈cs)→l.dropWhile (cs.contains ·)=[]:=by
   intro l hl
   induction l with
   | nil=>rfl
   | cons a l ih=>rw [List.dropWhile_cons_of_pos (by simpa using hl a (by simp))];exact ih fun b hb=>hl b (by simp [hb])
  rw [key t.reverse fun b hb=>h b (by simpa using hb)]
  rfl
theorem abc_ascii:∀ (j:Nat) b,abc[j]? = some b→b.toNat<128:=by
 intro j b h
 have:∀ b∈abc,b.toNat<128:=by decide
 exact this b (List.mem_of_getElem? h)
def jF (s:zX):Bool:=decide (s≠[]∧s.length≤32∧∀ b∈s,b∈abc)
def vj (r l:Int):Bool:=decide (32≤r∧r≠34∧r≠127∧(r≠65533∨1<l))
/-! ### what is wrong -/
mutual
def szI:It→Prop
 | .mk _ _ ps _ _ ks=>ps.length≤140737488351232∧ks.length≤140737488351232∧szL ks
def szL:List It→Prop
 | []=>True
 | x :: l=>szI x∧szL l
end
theorem qag (x:It):szI x↔((iP x).length≤140737488351232∧(iC x).length≤140737488351232∧szL (iC x)):=by
 cases x with|mk k s ps b ly ks=>rw [szI];rfl
theorem sz_at:∀ {l:List It} {i:Nat},szL l→i<l.length→szI (l.getD i zQ)
 | [],_,_,h=>absurd h (Nat.not_lt_zero _)
 | x :: l,0,h,_=>by rw [szL] at h;exact h.1
 | x :: l,i+1,h,hi=>by
  rw [szL] at h
  have:=sz_at (l:=l) (i:=i) h.2 (by simpa using hi)
  simpa using this
theorem qax:∀ {l:List It} {x:It},szL l→szI x→szL (l++[x])
 | [],x,_,hx=>by rw [List.nil_append,szL,szL];exact ⟨hx,trivial⟩
 | y :: l,x,h,hx=>by
  rw [szL] at h
  rw [List.cons_append,szL]
  exact ⟨h.1,qax h.2 hx⟩
def szB (b:Br):Prop:=b.2.2.length≤140737488351232∧szL b.2.2
def szV (v:Vo):Prop:=v.2.length≤140737488351232∧∀ j,j<v.2.length→szB (v.2.getD j ZG)
def szVs (l:List Vo):Prop:=l.length≤140737488351232∧∀ i,i<l.length→szV (l.getD i vS)
def YV:zX→Nat
 | []=>0
 | b :: l=>if b.toNat=32∨b.toNat=10 then YV l+1 else 0
def qA (s:zX) (a:Nat):Nat:=a+YV (s.drop a)
theorem skip_le:∀ l:zX,YV l≤l.length
 | []=>Nat.le_refl _
 | b :: l=>by
  have:=skip_le l
  unfold YV
  split <;> simp <;> omega
theorem qfz:∀ l:zX,YV (l.drop (YV l))=0
 | []=>rfl
 | b :: l=>by
  by_cases h:b.toNat=32∨b.toNat=10
  ·have e:YV (b :: l)=YV l+1:=by rw [YV,if_pos h]
   rw [e,List.drop_succ_cons];exact qfz l
  ·have e:YV (b :: l)=0:=by rw [YV,if_neg h]
   rw [e,List.drop_zero,e]
theorem zR {s:zX} {a:Nat} (h:a≤s.length):qA s a≤s.length:=by
 have:=skip_le (s.drop a)
 rw [List.length_drop] at this
 unfold qA
 omega
theorem vH (s:zX) (a:Nat):a≤qA s a:=Nat.le_add_right _ _
theorem Wz {s:zX} {a:Nat} (h:a<s.length):s.drop a=s.getD a 0 :: s.drop (a+1):=by
 rw [List.drop_eq_getElem_cons h,List.getD_eq_getElem?_getD,List.getElem?_eq_getElem h];rfl
theorem qdn {s:zX} {a:Nat} (h:a<s.length) (hb:(s.getD a 0).toNat=32∨(s.getD a 0).toNat=10):qA s a=qA s (a+1):=by
 unfold qA
 rw [Wz h,YV,if_pos hb]
 omega
theorem gap_no {s:zX} {a:Nat} (hb:¬ ((s.getD a 0).toNat=32∨(s.getD a 0).toNat=10)):qA s a=a:=by
 unfold qA
 by_cases h:a<s.length
 ·rw [Wz h,YV,if_neg hb];rfl
 ·rw [List.drop_eq_nil_of_le (by omega)];rfl
theorem gap_end {s:zX} {a:Nat} (h:¬ a<s.length):qA s a=a:=by
 unfold qA
 rw [List.drop_eq_nil_of_le (by omega)];rfl
theorem vG (s:zX) (a:Nat):qA s (qA s a)=qA s a:=by
 have h:=qfz (s.drop a)
 rw [List.drop_drop] at h
 unfold qA
 rw [h];rfl
def sgn:zX:=[32,10,124,47,60,62,126,91,93,42,34]
def qC (s:zX) (a:Nat):zX:=(s.drop (qA s a)).takeWhile fun b=>!sgn.contains b
theorem qih:∀ l:zX,(Lib.indexAny l sgn<0→l.takeWhile (fun b=>!sgn.contains b)=l) ∧
  (0≤Lib.indexAny l sgn→(Lib.indexAny l sgn).toNat<l.length∧l.takeWhile (fun b=>!sgn.contains b)=l.take (Lib.indexAny l sgn).toNat)
 | []=>⟨fun _=>rfl,fun h=>by simp [Lib.indexAny] at h⟩
 | b :: l=>by
  have ih:=qih l
  have hg:=Lib.indexAny_ge sgn l
  unfold Lib.indexAny
  by_cases c:sgn.contains b=true
  ·rw [if_pos c]
   exact ⟨fun h=>by omega,fun _=>⟨by simp,by rw [List.takeWhile_cons];simp only [c,Bool.not_true,Bool.false_eq_true,if_false];rfl⟩⟩
  ·rw [if_neg c]
   have c':sgn.contains b=false:=by simpa using c
   have hc:(b :: l).takeWhile (fun b=>!sgn.contains b)=b :: l.takeWhile (fun b=>!sgn.contains b):=by
    rw [List.takeWhile_cons];simp only [c',Bool.not_false,if_true]
   rw [hc]
   by_cases e:Lib.indexAny l sgn = -1
   ·have e':(Lib.indexAny l sgn == -1)=true:=by simp [e]
    rw [if_pos e']
    exact ⟨fun _=>by rw [ih.1 (by omega)],fun h=>by omega⟩
   ·have e':¬ (Lib.indexAny l sgn == -1)=true:=by simp [e]
    rw [if_neg e']
    obtain ⟨h1,h2⟩:=ih.2 (by omega)
    refine ⟨fun h=>by omega,fun _=>⟨by simp;omega,?_⟩⟩
    rw [h2,show (Lib.indexAny l sgn+1).toNat=(Lib.indexAny l sgn).toNat+1 by omega,List.take_succ_cons]
theorem yV {s:zX} {a:Nat} (h:a≤s.length):qA s a+(qC s a).length≤s.length:=by
 have h1:=(List.takeWhile_prefix (fun b=>!sgn.contains b) (l:=s.drop (qA s a))).length_le
 have h2:=zR h
 rw [List.length_drop] at h1
 show qA s a+(List.takeWhile _ _).length≤_
 omega
theorem word_none {s:zX} {a:Nat} (h:Lib.indexAny (s.drop (qA s a)) sgn<0):qC s a=s.drop (qA s a):=(qih _).1 h
theorem word_cut {s:zX} {a:Nat} {i:Int} (hi:i=Lib.indexAny (s.drop (qA s a)) sgn) (h:0≤i):qA s a+i.toNat≤s.length∧(s.drop (qA s a)).take i.toNat=qC s a:=by
 subst hi
 have:=(qih (s.drop (qA s a))).2 h
 rw [List.length_drop] at this
 exact ⟨by omega,this.2.symm⟩
def qP (s:zX) (a:Nat) (c:Int):Bool:=decide (qA s a<s.length∧(((s.getD (qA s a) 0).toNat:Nat):Int)=c)
theorem zM {s:zX} {a:Nat} {c:Int} (h:qP s a c=true):qA s a<s.length:=(of_decide_eq_true h).1
def qE (s:zX) (a:Nat):Int × Int × Nat :=
 if qC s a=[] then (2,0,qA s a)
 else if Lib.trimS (qC s a) digs=[] then
  if 1<(qC s a).length∧((qC s a).getD 0 0).toNat=48 then (2,0,qA s a)
  else if 18<(qC s a).length then (3,0,qA s a)
  else if yG (qC s a)<1∨65536<yG (qC s a) then (3,0,qA s a)
  else (0,yG (qC s a),qA s a+(qC s a).length)
 else (2,0,qA s a)
theorem wK {s:zX} {a:Nat} (h:a≤s.length):qA s a≤(qE s a).2.2∧(qE s a).2.2≤s.length:=by
 have h1:=yV h
 have h2:=zR h
 unfold qE
 repeat' split
 all_goals first|exact ⟨Nat.le_refl _,h2⟩|exact ⟨Nat.le_add_right _ _,h1⟩
theorem qgb:∀ (l:zX) (a:Int) (n:Nat),n≤(vK l a n).2.2∧(vK l a n).2.2≤n+l.length:=by
 intro l
 induction hl:l.length using Nat.strongRecOn generalizing l with
 | ind m ih =>
  intro a n
  subst hl
  rw [vK]
  split
  ·rename_i h
   split
   ·exact ⟨Nat.le_refl _,Nat.le_add_right _ _⟩
   ·have hd:=QU l
    have:=ih (l.drop (zj l)).length (by rw [List.length_drop];omega) (l.drop (zj l)) rfl (a+(zZ (zU l)).1) (n+zj l)
    rw [List.length_drop] at this
    exact ⟨by omega,by omega⟩
  ·exact ⟨Nat.le_refl _,Nat.le_add_right _ _⟩
theorem qjd (w:zX):0≤(qW w).2.2∧(qW w).2.2≤(w.length:Int)+4:=by
 have hb:(vL w).2.2≤w.length+4:=by
  unfold vL
  split
  ·show 4≤_;omega
  ·have:=(qgb (w.drop 1) 0 1).2
   rw [List.length_drop] at this
   omega
 unfold qW
 repeat' split
 all_goals first|exact ⟨by show (0:Int)≤0;omega,by show (0:Int)≤_;omega⟩|exact ⟨by show (0:Int)≤((vL w).2.2:Int);omega,by show ((vL w).2.2:Int)≤_;omega⟩
def qJ (s:zX) (a:Nat):Int × Pt × Nat :=
 if (qW (qC s a)).2.1=0 then (0,(qW (qC s a)).1,qA s a+(qC s a).length) else ((qW (qC s a)).2.1,(0,0,0),qA s a+(qW (qC s a)).2.2.toNat)
theorem VE {s:zX} {a:Nat} (h:a≤s.length) (h0:(qJ s a).1=0):qA s a≤(qJ s a).2.2∧(qJ s a).2.2≤s.length:=by
 have h1:=yV h
 unfold qJ at h0 ⊢
 split at h0
 ·rename_i c
  rw [if_pos c]
  exact ⟨Nat.le_add_right _ _,h1⟩
 ·rename_i c
  exact absurd h0 c
def Qq (l:zX) (n:Nat):Int × Nat :=
 if zj l=1∧zU l=34∧0<n then (0,0)
 else if _h:vj (zU l) (zj l)=true∧1≤zj l∧1≤l.length then
  if n=100 then (4,0) else ((Qq (l.drop (zj l)) (n+1)).1,zj l+(Qq (l.drop (zj l)) (n+1)).2)
 else (2,0)
termination_by l.length
decreasing_by all_goals (rw [List.length_drop];omega)
def zA (s:zX) (a:Nat):Int × zX × Nat :=
 if qP s a 34=true then
  if (Qq (s.drop (qA s a+1)) 0).1=0 then (0,(s.drop (qA s a+1)).take (Qq (s.drop (qA s a+1)) 0).2,qA s a+1+(Qq (s.drop (qA s a+1)) 0).2+1)
  else ((Qq (s.drop (qA s a+1)) 0).1,[],qA s a+1+(Qq (s.drop (qA s a+1)) 0).2)
 else (0,[],qA s a)
theorem fair_nil:vj (zU []) (zj [])=false:=rfl
theorem jx {l:zX} (h:vj (zU l) (zj l)=true):1≤zj l∧1≤l.length:=by
 have hl:l≠[]:=fun e=>by subst e;rw [fair_nil] at h;cases h
 exact ⟨qkw hl,List.length_pos_iff.2 hl⟩
theorem qer {l:zX} {n:Nat} (h:zj l=1∧zU l=34∧0<n):Qq l n=(0,0):=by rw [Qq,if_pos h]
theorem ZT {l:zX} {n:Nat} (h:¬ (zj l=1∧zU l=34∧0<n)) (hf:¬ vj (zU l) (zj l)=true):Qq l n=(2,0):=by rw [Qq,if_neg h,dif_neg fun c=>hf c.1]
theorem QK {l:zX} {n:Nat} (h:¬ (zj l=1∧zU l=34∧0<n)) (hf:vj (zU l) (zj l)=true) (hn:n=100):Qq l n=(4,0):=by rw [Qq,if_neg h,dif_pos ⟨hf,jx hf⟩,if_pos hn]
theorem QJ {l:zX} {n:Nat} (h:¬ (zj l=1∧zU l=34∧0<n)) (hf:vj (zU l) (zj l)=true) (hn:¬ n=100):Qq l n=((Qq (l.drop (zj l)) (n+1)).1,zj l+(Qq (l.drop (zj l)) (n+1)).2):=by
 rw [Qq,if_neg h,dif_pos ⟨hf,jx hf⟩,if_neg hn]
theorem lyrL_le:∀ (l:zX) (n:Nat),(Qq l n).2≤l.length∧((Qq l n).1=0→(Qq l n).2<l.length):=by
 intro l
 induction hl:l.length using Nat.strongRecOn generalizing l with
 | ind m ih =>
  intro n
  subst hl
  by_cases h:zj l=1∧zU l=34∧0<n
  ·rw [qer h]
   have:=QU l
   exact ⟨Nat.zero_le _,fun _=>by show 0<l.length;omega⟩
  by_cases hf:vj (zU l) (zj l)=true
  ·by_cases hn:n=100
   ·rw [QK h hf hn]
    exact ⟨Nat.zero_le _,fun h=>by cases h⟩
   ·rw [QJ h hf hn]
    have hd:=QU l
    have hp:=jx hf
    have:=ih (l.drop (zj l)).length (by rw [List.length_drop];omega) (l.drop (zj l)) rfl (n+1)
    rw [List.length_drop] at this
    refine ⟨by show zj l+_≤_;omega,fun h0=>?_⟩
    have:=this.2 h0
    show zj l+_<_
    omega
  ·rw [ZT h hf]
   exact ⟨Nat.zero_le _,fun h=>by cases h⟩
theorem lyr_le {s:zX} {a:Nat} (h:a≤s.length):qA s a≤(zA s a).2.2∧(zA s a).2.2≤s.length:=by
 have h2:=zR h
 have h3:=lyrL_le (s.drop (qA s a+1)) 0
 rw [List.length_drop] at h3
 unfold zA
 split
 ·rename_i c
  have:=zM c
  split
  ·rename_i c0
   have:=h3.2 c0
   exact ⟨by show qA s a≤qA s a+1+_+1;omega,by show qA s a+1+_+1≤s.length;omega⟩
  ·exact ⟨by show qA s a≤qA s a+1+_;omega,by show qA s a+1+_≤s.length;omega⟩
 ·exact ⟨Nat.le_refl _,h2⟩
def Yx (s:zX):Nat→List Pt→Nat→Int × List Pt × Nat
 | 0,_,a=>(5,[],a)
 | m+1,ps,a =>
  if (qJ s a).1=0 then
   if qP s (qJ s a).2.2 62=true then (0,ps++[(qJ s a).2.1],qA s (qJ s a).2.2+1)
   else Yx s m (ps++[(qJ s a).2.1]) (qA s (qJ s a).2.2)
  else ((qJ s a).1,[],(qJ s a).2.2)
theorem chL_le {s:zX}:∀ (m:Nat) (ps:List Pt) (a:Nat),a≤s.length→(Yx s m ps a).1=0→a≤(Yx s m ps a).2.2∧(Yx s m ps a).2.2≤s.length∧(Yx s m ps a).2.1.length≤ps.length+m
 | 0,ps,a,_,h0=>by cases h0
 | m+1,ps,a,h,h0=>by
  rw [Yx] at h0 ⊢
  have hga:=vH s a
  split at h0
  ·rename_i c
   rw [if_pos c]
   have hp:=VE h c
   have hgp:=vH s (qJ s a).2.2
   split at h0
   ·rename_i c2
    rw [if_pos c2]
    have:=zM c2
    exact ⟨by show a≤qA s _+1;omega,by show qA s _+1≤_;omega,by show (ps++[_]).length≤_;rw [List.length_append,List.length_singleton];omega⟩
   ·rename_i c2
    rw [if_neg c2]
    have:=chL_le m (ps++[(qJ s a).2.1]) (qA s (qJ s a).2.2) (zR hp.2) h0
    rw [List.length_append,List.length_singleton] at this
    exact ⟨by omega,this.2.1,by omega⟩
  ·rename_i c
   exact absurd h0 c
def Qw (x:It) (n:Int):It:=.mk (iK x) n (iP x) (iB x) (iL x) (iC x)
def setL (x:It) (t:zX):It:=.mk (iK x) (iS x) (iP x) (iB x) t (iC x)
def vI (s:zX) (x:It) (a k:Nat):Int × It × Nat × Nat :=
 if iK x=1 then
  if (zA s a).1=0 then (0,setL x (zA s a).2.1,(zA s a).2.2,k) else ((zA s a).1,zQ,(zA s a).2.2,k)
 else (0,x,a,k)
def zw (s:zX) (x:It) (a k:Nat):Int × It × Nat × Nat :=
 if qP s a 42=true then
  if (qE s (qA s a+1)).1=0 then vI s (Qw x (qE s (qA s a+1)).2.1) (qE s (qA s a+1)).2.2 k
  else ((qE s (qA s a+1)).1,zQ,(qE s (qA s a+1)).2.2,k)
 else vI s x (qA s a) k
theorem qir {s:zX} {x:It} {a k:Nat} (h:a≤s.length):a≤(vI s x a k).2.2.1∧(vI s x a k).2.2.1≤s.length∧(vI s x a k).2.2.2=k:=by
 have h1:=lyr_le h
 have h2:=vH s a
 unfold vI
 repeat' split
 ·exact ⟨by show a≤(zA s a).2.2;omega,h1.2,rfl⟩
 ·exact ⟨by show a≤(zA s a).2.2;omega,h1.2,rfl⟩
 ·exact ⟨Nat.le_refl _,h,rfl⟩
theorem qiq {s:zX} {x:It} {a k:Nat} (h:a≤s.length):a≤(zw s x a k).2.2.1∧(zw s x a k).2.2.1≤s.length∧(zw s x a k).2.2.2=k:=by
 have h2:=vH s a
 have h3:=vH s (qA s a+1)
 unfold zw
 split
 ·rename_i c
  have h4:=zM c
  have h5:=wK (s:=s) (a:=qA s a+1) (by omega)
  split
  ·have:=qir (s:=s) (x:=Qw x (qE s (qA s a+1)).2.1) (k:=k) h5.2
   exact ⟨by omega,this.2⟩
  ·exact ⟨by show a≤(qE s (qA s a+1)).2.2;omega,h5.2,rfl⟩
 ·have:=qir (s:=s) (x:=x) (k:=k) (zR h)
  exact ⟨by omega,this.2⟩
def vow:zX:=[118,111,105,99,101]
mutual
def qN (s:zX) (lv:Int) (a:Nat) (k:Nat):Int × It × Nat × Nat :=
 if _h:k=0∨31<lv then (4,zQ,qA s a,0)
 else if qC s a=[45] then zw s (.mk 2 1 [] (0,0) [] []) (qA s a+1) (k-1)
 else if qP s a 126=true then zw s (.mk 3 1 [] (0,0) [] []) (qA s a+1) (k-1)
 else if qC s a=[117,112] then
  if (qY (qC s (qA s a+2))).2=0 then
   if (yE s lv (qA s (qA s a+2)+(qC s (qA s a+2)).length) (k-1)).1=0 then
    zw s (.mk 5 1 [] (qY (qC s (qA s a+2))).1 [] (yE s lv (qA s (qA s a+2)+(qC s (qA s a+2)).length) (k-1)).2.1) (yE s lv (qA s (qA s a+2)+(qC s (qA s a+2)).length) (k-1)).2.2.1 (yE s lv (qA s (qA s a+2)+(qC s (qA s a+2)).length) (k-1)).2.2.2
   else ((yE s lv (qA s (qA s a+2)+(qC s (qA s a+2)).length) (k-1)).1,zQ,(yE s lv (qA s (qA s a+2)+(qC s (qA s a+2)).length) (k-1)).2.2.1,0)
  else ((qY (qC s (qA s a+2))).2,zQ,qA s (qA s a+2),0)
 else if qP s a 91=true then
  if (yE s lv (qA s a) (k-1)).1=0 then zw s (.mk 4 1 [] (0,0) [] (yE s lv (qA s a) (k-1)).2.1) (yE s lv (qA s a) (k-1)).2.2.1 (yE s lv (qA s a) (k-1)).2.2.2
  else ((yE s lv (qA s a) (k-1)).1,zQ,(yE s lv (qA s a) (k-1)).2.2.1,0)
 else if qP s a 60=true then
  if (Yx s 16 [] (qA s a+1)).1=0 then zw s (.mk 1 1 (Yx s 16 [] (qA s a+1)).2.1 (0,0) [] []) (Yx s 16 [] (qA s a+1)).2.2 (k-1)
  else ((Yx s 16 [] (qA s a+1)).1,zQ,(Yx s 16 [] (qA s a+1)).2.2,0)
 else if (qJ s (qA s a)).1=0 then zw s (.mk 1 1 [(qJ s (qA s a)).2.1] (0,0) [] []) (qJ s (qA s a)).2.2 (k-1)
 else ((qJ s (qA s a)).1,zQ,(qJ s (qA s a)).2.2,0)
termination_by (k,0)
decreasing_by all_goals first|(apply Prod.Lex.right;decide)|(apply Prod.Lex.left;omega)
def yE (s:zX) (lv:Int) (a:Nat) (k:Nat):Int × List It × Nat × Nat :=
 if qP s a 91=true then grL s lv [] (qA s a+1) k else (2,[],qA s a,0)
termination_by (k,2)
decreasing_by all_goals first|(apply Prod.Lex.right;decide)|(apply Prod.Lex.left;omega)
def grL (s:zX) (lv:Int) (l:List It) (a:Nat) (k:Nat):Int × List It × Nat × Nat :=
 if (qN s (lv+1) a k).1=0 then
  if qP s (qN s (lv+1) a k).2.2.1 93=true then (0,l++[(qN s (lv+1) a k).2.1],qA s (qN s (lv+1) a k).2.2.1+1,(qN s (lv+1) a k).2.2.2)
  else if _h:(qN s (lv+1) a k).2.2.2<k then grL s lv (l++[(qN s (lv+1) a k).2.1]) (qA s (qN s (lv+1) a k).2.2.1) (qN s (lv+1) a k).2.2.2
  else (4,[],0,0)
 else ((qN s (lv+1) a k).1,[],(qN s (lv+1) a k).2.2.1,0)
termination_by (k,1)
decreasing_by all_goals first|(apply Prod.Lex.right;decide)|(apply Prod.Lex.left;omega)
end
theorem pu_ge:∀ (l:zX) (acc:Nat),(∀ b∈l,b∈digs)→Lib.parseUint10 acc l = .range∨∃ u,Lib.parseUint10 acc l = .ok u∧acc*10 ^ l.length≤u
 | [],acc,_=>.inr ⟨acc,rfl,by simp⟩
 | c :: r,acc,h=>by
  obtain ⟨d,h1,h2,h3⟩:=QT (h c (by simp))
  have hc:48≤c.toNat∧c.toNat≤57:=by omega
  unfold Lib.parseUint10
  rw [if_pos hc]
  split
  ·exact .inl rfl
  split
  ·exact .inl rfl
  rcases pu_ge r (acc*10+(c.toNat-48)) (fun b hb=>h b (by simp [hb])) with h4|⟨u,h4,h5⟩
  ·exact .inl h4
  ·refine .inr ⟨u,h4,Nat.le_trans ?_ h5⟩
   rw [List.length_cons,Nat.pow_succ,Nat.mul_comm (10 ^ r.length) 10,← Nat.mul_assoc]
   exact Nat.mul_le_mul_right _ (by omega)
def okV (w:zX):Int:=match Lib.atoiAll w with | .ok v=>v|_=>0
theorem qgi {w:zX} (hd:∀ b∈w,b∈digs) (hl:18<w.length) (h0:¬ (w.getD 0 0).toNat=48):Lib.atoiAll w = .range∨(Lib.atoiAll w = .ok (okV w)∧65536<okV w∧okV w≤9223372036854775807):=by
 cases w with
 | nil=>simp at hl
 | cons c r =>
  obtain ⟨d,h1,h2,h3⟩:=QT (hd c (by simp))
  have h0':¬ c.toNat=48:=by simpa using h0
  have hs:¬ (c.toNat=43∨c.toNat=45):=by omega
  have hm:Lib.parseMag (c :: r)=Lib.parseUint10 0 (c :: r):=if_neg (by simp)
  have e:Lib.atoiAll (c :: r)=match Lib.parseMag (c :: r) with
   | Lib.NumEnd.syntax=>Lib.NumEnd.syntax
   | .range=>.range
   | .ok u=>if ¬ c.toNat=45∧9223372036854775808≤u then .range else if c.toNat=45∧9223372036854775808<u then .range else .ok (if c.toNat=45 then -(u:Int) else u):=by
   unfold Lib.atoiAll
   dsimp only
   rw [if_neg hs]
   cases Lib.parseMag (c :: r) <;> rfl
  have hp:Lib.parseUint10 0 (c :: r)=Lib.parseUint10 (c.toNat-48) r:=by
   unfold Lib.parseUint10
   rw [if_pos (by omega),if_neg (by omega),if_neg (by omega),Nat.zero_mul,Nat.zero_add]
   cases r <;> rfl
  rcases pu_ge r (c.toNat-48) (fun b hb=>hd b (by simp [hb])) with h4|⟨u,h4,h5⟩
  ·left
   rw [e,hm,hp,h4]
  ·rw [hm,hp,h4] at e
   by_cases hb:9223372036854775808≤u
   ·left
    rw [e]
    exact if_pos ⟨by omega,hb⟩
   ·right
    have e2:Lib.atoiAll (c :: r) = .ok (u:Int):=by
     rw [e]
     show (if _ then _ else _)=_
     rw [if_neg (fun q=>hb q.2),if_neg (by omega),if_neg (by omega)]
    have h6:10 ^ 18≤10 ^ r.length:=Nat.pow_le_pow_right (by decide) (by simp at hl;omega)
    have h7:10 ^ r.length≤u:=Nat.le_trans (by have:=Nat.mul_le_mul_right (10 ^ r.length) (show 1≤c.toNat-48 by omega);omega) h5
    have e3:okV (c :: r)=(u:Int):=by unfold okV;rw [e2]
    rw [e3]
    exact ⟨e2,by omega,by omega⟩
theorem qfw {w:zX} (h:Lib.trimS w digs=[]):∀ b∈w,b∈digs:=trim_nil.1 h
theorem qdz {w:zX} (hd:∀ b∈w,b∈digs) (h0:w≠[]) (hl:¬ 18<w.length):Lib.atoi w=some (yG w)∧0≤yG w∧yG w≤1000000000000000000:=by
 obtain ⟨n,h1,h2⟩:=qbt h0 hd
 have h3:(10:Nat) ^ w.length≤10 ^ 18:=Nat.pow_le_pow_right (by decide) (by omega)
 unfold yG
 rw [h1]
 exact ⟨rfl,by show (0:Int)≤n;omega,by show (n:Int)≤1000000000000000000;omega⟩

def brL (s:zX) (l:List It) (a:Nat) (k:Nat):Int × List It × Nat × Nat :=
 if (qN s 1 a k).1=0 then
  if qA s (qN s 1 a k).2.2.1=s.length∨qP s (qN s 1 a k).2.2.1 124=true∨qC s (qN s 1 a k).2.2.1=vow then (0,l++[(qN s 1 a k).2.1],qA s (qN s 1 a k).2.2.1,(qN s 1 a k).2.2.2)
  else if _h:(qN s 1 a k).2.2.2<k then brL s (l++[(qN s 1 a k).2.1]) (qA s (qN s 1 a k).2.2.1) (qN s 1 a k).2.2.2
  else (4,[],0,0)
 else ((qN s 1 a k).1,[],(qN s 1 a k).2.2.1,0)
termination_by k
def wR (s:zX) (a:Nat):Int × Br × Nat × Nat :=
 if (qE s a).1=0 then
  if qP s (qE s a).2.2 47=true then
   if (qE s (qA s (qE s a).2.2+1)).1=0 then
    if (brL s [] (qE s (qA s (qE s a).2.2+1)).2.2 4095).1=0 then
     (0,((qE s a).2.1,(qE s (qA s (qE s a).2.2+1)).2.1,(brL s [] (qE s (qA s (qE s a).2.2+1)).2.2 4095).2.1),(brL s [] (qE s (qA s (qE s a).2.2+1)).2.2 4095).2.2)
    else ((brL s [] (qE s (qA s (qE s a).2.2+1)).2.2 4095).1,ZG,(brL s [] (qE s (qA s (qE s a).2.2+1)).2.2 4095).2.2)
   else ((qE s (qA s (qE s a).2.2+1)).1,ZG,(qE s (qA s (qE s a).2.2+1)).2.2,0)
  else (2,ZG,qA s (qE s a).2.2,0)
 else ((qE s a).1,ZG,(qE s a).2.2,0)
def vcL (s:zX):Nat→List Br→Nat→Int→Int × List Br × Nat × Int
 | 0,l,a,z=>if qP s a 124=true then (5,[],qA s a,0) else (0,l,qA s a,z)
 | m+1,l,a,z=>if qP s a 124=true then
   if (wR s (qA s a+1)).1=0 then vcL s m (l++[(wR s (qA s a+1)).2.1]) (wR s (qA s a+1)).2.2.1 (((wR s (qA s a+1)).2.2.2:Nat):Int)
   else ((wR s (qA s a+1)).1,[],(wR s (qA s a+1)).2.2.1,0)
  else (0,l,qA s a,z)
def jB (s:zX) (a:Nat) (z:Int):Int × Vo × Nat × Int :=
 if qC s a=vow then
  if jF (qC s (qA s a+5))=true then
   if (vcL s 1024 [] (qA s (qA s a+5)+(qC s (qA s a+5)).length) z).1=0 then
    (0,(qC s (qA s a+5),(vcL s 1024 [] (qA s (qA s a+5)+(qC s (qA s a+5)).length) z).2.1),(vcL s 1024 [] (qA s (qA s a+5)+(qC s (qA s a+5)).length) z).2.2)
   else ((vcL s 1024 [] (qA s (qA s a+5)+(qC s (qA s a+5)).length) z).1,vS,(vcL s 1024 [] (qA s (qA s a+5)+(qC s (qA s a+5)).length) z).2.2)
  else (2,vS,qA s (qA s a+5),0)
 else (2,vS,qA s a,0)
def rdL (s:zX):Nat→List Vo→Nat→Int→Int × List Vo × Nat
 | 0,l,a,_=>if qA s a=s.length then (0,l,0) else (5,[],qA s a)
 | m+1,l,a,z=>if qA s a=s.length then (0,l,0) else
   if (jB s (qA s a) z).1=0 then rdL s m (l++[(jB s (qA s a) z).2.1]) (jB s (qA s a) z).2.2.1 (jB s (qA s a) z).2.2.2
   else ((jB s (qA s a) z).1,[],(jB s (qA s a) z).2.2.1)
def yX (s:zX):Int × List Vo × Nat:=if 65536<s.length then (4,[],0) else rdL s 64 [] 0 0

/-! ### where things end -/
theorem vow_len:vow.length=5:=rfl
theorem zT {s:zX} {lv:Int} {a k:Nat}:qN s lv a k =
 if k=0∨31<lv then (4,zQ,qA s a,0)
 else if qC s a=[45] then zw s (.mk 2 1 [] (0,0) [] []) (qA s a+1) (k-1)
 else if qP s a 126=true then zw s (.mk 3 1 [] (0,0) [] []) (qA s a+1) (k-1)
 else if qC s a=[117,112] then
  if (qY (qC s (qA s a+2))).2=0 then
   if (yE s lv (qA s (qA s a+2)+(qC s (qA s a+2)).length) (k-1)).1=0 then
    zw s (.mk 5 1 [] (qY (qC s (qA s a+2))).1 [] (yE s lv (qA s (qA s a+2)+(qC s (qA s a+2)).length) (k-1)).2.1) (yE s lv (qA s (qA s a+2)+(qC s (qA s a+2)).length) (k-1)).2.2.1 (yE s lv (qA s (qA s a+2)+(qC s (qA s a+2)).length) (k-1)).2.2.2
   else ((yE s lv (qA s (qA s a+2)+(qC s (qA s a+2)).length) (k-1)).1,zQ,(yE s lv (qA s (qA s a+2)+(qC s (qA s a+2)).length) (k-1)).2.2.1,0)
  else ((qY (qC s (qA s a+2))).2,zQ,qA s (qA s a+2),0)
 else if qP s a 91=true then
  if (yE s lv (qA s a) (k-1)).1=0 then zw s (.mk 4 1 [] (0,0) [] (yE s lv (qA s a) (k-1)).2.1) (yE s lv (qA s a) (k-1)).2.2.1 (yE s lv (qA s a) (k-1)).2.2.2
  else ((yE s lv (qA s a) (k-1)).1,zQ,(yE s lv (qA s a) (k-1)).2.2.1,0)
 else if qP s a 60=true then
  if (Yx s 16 [] (qA s a+1)).1=0 then zw s (.mk 1 1 (Yx s 16 [] (qA s a+1)).2.1 (0,0) [] []) (Yx s 16 [] (qA s a+1)).2.2 (k-1)
  else ((Yx s 16 [] (qA s a+1)).1,zQ,(Yx s 16 [] (qA s a+1)).2.2,0)
 else if (qJ s (qA s a)).1=0 then zw s (.mk 1 1 [(qJ s (qA s a)).2.1] (0,0) [] []) (qJ s (qA s a)).2.2 (k-1)
 else ((qJ s (qA s a)).1,zQ,(qJ s (qA s a)).2.2,0):=by
 rw [qN]
 by_cases h:k=0∨31<lv
 ·rw [dif_pos h,if_pos h]
 ·rw [dif_neg h,if_neg h]
theorem jN {s:zX} {lv:Int} {a k:Nat}:yE s lv a k=if qP s a 91=true then grL s lv [] (qA s a+1) k else (2,[],qA s a,0):=by rw [yE]
theorem qcn {s:zX} {lv:Int} {l:List It} {a k:Nat}:grL s lv l a k =
 if (qN s (lv+1) a k).1=0 then
  if qP s (qN s (lv+1) a k).2.2.1 93=true then (0,l++[(qN s (lv+1) a k).2.1],qA s (qN s (lv+1) a k).2.2.1+1,(qN s (lv+1) a k).2.2.2)
  else if (qN s (lv+1) a k).2.2.2<k then grL s lv (l++[(qN s (lv+1) a k).2.1]) (qA s (qN s (lv+1) a k).2.2.1) (qN s (lv+1) a k).2.2.2
  else (4,[],0,0)
 else ((qN s (lv+1) a k).1,[],(qN s (lv+1) a k).2.2.1,0):=by
 rw [grL]
 simp only [dite_eq_ite]
abbrev Yv (s:zX) (a a':Nat):Prop:=a≤a'∧a'≤s.length
theorem ZH {s:zX} {x:It} {a a0 k:Nat} (h:Yv s a0 a):Yv s a0 (zw s x a k).2.2.1∧(zw s x a k).2.2.2=k:=by
 have:=qiq (x:=x) (k:=k) h.2
 exact ⟨⟨Nat.le_trans h.1 this.1,this.2.1⟩,this.2.2⟩
theorem qgn (s:zX):∀ (m:Nat) (k:Nat),k<m →
  (∀ (lv:Int) (a:Nat),a≤s.length→(qN s lv a k).1=0→Yv s a (qN s lv a k).2.2.1∧(qN s lv a k).2.2.2<k) ∧
  (∀ (lv:Int) (l:List It) (a:Nat),a≤s.length→(grL s lv l a k).1=0→Yv s a (grL s lv l a k).2.2.1∧(grL s lv l a k).2.2.2<k):=by
 intro m
 induction m with
 | zero=>intro k h;omega
 | succ m ih =>
  intro k hk
  have hgr:0<k→∀ (lv:Int) (a:Nat),a≤s.length→(yE s lv a (k-1)).1=0→Yv s a (yE s lv a (k-1)).2.2.1∧(yE s lv a (k-1)).2.2.2<k-1:=by
   intro h1 lv a ha h0
   rw [jN] at h0 ⊢
   split at h0
   ·rename_i c
    rw [if_pos c]
    have:=zM c
    have hga:=vH s a
    have h2:=(ih (k-1) (by omega)).2 lv [] (qA s a+1) (by omega) h0
    exact ⟨⟨by have:=h2.1.1;omega,h2.1.2⟩,h2.2⟩
   ·cases h0
  have hit:∀ (lv:Int) (a:Nat),a≤s.length→(qN s lv a k).1=0→Yv s a (qN s lv a k).2.2.1∧(qN s lv a k).2.2.2<k:=by
   intro lv a ha h0
   have hga:=vH s a
   have hgl:=zR ha
   have hwl:=yV ha
   have hgg:=vG s a
   rw [zT] at h0 ⊢
   split at h0
   ·cases h0
   rename_i c0
   rw [if_neg c0]
   have hk0:0<k:=by omega
   split at h0
   ·rename_i c1
    rw [if_pos c1]
    rw [c1,List.length_singleton] at hwl
    have:=ZH (s:=s) (x:=.mk 2 1 [] (0,0) [] []) (a:=qA s a+1) (a0:=a) (k:=k-1) ⟨by omega,by omega⟩
    exact ⟨this.1,by rw [this.2];omega⟩
   rename_i c1
   rw [if_neg c1]
   split at h0
   ·rename_i c2
    rw [if_pos c2]
    have:=zM c2
    have:=ZH (s:=s) (x:=.mk 3 1 [] (0,0) [] []) (a:=qA s a+1) (a0:=a) (k:=k-1) ⟨by omega,by omega⟩
    exact ⟨this.1,by rw [this.2];omega⟩
   rename_i c2
   rw [if_neg c2]
   split at h0
   ·rename_i c3
    rw [if_pos c3]
    rw [c3,List.length_cons,List.length_singleton] at hwl
    have hga2:=vH s (qA s a+2)
    have hwl2:=yV (s:=s) (a:=qA s a+2) (by omega)
    split at h0
    ·rename_i c4
     rw [if_pos c4]
     split at h0
     ·rename_i c5
      rw [if_pos c5]
      have h2:=hgr hk0 lv _ hwl2 c5
      have:=ZH (s:=s) (x:=.mk 5 1 [] (qY (qC s (qA s a+2))).1 [] (yE s lv (qA s (qA s a+2)+(qC s (qA s a+2)).length) (k-1)).2.1) (a:=(yE s lv (qA s (qA s a+2)+(qC s (qA s a+2)).length) (k-1)).2.2.1) (a0:=a) (k:=(yE s lv (qA s (qA s a+2)+(qC s (qA s a+2)).length) (k-1)).2.2.2) ⟨by have:=h2.1.1;omega,h2.1.2⟩
      exact ⟨this.1,by rw [this.2];have:=h2.2;omega⟩
     ·rename_i c5
      exact absurd h0 c5
    ·rename_i c4
     exact absurd h0 c4
   rename_i c3
   rw [if_neg c3]
   split at h0
   ·rename_i c4
    rw [if_pos c4]
    split at h0
    ·rename_i c5
     rw [if_pos c5]
     have h2:=hgr hk0 lv _ hgl c5
     have:=ZH (s:=s) (x:=.mk 4 1 [] (0,0) [] (yE s lv (qA s a) (k-1)).2.1) (a:=(yE s lv (qA s a) (k-1)).2.2.1) (a0:=a) (k:=(yE s lv (qA s a) (k-1)).2.2.2) ⟨by have:=h2.1.1;omega,h2.1.2⟩
     exact ⟨this.1,by rw [this.2];have:=h2.2;omega⟩
    ·rename_i c5
     exact absurd h0 c5
   rename_i c4
   rw [if_neg c4]
   split at h0
   ·rename_i c5
    rw [if_pos c5]
    have hlt:=zM c5
    split at h0
    ·rename_i c6
     rw [if_pos c6]
     have h2:=chL_le 16 [] (qA s a+1) (by omega) c6
     have:=ZH (s:=s) (x:=.mk 1 1 (Yx s 16 [] (qA s a+1)).2.1 (0,0) [] []) (a:=(Yx s 16 [] (qA s a+1)).2.2) (a0:=a) (k:=k-1) ⟨by have:=h2.1;omega,h2.2.1⟩
     exact ⟨this.1,by rw [this.2];omega⟩
    ·rename_i c6
     exact absurd h0 c6
   rename_i c5
   rw [if_neg c5]
   split at h0
   ·rename_i c6
    rw [if_pos c6]
    have h2:=VE hgl c6
    have:=ZH (s:=s) (x:=.mk 1 1 [(qJ s (qA s a)).2.1] (0,0) [] []) (a:=(qJ s (qA s a)).2.2) (a0:=a) (k:=k-1) ⟨by omega,h2.2⟩
    exact ⟨this.1,by rw [this.2];omega⟩
   ·rename_i c6
    exact absurd h0 c6
  refine ⟨hit,fun lv l a ha h0=>?_⟩
  rw [qcn] at h0 ⊢
  split at h0
  ·rename_i c
   rw [if_pos c]
   have h1:=hit (lv+1) a ha c
   have hgp:=vH s (qN s (lv+1) a k).2.2.1
   split at h0
   ·rename_i c2
    rw [if_pos c2]
    have:=zM c2
    exact ⟨⟨by have:=h1.1.1;show a≤qA s _+1;omega,by show qA s _+1≤_;omega⟩,h1.2⟩
   ·rename_i c2
    rw [if_neg c2]
    rw [if_pos h1.2] at h0 ⊢
    have h3:=(ih _ (show (qN s (lv+1) a k).2.2.2<m by have:=h1.2;omega)).2 lv (l++[(qN s (lv+1) a k).2.1]) (qA s (qN s (lv+1) a k).2.2.1) (zR h1.1.2) h0
    exact ⟨⟨by have:=h1.1.1;have:=h3.1.1;omega,h3.1.2⟩,by have:=h1.2;have:=h3.2;omega⟩
  ·rename_i c
   exact absurd h0 c
theorem wT {s:zX} {lv:Int} {a k:Nat} (ha:a≤s.length) (h0:(qN s lv a k).1=0):Yv s a (qN s lv a k).2.2.1∧(qN s lv a k).2.2.2<k:=(qgn s (k+1) k (by omega)).1 lv a ha h0
theorem grL_end {s:zX} {lv:Int} {l:List It} {a k:Nat} (ha:a≤s.length) (h0:(grL s lv l a k).1=0):Yv s a (grL s lv l a k).2.2.1∧(grL s lv l a k).2.2.2<k:=(qgn s (k+1) k (by omega)).2 lv l a ha h0
theorem qkl {s:zX} {lv:Int} {l:List It} {a k:Nat} (ha:a≤s.length) (h1:(qN s (lv+1) a k).1=0) (h2:¬ qP s (qN s (lv+1) a k).2.2.1 93=true):grL s lv l a k=grL s lv (l++[(qN s (lv+1) a k).2.1]) (qA s (qN s (lv+1) a k).2.2.1) (qN s (lv+1) a k).2.2.2:=by
 rw [qcn,if_pos h1,if_neg h2,if_pos (wT ha h1).2]
theorem YR {s:zX} {l:List It} {a k:Nat}:brL s l a k=if (qN s 1 a k).1=0 then
  if qA s (qN s 1 a k).2.2.1=s.length∨qP s (qN s 1 a k).2.2.1 124=true∨qC s (qN s 1 a k).2.2.1=vow then (0,l++[(qN s 1 a k).2.1],qA s (qN s 1 a k).2.2.1,(qN s 1 a k).2.2.2)
  else if (qN s 1 a k).2.2.2<k then brL s (l++[(qN s 1 a k).2.1]) (qA s (qN s 1 a k).2.2.1) (qN s 1 a k).2.2.2
  else (4,[],0,0)
 else ((qN s 1 a k).1,[],(qN s 1 a k).2.2.1,0):=by
 rw [brL]
 simp only [dite_eq_ite]
theorem brL_end {s:zX}:∀ (m k:Nat),k<m→∀ (l:List It) (a:Nat),a≤s.length→(brL s l a k).1=0→Yv s a (brL s l a k).2.2.1
 | 0,k,h,_,_,_,_=>absurd h (Nat.not_lt_zero k)
 | m+1,k,hk,l,a,ha,h0=>by
  rw [YR] at h0 ⊢
  split at h0
  ·rename_i c
   rw [if_pos c]
   have h1:=wT ha c
   have hgp:=vH s (qN s 1 a k).2.2.1
   split at h0
   ·rename_i c2
    rw [if_pos c2]
    exact ⟨by have:=h1.1.1;show a≤qA s _;omega,zR h1.1.2⟩
   ·rename_i c2
    rw [if_neg c2]
    rw [if_pos h1.2] at h0 ⊢
    have h3:=brL_end m _ (show (qN s 1 a k).2.2.2<m by have:=h1.2;omega) (l++[(qN s 1 a k).2.1]) (qA s (qN s 1 a k).2.2.1) (zR h1.1.2) h0
    exact ⟨by have:=h1.1.1;have:=h3.1;omega,h3.2⟩
  ·rename_i c
   exact absurd h0 c
theorem brR_end {s:zX} {a:Nat} (ha:a≤s.length) (h0:(wR s a).1=0):Yv s a (wR s a).2.2.1:=by
 unfold wR at h0 ⊢
 have hga:=vH s a
 have hn:=wK ha
 split at h0
 ·rename_i c
  rw [if_pos c]
  split at h0
  ·rename_i c2
   rw [if_pos c2]
   have hlt:=zM c2
   have hgp:=vH s (qE s a).2.2
   have hn2:=wK (s:=s) (a:=qA s (qE s a).2.2+1) (by omega)
   have hgq:=vH s (qA s (qE s a).2.2+1)
   split at h0
   ·rename_i c3
    rw [if_pos c3]
    split at h0
    ·rename_i c4
     rw [if_pos c4]
     have:=brL_end 4096 4095 (by omega) [] _ hn2.2 c4
     exact ⟨by have:=this.1;show a≤(brL s [] _ 4095).2.2.1;omega,this.2⟩
    ·rename_i c4
     exact absurd h0 c4
   ·rename_i c3
    exact absurd h0 c3
  ·cases h0
 ·rename_i c
  exact absurd h0 c
theorem vcL_end {s:zX}:∀ (m:Nat) (l:List Br) (a:Nat) (z:Int),a≤s.length→(vcL s m l a z).1=0→Yv s a (vcL s m l a z).2.2.1
 | 0,l,a,z,ha,h0=>by
  rw [vcL] at h0 ⊢
  split at h0
  ·cases h0
  ·rename_i c
   rw [if_neg c]
   exact ⟨vH s a,zR ha⟩
 | m+1,l,a,z,ha,h0=>by
  rw [vcL] at h0 ⊢
  have hga:=vH s a
  split at h0
  ·rename_i c
   rw [if_pos c]
   have hlt:=zM c
   split at h0
   ·rename_i c2
    rw [if_pos c2]
    have h1:=brR_end (s:=s) (a:=qA s a+1) (by omega) c2
    have h2:=vcL_end m _ _ _ h1.2 h0
    exact ⟨by have:=h1.1;have:=h2.1;omega,h2.2⟩
   ·rename_i c2
    exact absurd h0 c2
  ·rename_i c
   rw [if_neg c]
   exact ⟨hga,zR ha⟩
theorem vcR_end {s:zX} {a:Nat} {z:Int} (ha:a≤s.length) (h0:(jB s a z).1=0):Yv s a (jB s a z).2.2.1:=by
 unfold jB at h0 ⊢
 have hga:=vH s a
 have hwl:=yV ha
 split at h0
 ·rename_i c
  rw [if_pos c]
  rw [c,vow_len] at hwl
  have hga2:=vH s (qA s a+5)
  have hwl2:=yV (s:=s) (a:=qA s a+5) (by omega)
  split at h0
  ·rename_i c2
   rw [if_pos c2]
   split at h0
   ·rename_i c3
    rw [if_pos c3]
    have h2:=vcL_end 1024 [] _ _ hwl2 c3
    exact ⟨by have:=h2.1;show a≤(vcL s 1024 [] _ z).2.2.1;omega,h2.2⟩
   ·rename_i c3
    exact absurd h0 c3
  ·cases h0
 ·cases h0
theorem ZO {s:zX} {m:Nat} {l:List Br} {a:Nat} {z:Int} (hl:l.length+m=1024):vcL s m l a z=if qP s a 124=true then
   if l.length=1024 then (5,[],qA s a,0) else
   if (wR s (qA s a+1)).1=0 then vcL s (1024-(l.length+1)) (l++[(wR s (qA s a+1)).2.1]) (wR s (qA s a+1)).2.2.1 (((wR s (qA s a+1)).2.2.2:Nat):Int)
   else ((wR s (qA s a+1)).1,[],(wR s (qA s a+1)).2.2.1,0)
  else (0,l,qA s a,z):=by
 cases m with
 | zero=>rw [vcL,if_pos (show l.length=1024 by omega)]
 | succ m=>rw [vcL,if_neg (show ¬ l.length=1024 by omega),show 1024-(l.length+1)=m by omega]
theorem ZQ {s:zX} {m:Nat} {l:List Vo} {a:Nat} {z:Int} (hl:l.length+m=64):rdL s m l a z=if qA s a=s.length then (0,l,0) else
   if l.length=64 then (5,[],qA s a) else
   if (jB s (qA s a) z).1=0 then rdL s (64-(l.length+1)) (l++[(jB s (qA s a) z).2.1]) (jB s (qA s a) z).2.2.1 (jB s (qA s a) z).2.2.2
   else ((jB s (qA s a) z).1,[],(jB s (qA s a) z).2.2.1):=by
 cases m with
 | zero=>rw [rdL,if_pos (show l.length=64 by omega)]
 | succ m=>rw [rdL,if_neg (show ¬ l.length=64 by omega),show 64-(l.length+1)=m by omega]
end Go.Proofs.YtmlnilkbolcknaaGreatDoor.Pm
namespace Go.Proofs.YtmlnilkbolcknaaGreatDoor
open Go.RowKit
theorem qdg {k:IntKind} {a b:Int} (h:a=b):Ending.returned (.int k a) = .returned (.int k b):=by rw [h]
theorem vT {a b:Bool} (h:a=b):Ending.returned (.bool a) = .returned (.bool b):=by rw [h]
theorem vE {B:Nat} {a w:World} (h:Below B a w) (n:Nat):Below B a (w.drewN n):=⟨h.os,h.tape,h.output,h.size,h.block⟩
theorem vR {a w w':World} (h:Below w.heap.size w w') (k:Below a.heap.size a w):Below a.heap.size a w':=k.trans (h.mono k.size)
theorem wB {a w:World} (k:Below a.heap.size a w) (o:Obj):Below a.heap.size a (w.alloc o):=k.alloc k.size o
open Go
def badR (c:Nat) (s:ByteArray):Prop:=c<32∨c=34∨c=127∨(c=65533∧¬ s.toList=[239,191,189])
instance (c:Nat) (s:ByteArray):Decidable (badR c s):=by unfold badR;infer_instance
def Vy (s:ByteArray):Bool:=decide (0<s.size∧¬ badR (Utf8.decode s 0).1 s∧(Utf8.decode s 0).2=s.size)
theorem wid_pos (s:ByteArray) (pos:Nat) (h:pos<s.size):1≤(Utf8.decode s pos).2:=by
 by_cases ha:(s[pos]'h).toNat<128
 ·rw [decode_ascii s pos h ha]
  exact Nat.le_refl _
 ·exact (decode_high s pos h (by omega)).2
def OneR (s:ByteArray) (pos k:Nat):Prop:=(k=0∧pos=0)∨(1≤k∧0<s.size∧¬ badR (Utf8.decode s 0).1 s∧((k=1∧pos=(Utf8.decode s 0).2)∨(Utf8.decode s 0).2<s.size∧2≤k))
theorem one_stop {s:ByteArray} {pos k:Nat} (h:OneR s pos k) (hp:pos<s.size) (hb:badR (Utf8.decode s pos).1 s):Vy s=false:=by
 unfold Vy
 rcases h with ⟨_,h0⟩|⟨_,_,_,⟨_,h0⟩|⟨h0,_⟩⟩
 ·subst h0
  exact decide_eq_false fun c=>c.2.1 hb
 ·exact decide_eq_false fun c=>by omega
 ·exact decide_eq_false fun c=>by omega
theorem one_next {s:ByteArray} {pos k:Nat} (h:OneR s pos k) (hp:pos<s.size) (hb:¬ badR (Utf8.decode s pos).1 s):OneR s (pos+(Utf8.decode s pos).2) (k+1):=by
 have hw:=wid_pos s pos hp
 right
 rcases h with ⟨h1,h0⟩|⟨h1,h2,h3,⟨h4,h5⟩|⟨h4,h5⟩⟩
 ·subst h0;subst h1
  exact ⟨by omega,hp,hb,.inl ⟨rfl,by omega⟩⟩
 ·exact ⟨by omega,h2,h3,.inr ⟨by omega,by omega⟩⟩
 ·exact ⟨by omega,h2,h3,.inr ⟨h4,by omega⟩⟩
theorem dec_fit (s:ByteArray) (pos:Nat) (h:pos<s.size):pos+(Utf8.decode s pos).2≤s.size:=by
 simp only [Utf8.decode]
 repeat' split
 all_goals simp_all
 all_goals omega
theorem one_end {s:ByteArray} {pos k:Nat} (h:OneR s pos k) (hp:¬ pos<s.size):(((k:Int) == 1)=Vy s):=by
 unfold Vy
 rcases h with ⟨h1,h0⟩|⟨h1,h2,h3,⟨h4,h5⟩|⟨h4,h5⟩⟩
 ·subst h1
  exact (decide_eq_false fun c=>by omega).symm
 ·subst h4
  have:=dec_fit s 0 h2
  exact (decide_eq_true ⟨h2,h3,by omega⟩).symm
 ·rw [decide_eq_false fun c=>by omega]
  simp
  omega
theorem qfi (w:World) (s:ByteArray) (pos:Nat):Below w.heap.size w (w.iter s pos):=(Below.refl _ _).alloc (Nat.le_refl _) _
set_option maxRecDepth 1000000 in
theorem one_walk (s:ByteArray) (hz:s.size≤9223372036854775807) (w:World) :
  Calls Tryz.prog 143 #[.string s] w fun e w'=>e = .returned (.bool (Vy s))∧Below w.heap.size w w':=by
 go_enter Tryz.func143,Tryz.ntmps143
 go_wp2
 go_loopw [3] (fun n w'=>∃ (pos k:Nat),w'=w.iter s pos∧n = .int .i64 k∧k≤pos∧OneR s pos k) (fun _ w'=>s.size-w'.iterPos w.heap.size)
 case atStart=>exact ⟨0,0,rfl,rfl,Nat.le_refl _,.inl ⟨rfl,rfl⟩⟩
 case round =>
  obtain ⟨pos,k,rfl,rfl,hk,hr⟩:=hrel
  by_cases hp:pos<s.size
  ·obtain ⟨c,hc⟩:∃ c,(Utf8.decode s pos).1=c:=⟨_,rfl⟩
   have hnx:∀ ty,(Instr.next (.pointer (some ⟨w.heap.size,0,none⟩)) true ty).run Tryz.prog (w.iter s pos)=_:=fun ty=>run_next_any w s pos ty hp
   simp only [hc] at hnx
   have hwd:=wid_pos s pos hp
   obtain ⟨d,hd⟩:∃ d,(s.toList == [239,191,189])=d:=⟨_,rfl⟩
   have hD:s.toList=[239,191,189]↔d=true:=by rw [← hd];simp
   by_cases hbad:badR c s
   ·have hst:=Lib.hid (one_stop hr hp (by rw [hc];exact hbad))
    have H:=Lib.hid hbad
    clear hbad
    go_wp2
    all_goals first
     | (go_ret;exact ⟨vT hst.out.symm,qfi w s _⟩)
     | (exfalso;have hb:=H.out;unfold badR at hb;rw [hD] at hb;simp_all;omega)
     | (exfalso;have hb:=H.out;unfold badR at hb;rw [hD] at hb;simp_all)
   ·have hst:=one_next hr hp (by rw [hc];exact hbad)
    have H:=Lib.hid hbad
    clear hbad
    go_wp2
    all_goals first
     | (go_roundw;(case rel=>exact ⟨_,k+1,rfl,rfl,by omega,hst⟩);(case measure=>simp;omega))
     | (exfalso;have hb:=H.out;unfold badR at hb;rw [hD] at hb;simp_all;omega)
     | (exfalso;have hb:=H.out;unfold badR at hb;rw [hD] at hb;simp_all)
  ·have hnx:∀ ty,(Instr.next (.pointer (some ⟨w.heap.size,0,none⟩)) true ty).run Tryz.prog (w.iter s pos)=_:=fun ty=>run_next_end w s pos ty hp
   go_wp2
   go_ret
   exact ⟨vT (one_end hr hp),qfi w s _⟩
abbrev sgC:Array Value := #[.int .u8 32,.int .u8 10,.int .u8 124,.int .u8 47,.int .u8 60,.int .u8 62,.int .u8 126,.int .u8 91,.int .u8 93,.int .u8 42,.int .u8 34]
def sgV (i:Nat):Int:=(([32,10,124,47,60,62,126,91,93,42,34]:List Int).getD i 0)
def YF (c:Int):Bool:=([32,10,124,47,60,62,126,91,93,42,34]:List Int).contains c
theorem ends_no {c:Int} (h:∀ j,j<11→sgV j≠c):YF c=false:=by
 have h0:=h 0 (by decide);have h1:=h 1 (by decide);have h2:=h 2 (by decide);have h3:=h 3 (by decide);have h4:=h 4 (by decide);have h5:=h 5 (by decide)
 have h6:=h 6 (by decide);have h7:=h 7 (by decide);have h8:=h 8 (by decide);have h9:=h 9 (by decide);have h10:=h 10 (by decide)
 simp only [sgV,List.getD_cons_zero,List.getD_cons_succ] at h0 h1 h2 h3 h4 h5 h6 h7 h8 h9 h10
 unfold YF
 simp only [List.contains_cons,List.contains_nil,Bool.or_false,Bool.or_eq_false_iff,beq_eq_false_iff_ne]
 omega
theorem ends_yes {c:Int} {i:Nat} (hi:i<11) (h:sgV i=c):YF c=true:=by
 subst h
 have:i=0∨i=1∨i=2∨i=3∨i=4∨i=5∨i=6∨i=7∨i=8∨i=9∨i=10:=by omega
 rcases this with h|h|h|h|h|h|h|h|h|h|h <;> subst h <;> rfl
theorem sg_cell (w:World) (T:TypeId) (x y:Nat):∀ i,i<11→(w.alloc (.cells sgC T (x,y))).cell? ⟨w.heap.size,i,none⟩=some (.int .u8 (sgV i)):=by
 intro i hi
 have h0:(w.alloc (.cells sgC T (x,y))).heap[w.heap.size]? = some (.cells sgC T (x,y)):=by
  show (w.heap.push _)[w.heap.size]? = _
  simp
 have:i=0∨i=1∨i=2∨i=3∨i=4∨i=5∨i=6∨i=7∨i=8∨i=9∨i=10:=by omega
 rcases this with h|h|h|h|h|h|h|h|h|h|h <;> subst h <;> (unfold World.cell?;rw [h0];rfl)
set_option maxRecDepth 1000000 in
theorem ends_walk (c:Int) (w:World) :
  Calls Tryz.prog 77 #[.int .u8 c] w fun e w'=>e = .returned (.bool (YF c))∧Below w.heap.size w w':=by
 have hcv:∀ C n k,(convert 73 73 (.slice (some ⟨w.heap.size,0,none⟩) n k)).run Tryz.prog (w.alloc (.cells C 5))=_:=fun C n k=>Lib.run_convert_bytes_const w 73 5 C n k Tryz.underlying73 Tryz.underlying5
 go_enter Tryz.func77,Tryz.ntmps77
 go_wp2
 go_loop [8] (fun n=>∃ i:Nat,n = .int .i64 i∧i≤11∧∀ j,j<i→sgV j≠c) (fun n=>match n with | .int _ k=>(11-k).toNat|_=>0)
 case atStart=>exact ⟨0,rfl,by decide,fun j hj=>absurd hj (Nat.not_lt_zero j)⟩
 case round =>
  obtain ⟨i,rfl,hi,hj⟩:=hrel
  by_cases hp:i<11
  ·have hcell:=sg_cell w 5 11 12 i hp
   by_cases hc:c=sgV i
   ·have hend:=Lib.hid (ends_yes hp hc.symm)
    subst hc
    go_wp2
    go_ret
    exact ⟨vT hend.out.symm,(Below.refl _ _).alloc (Nat.le_refl _) _⟩
   ·go_wp2
    refine ⟨⟨i+1,rfl,by omega,fun j h=>?_⟩,by dsimp only;omega⟩
    rcases Nat.lt_or_ge j i with h'|h'
    ·exact hj j h'
    ·rw [show j=i by omega]
     exact fun e=>hc e.symm
  ·have hend:=Lib.hid (ends_no (c:=c) fun j h=>hj j (by omega))
   go_wp2
   go_ret
   exact ⟨vT hend.out.symm,(Below.refl _ _).alloc (Nat.le_refl _) _⟩
end Go.Proofs.YtmlnilkbolcknaaGreatDoor
namespace Go.Proofs.YtmlnilkbolcknaaGreatDoor.Pm
open Go Go.Proofs.YtmlnilkbolcknaaGreatDoor.Pi
/-! ### runes -/
def VW (l:zX) (i:Nat):Nat:=(l.getD i 0).toNat
theorem qig (l:zX) (i:Nat):VW l i<256:=(l.getD i 0).toNat_lt
theorem YE (l:zX) (i:Nat):((st l).get! i).toNat=VW l i:=by
 unfold VW
 show (l.toArray[i]!).toNat=_
 rw [List.getD_eq_getElem?_getD]
 by_cases h:i<l.length
 ·simp [h]
 ·have h':l.length≤i:=by omega
  simp [h']
  rfl
theorem dec_N (l:zX) (h:l≠[]):Lib.decodeGo (st l)=Lib.decodeN l.length (VW l 0) (VW l 1) (VW l 2) (VW l 3):=by
 have hs:(st l).size≠0:=fun e=>h (List.length_eq_zero_iff.1 e)
 unfold Lib.decodeGo
 rw [if_neg hs,Lib.decode_at,YE,YE,YE,YE]
 rfl
theorem dec_N' (l:zX):Utf8.decode (st l) 0=Lib.decodeN l.length (VW l 0) (VW l 1) (VW l 2) (VW l 3):=by
 rw [Lib.decode_at,YE,YE,YE,YE]
 rfl
theorem Zj (l:zX) {n i:Nat} (h:i<n):VW (l.take n) i=VW l i:=by
 unfold VW
 rw [List.getD_eq_getElem?_getD,List.getD_eq_getElem?_getD,List.getElem?_take_of_lt h]
def yw (l:zX):Nat:=if vj (zU l) (zj l)=true then zj l else 0
theorem list3 {t:zX} (h:t.length=3):t=[239,191,189]↔VW t 0=239∧VW t 1=191∧VW t 2=189:=by
 match t,h with
 | [a,b,c],_ =>
  simp only [VW,List.getD_cons_zero,List.getD_cons_succ,List.cons.injEq,and_true]
  constructor
  ·rintro ⟨rfl,rfl,rfl⟩;decide
  ·rintro ⟨h1,h2,h3⟩
   exact ⟨UInt8.toNat_inj.1 h1,UInt8.toNat_inj.1 h2,UInt8.toNat_inj.1 h3⟩
theorem qgu (n b0 b1 b2 b3:Nat):1≤(Lib.decodeN n b0 b1 b2 b3).2∧(Lib.decodeN n b0 b1 b2 b3).2≤4:=by
 unfold Lib.decodeN
 repeat' split
 all_goals (constructor <;> (dsimp only;omega))
theorem decN_short {n m b0 b1 b2 b3 c1 c2 c3:Nat} (hn:1≤n) (hnm:n≤m) (h1:1<n→c1=b1) (h2:2<n→c2=b2) (h3:3<n→c3=b3) :
  (n<(Lib.decodeN m b0 b1 b2 b3).2→Lib.decodeN n b0 c1 c2 c3=(65533,1))∧((Lib.decodeN m b0 b1 b2 b3).2≤n→Lib.decodeN n b0 c1 c2 c3=Lib.decodeN m b0 b1 b2 b3):=by
 have e1:1<n→1<m:=by omega
 have e2:2<n→2<m:=by omega
 have e3:3<n→3<m:=by omega
 have hw:=qgu m b0 b1 b2 b3
 rcases Nat.lt_or_ge 1 n with g1|g1
 ·have k1:=h1 g1
  subst k1
  have f1:=e1 g1
  rcases Nat.lt_or_ge 2 n with g2|g2
  ·have k2:=h2 g2
   subst k2
   have f2:=e2 g2
   rcases Nat.lt_or_ge 3 n with g3|g3
   ·have k3:=h3 g3
    subst k3
    have f3:=e3 g3
    refine ⟨fun h=>by omega,fun _=>?_⟩
    unfold Lib.decodeN
    simp only [g1,g2,g3,f1,f2,f3,true_and]
   ·have g3':¬ 3<n:=by omega
    unfold Lib.decodeN at hw ⊢
    simp only [g1,g2,g3',f1,f2,true_and,false_and,and_false,if_false] at hw ⊢
    constructor <;> intro h
    ·repeat' split at h
     all_goals first
      | (exfalso;dsimp only at h;omega)
      | ((repeat' split);(all_goals first | rfl | (exfalso;omega)))
    ·repeat' split at h
     all_goals first
      | (exfalso;dsimp only at h;omega)
      | ((repeat' split);(all_goals first | rfl | (exfalso;omega)))
  ·have g2':¬ 2<n:=by omega
   have g3':¬ 3<n:=by omega
   unfold Lib.decodeN at hw ⊢
   simp only [g1,g2',g3',f1,true_and,false_and,and_false,if_false] at hw ⊢
   constructor <;> intro h
   ·repeat' split at h
    all_goals first
     | (exfalso;dsimp only at h;omega)
     | ((repeat' split);(all_goals first | rfl | (exfalso;omega)))
   ·repeat' split at h
    all_goals first
     | (exfalso;dsimp only at h;omega)
     | ((repeat' split);(all_goals first | rfl | (exfalso;omega)))
 ·have g1':¬ 1<n:=by omega
  have g2':¬ 2<n:=by omega
  have g3':¬ 3<n:=by omega
  unfold Lib.decodeN at hw ⊢
  simp only [g1',g2',g3',false_and,and_false,if_false] at hw ⊢
  constructor <;> intro h
  ·repeat' split at h
   all_goals first
    | (exfalso;dsimp only at h;omega)
    | ((repeat' split);(all_goals first | rfl | (exfalso;omega)))
  ·repeat' split at h
   all_goals first
    | (exfalso;dsimp only at h;omega)
    | ((repeat' split);(all_goals first | rfl | (exfalso;omega)))
theorem decN_fffd {m b0 b1 b2 b3 w:Nat} (h0:b0<256) (h1:b1<256) (h2:b2<256) (h:Lib.decodeN m b0 b1 b2 b3=(65533,w)) (hw:1<w):w=3∧b0=239∧b1=191∧b2=189:=by
 unfold Lib.decodeN at h
 repeat' split at h
 all_goals (simp only [Prod.mk.injEq] at h;omega)
theorem qby (t:zX):(st t).toList=t:=qbz t
theorem qjr {l:zX} {n:Nat} (h1:1≤n) (h2:n≤l.length):Vy (st (l.take n))=decide (vj (zU l) (zj l)=true∧zj l=n):=by
 have hl:l≠[]:=fun e=>by subst e;simp at h2;omega
 have ht:(l.take n).length=n:=by rw [List.length_take];omega
 have hsz:(st (l.take n)).size=n:=ht
 have hd:=dec_N l hl
 have hs:=decN_short (b0:=VW l 0) (b1:=VW l 1) (b2:=VW l 2) (b3:=VW l 3) (c1:=VW (l.take n) 1) (c2:=VW (l.take n) 2) (c3:=VW (l.take n) 3) h1 h2 (fun h=>Zj l h) (fun h=>Zj l h) (fun h=>Zj l h)
 have hdt:Utf8.decode (st (l.take n)) 0=Lib.decodeN n (VW l 0) (VW (l.take n) 1) (VW (l.take n) 2) (VW (l.take n) 3):=by
  rw [dec_N',ht,Zj l (show 0<n by omega)]
 have hf:¬ (st (l.take n)).toList=[239,191,189]→Vy (st (l.take n))=true→(Utf8.decode (st (l.take n)) 0).1≠65533:=fun h3 h4 h5=>by
  have:=of_decide_eq_true h4
  exact this.2.1 (.inr (.inr (.inr ⟨h5,h3⟩)))
 unfold zU zj
 rw [hd]
 by_cases hlt:n<(Lib.decodeN l.length (VW l 0) (VW l 1) (VW l 2) (VW l 3)).2
 ·have he:=hs.1 hlt
  rw [decide_eq_false (fun c=>by omega)]
  refine decide_eq_false fun c=>?_
  rw [hdt,he] at c
  have h3:n=1:=by have:=c.2.2;rw [hsz] at this;omega
  refine c.2.1 (.inr (.inr (.inr ⟨rfl,fun e=>?_⟩)))
  rw [qby] at e
  rw [e] at ht
  simp at ht
  omega
 ·have he:=hs.2 (by omega)
  unfold Vy
  rw [hdt,he,hsz,Bool.eq_iff_iff,decide_eq_true_eq,decide_eq_true_eq]
  obtain ⟨⟨r,w⟩,hrw⟩:∃ q,Lib.decodeN l.length (VW l 0) (VW l 1) (VW l 2) (VW l 3)=q:=⟨_,rfl⟩
  rw [hrw] at hlt ⊢
  dsimp only at hlt ⊢
  by_cases hwn:w=n
  ·have key:badR r (st (l.take n))↔¬ vj (r:Int) (w:Int)=true:=by
    have e:(r=65533∧¬ (st (l.take n)).toList=[239,191,189])↔(r=65533∧¬ 1<w):=by
     constructor
     ·rintro ⟨h3,h4⟩
      refine ⟨h3,fun h5=>h4 ?_⟩
      subst h3
      obtain ⟨h6,h7,h8,h9⟩:=decN_fffd (qig l 0) (qig l 1) (qig l 2) hrw h5
      rw [qby,list3 (by omega),Zj l (by omega),Zj l (by omega),Zj l (by omega)]
      exact ⟨h7,h8,h9⟩
     ·rintro ⟨h3,h4⟩
      refine ⟨h3,fun h5=>?_⟩
      rw [qby] at h5
      rw [h5] at ht
      simp at ht
      omega
    unfold badR vj
    rw [e,decide_eq_true_eq]
    omega
   constructor
   ·rintro ⟨_,h3,h4⟩
    exact ⟨Classical.byContradiction fun h5=>h3 (key.2 h5),h4⟩
   ·rintro ⟨h3,h4⟩
    exact ⟨by omega,fun h5=>key.1 h5 h3,h4⟩
  ·constructor
   ·rintro ⟨_,_,h4⟩;exact absurd h4 hwn
   ·rintro ⟨_,h4⟩;exact absurd h4 hwn
theorem rune_yes {l:zX} {n:Nat} (h1:1≤n) (h2:n≤l.length) (h:Vy (st (l.take n))=true):yw l=n:=by
 rw [qjr h1 h2] at h
 have:=of_decide_eq_true h
 unfold yw
 rw [if_pos this.1]
 exact this.2
theorem qgx (l:zX):zj l≤4:=by
 by_cases h:l=[]
 ·subst h;show 0≤4;omega
 ·unfold zj
  rw [dec_N l h]
  exact (qgu ..).2
theorem rune_no {l:zX} (h:∀ n,1≤n→n≤4→n≤l.length→Vy (st (l.take n))=false):yw l=0:=by
 unfold yw
 split
 ·rename_i c
  have h1:=jx c
  have h2:=QU l
  have h3:=h (zj l) h1.1 (qgx l) h2
  rw [qjr h1.1 h2,decide_eq_true ⟨c,rfl⟩] at h3
  cases h3
 ·rfl
theorem qhh (l:zX):yw l≤l.length∧yw l≤4:=by
 unfold yw
 split
 ·exact ⟨QU l,qgx l⟩
 ·omega
theorem WW {l:zX} (h:0<l.length):(((l.getD 0 0).toNat:Nat):Int)=34↔zj l=1∧zU l=34:=by
 have hl:l≠[]:=fun e=>by subst e;simp at h
 have hd:=dec_N l hl
 have hb:=qig l 0
 unfold zU zj
 rw [hd]
 have e:(l.getD 0 0).toNat=VW l 0:=rfl
 rw [e]
 unfold Lib.decodeN
 repeat' split
 all_goals (dsimp only;omega)

/-! ### words -/
def qK (s:zX) (a:Nat):zX:=(s.drop a).takeWhile fun b=>!sgn.contains b
theorem qie (b:UInt8):YF (((b.toNat:Nat):Int))=sgn.contains b:=by
 have:∀ b:UInt8,YF (((b.toNat:Nat):Int))=sgn.contains b:=by
  intro b
  have h:∀ n:Fin 256,YF ((((UInt8.ofNat n.1).toNat:Nat):Int))=sgn.contains (UInt8.ofNat n.1):=by decide +kernel
  have:=h ⟨b.toNat,b.toNat_lt⟩
  simpa using this
 exact this b
theorem word_step {s:zX} {n:Nat} (h:n<s.length) (hc:sgn.contains (s.getD n 0)=false):qK s n=s.getD n 0 :: qK s (n+1):=by
 unfold qK
 rw [Wz h,List.takeWhile_cons,hc]
 rfl
theorem WM {s:zX} {n:Nat} (h:¬ n<s.length∨sgn.contains (s.getD n 0)=true):qK s n=[]:=by
 unfold qK
 by_cases hl:n<s.length
 ·rw [Wz hl,List.takeWhile_cons,h.resolve_left (fun c=>c hl)]
  rfl
 ·rw [List.drop_eq_nil_of_le (by omega)]
  rfl
theorem WL {s:zX} {a n:Nat} (ha:a≤n) (hn:n≤s.length) (h:qK s a=(s.drop a).take (n-a)++qK s n) (hz:qK s n=[]):(s.drop a).take (n-a)=qK s a:=by
 rw [h,hz,List.append_nil]
theorem qfu {s:zX} {a n:Nat} (ha:a≤n) (hn:n<s.length) (h:qK s a=(s.drop a).take (n-a)++qK s n) (hc:sgn.contains (s.getD n 0)=false):qK s a=(s.drop a).take (n+1-a)++qK s (n+1):=by
 rw [h,word_step hn hc,show n+1-a=(n-a)+1 by omega,List.take_add_one,List.getElem?_drop,show a+(n-a)=n by omega,List.getElem?_eq_getElem hn,List.append_assoc]
 have e:s.getD n 0=s[n]:=by rw [List.getD_eq_getElem?_getD,List.getElem?_eq_getElem hn];rfl
 rw [e]
 rfl
theorem WN {s:zX} {a:Nat} (h:a≤s.length):a+(qK s a).length≤s.length:=by
 have h1:=(List.takeWhile_prefix (fun b=>!sgn.contains b) (l:=s.drop a)).length_le
 rw [List.length_drop] at h1
 unfold qK
 omega

/-! ### numbers -/
def zx (p:Bool × Int) (b:UInt8):Bool × Int:=if (b.toNat:Int)<48∨57<(b.toNat:Int) then (false,p.2) else (p.1,if p.2≤65536 then 10*p.2+(((b.toNat:Nat):Int)-48) else p.2)
def g0N (w:zX):Bool:=decide (0<w.length∧(w.length=1∨(w.getD 0 0).toNat≠48))
def jY (w:zX):Bool × Int:=w.foldl zx (g0N w,0)
theorem vk {w:zX} {i:Nat} {p:Bool × Int} (h:i<w.length):(w.drop i).foldl zx p=(w.drop (i+1)).foldl zx (zx p (w.getD i 0)):=by
 rw [List.drop_eq_getElem_cons h,List.foldl_cons,List.getD_eq_getElem?_getD,List.getElem?_eq_getElem h];rfl
theorem qiz:∀ (w:zX) (p:Bool × Int),(w.foldl zx p).1=true↔p.1=true∧∀ b∈w,b∈digs
 | [],p=>by simp
 | b :: w,p=>by
  rw [List.foldl_cons,qiz w]
  unfold zx
  split
  ·rename_i c
   simp only [Bool.false_eq_true,false_and,false_iff]
   intro h
   exact qeo c (h.2 b (by simp))
  ·rename_i c
   constructor
   ·rintro ⟨h1,h2⟩
    refine ⟨h1,fun x hx=>?_⟩
    rcases List.mem_cons.1 hx with rfl|hx
    ·exact isdig (fun q=>c (.inl q)) (fun q=>c (.inr q))
    ·exact h2 x hx
   ·rintro ⟨h1,h2⟩
    exact ⟨h1,fun x hx=>h2 x (by simp [hx])⟩
theorem qhi:∀ (w:zX) (acc:Nat) (g:Bool) (n:Int),(∀ b∈w,b∈digs)→(n=(acc:Int)∨(65536<n∧n≤(acc:Int))) →
  ∃ v:Nat,Lib.decFrom acc w=some v∧acc*10 ^ w.length≤v∧((w.foldl zx (g,n)).2=(v:Int)∨(65536<(w.foldl zx (g,n)).2∧(w.foldl zx (g,n)).2≤(v:Int)))
 | [],acc,g,n,_,h=>⟨acc,rfl,by simp,h⟩
 | b :: w,acc,g,n,hd,h=>by
  obtain ⟨d,h1,h2,h3⟩:=QT (hd b (by simp))
  have hs:zx (g,n) b=(g,if n≤65536 then 10*n+(((b.toNat:Nat):Int)-48) else n):=by
   unfold zx
   rw [if_neg (by omega)]
  obtain ⟨v,h4,h5,h6⟩:=qhi w (acc*10+d) g (if n≤65536 then 10*n+(((b.toNat:Nat):Int)-48) else n) (fun x hx=>hd x (by simp [hx])) (by
   split <;> omega)
  refine ⟨v,by rw [Lib.decFrom,h1];exact h4,?_,by rw [List.foldl_cons,hs];exact h6⟩
  rw [List.length_cons,Nat.pow_succ,Nat.mul_comm (10 ^ w.length) 10,← Nat.mul_assoc]
  exact Nat.le_trans (Nat.mul_le_mul_right _ (by omega)) h5
theorem atoi_from {w:zX} {v:Nat} (h0:w≠[]) (hd:∀ b∈w,b∈digs) (h:Lib.decFrom 0 w=some v):yG w=(v:Int):=by
 cases w with
 | nil=>exact absurd rfl h0
 | cons b r =>
  obtain ⟨d,_,h2,h3⟩:=QT (hd b (by simp))
  have hb1:(b == 45)=false:=by
   rw [beq_eq_false_iff_ne]
   intro e
   subst e
   have:(45:UInt8).toNat=45:=rfl
   omega
  have hb2:(b == 43)=false:=by
   rw [beq_eq_false_iff_ne]
   intro e
   subst e
   have:(43:UInt8).toNat=43:=rfl
   omega
  unfold yG Lib.atoi
  dsimp only
  rw [hb1,hb2]
  simp only [Bool.false_eq_true,if_false,Lib.decNat,List.isEmpty_cons]
  rw [h]
  rfl
theorem imp_and_distrib' {p q r:Prop}:(p→q∧r)↔((p→q)∧(p→r)):=⟨fun h=>⟨fun c=>(h c).1,fun c=>(h c).2⟩,fun h c=>⟨h.1 c,h.2 c⟩⟩
theorem numW_R (s:zX) (a:Nat):((jY (qC s a)).1=false→qE s a=(2,0,qA s a)) ∧
  ((jY (qC s a)).1=true→((jY (qC s a)).2<1∨65536<(jY (qC s a)).2)→qE s a=(3,0,qA s a)) ∧
  ((jY (qC s a)).1=true→¬ ((jY (qC s a)).2<1∨65536<(jY (qC s a)).2)→qE s a=(0,(jY (qC s a)).2,qA s a+(qC s a).length)):=by
 obtain ⟨w,hw⟩:∃ w,qC s a=w:=⟨_,rfl⟩
 unfold qE
 rw [hw]
 have hg:=qiz w (g0N w,0)
 have hg':(jY w).1=true↔g0N w=true∧∀ b∈w,b∈digs:=hg
 have htr:Lib.trimS w digs=[]↔∀ b∈w,b∈digs:=trim_nil
 have h0:g0N w=true↔0<w.length∧(w.length=1∨(w.getD 0 0).toNat≠48):=by unfold g0N;exact decide_eq_true_iff
 refine ⟨fun h=>?_,?_⟩
 ·have h1:¬ (g0N w=true∧∀ b∈w,b∈digs):=fun c=>by rw [← hg',h] at c;cases c
  by_cases c1:w=[]
  ·rw [if_pos c1]
  rw [if_neg c1]
  have hlen:=List.length_pos_iff.2 c1
  by_cases c2:Lib.trimS w digs=[]
  ·rw [if_pos c2]
   have h2:¬ (w.length=1∨(w.getD 0 0).toNat≠48):=fun c=>h1 ⟨h0.2 ⟨hlen,c⟩,htr.1 c2⟩
   rw [if_pos (by omega)]
  ·rw [if_neg c2]
 ·refine imp_and_distrib'.1 fun h=>?_
  have h1:=hg'.1 h
  have h2:=h0.1 h1.1
  have c1:w≠[]:=List.length_pos_iff.1 h2.1
  rw [if_neg c1,if_pos (htr.2 h1.2),if_neg (show ¬ (1<w.length∧(w.getD 0 0).toNat=48) by omega)]
  obtain ⟨v,h3,_,h5⟩:=qhi w 0 (g0N w) 0 h1.2 (.inl rfl)
  have h6:=atoi_from c1 h1.2 h3
  have h5':(jY w).2=(v:Int)∨(65536<(jY w).2∧(jY w).2≤(v:Int)):=h5
  have hlong:18<w.length→65536<(jY w).2:=fun hl=>by
   cases w with
   | nil=>exact absurd rfl c1
   | cons b r =>
    obtain ⟨d,k1,k2,k3⟩:=QT (h1.2 b (by simp))
    have hb:b.toNat≠48:=by
     have:=h2.2
     simp only [List.getD_cons_zero,List.length_cons] at this hl
     omega
    obtain ⟨v',k4,k5,_⟩:=qhi r (0*10+d) (g0N (b :: r)) ((0*10+d:Nat):Int) (fun x hx=>h1.2 x (by simp [hx])) (.inl rfl)
    have k6:Lib.decFrom 0 (b :: r)=some v':=by rw [Lib.decFrom,k1];exact k4
    rw [h3] at k6
    cases k6
    have k7:10 ^ 18≤10 ^ r.length:=Nat.pow_le_pow_right (by decide) (by simp only [List.length_cons] at hl;omega)
    have k8:10 ^ r.length≤(0*10+d)*10 ^ r.length:=by
     have:=Nat.mul_le_mul_right (10 ^ r.length) (show 1≤0*10+d by omega)
     omega
    omega
  rw [h6]
  constructor
  ·intro hb
   split
   ·rfl
   ·rename_i c3
    rw [if_pos (by omega)]
  ·intro hb
   have hs:¬ 18<w.length:=fun hl=>hb (.inr (hlong hl))
   rw [if_neg hs,if_neg (by omega)]
   have:(jY w).2=(v:Int):=by omega
   rw [this]
def PX (P:Program) (f:FuncId) (args:List PV) (H:Hp) (v:Value) (H':Hp):Prop:=FnOk P f∧H.length≤H'.length∧∀ (c:Cx) (vs:Array Value),Heap (jZ P c H) (· < H.length) c (VX H)→RL P c args vs →
 Calls P f vs c.w fun e w'=>∃ c',e = .panicked [{ v:=v,recovered:=false }]∧c'.w=w'∧Heap (jZ P c H) (· < H'.length) c' (VX H')
inductive O where
 | ret (r:PV) (H':Hp)
 | pan (v:Value) (H':Hp)
def O.H:O→Hp
 | .ret _ H'=>H'
 | .pan _ H'=>H'
def PO (P:Program) (f:FuncId) (args:List PV) (H:Hp):O→Prop
 | .ret r H'=>PC P f args H r H'
 | .pan v H'=>PX P f args H v H'

/-! ### an operation that panics -/
def callX (P:Program) (f:FuncId) (args:List PV) (id:Nat) (ids:List Nat) (bs:List PV) (H:Hp) (v:Value) (H':Hp):Plan :=
 match Nat.ble H'.length (ids.length+8),wL ids with
 | true,true=>.ob (PX P f bs H v H') (.ob (args=vJ (yq ids id) bs) (qcw (yq ids id) ids H (.done (.av v) (jK (wW ids id) 0 H'))))
 | _,_=>.fail
def panP (x:Operand):Plan:=opd x fun p=>match p with
 | .av (.iface t v)=>.done (.av (.iface t v)) []
 | _=>.fail
def planX (P:Program) (o:Oper) (an:Ans) (id:Nat):Plan:=match o.op with
 | .panic x=>panP x
 | .call { callee:=.value fx,args,.. }=>opd fx fun fv=>opdl args.toList fun qs=>match fv,an with
  | .av (.func (.func f) fs cs),.call ids bs H (.av v) H'=>callX P f (fs.toList.map .av++qs.map cz++cs.toList.map .av) id ids bs H v H'
  | _,_=>.fail
 | _=>.fail
abbrev chn (v:Value):Exit:=.panic [{ v:=v,recovered:=false }]
def XOk (E:Env) (o:Oper) (id:Nat) (pl:Plan):Prop:=∀ (g:St) (v:Value) (wb:L),Res g pl (.av v) wb→∀ (nx:Nat→Prop) (c:Cx) (a:Act) (K:Act→World→Prop) (Q:Exit→Act→World→Prop),(∀ t,t<8→¬ nx (id+t))→Inv E nx c g a →
 (∀ c',Inv E (fun j=>nx j∨(id≤j∧j<id+8)) c' (zF wb g) a→Q (chn v) a c'.w)→o.wp E.P a c.w K Q
theorem Inv.keeps {E:Env} {nx nx':Nat→Prop} {c c':Cx} {g g':St} {a:Act} (h:Inv E nx c g a) (hk:Keep c c') (hh:Heap E nx' c' g') (hs:∀ s,g' (ks s)=g (ks s)):Inv E nx' c' g' a :=
 { hh with tmps:=h.tmps,dfr:=h.dfr,slot:=fun s p hp=>(h.slot s p (by rw [← hs];exact hp)).mono hk,isv:=fun s x hx=>h.isv s x (by rw [← hs];exact hx) }
theorem qjn {E:Env} {o:Oper} {id:Nat} {an:Ans}:XOk E o id (planX E.P o an id):=by
 intro g v wb h nx c a K Q hn hI hQ
 unfold planX at h
 split at h
 ·rename_i x ho
  unfold panP at h
  obtain ⟨q,hq,h1⟩:=Res.opd hI h
  split at h1
  ·rename_i t u
   obtain ⟨h2,rfl⟩:=Res.done h1
   cases h2
   have hv:=zE hq
   have hr:(execOp a.eval o).run E.P c.w = .halt (.panic (.iface t u)) c.w:=by
    simp [execOp,ho,hv,Instr.panic,goPanic,Sem.run]
   unfold Oper.wp
   rw [hr,Oper.upon_panic]
   exact hQ c (hI.more fun _ h=>.inl h)
  ·exact (Res.fail h1).elim
 ·rename_i fx xs ts ho
  obtain ⟨q,hq,h1⟩:=Res.opd hI h
  obtain ⟨ps,hps,h2⟩:=Res.opdl hI h1
  have hps':RL E.P c ps (xs.map a.eval):=by
   have e:(xs.toList.map a.eval).toArray=xs.map a.eval:=by apply Array.ext';simp
   rw [← e];exact hps
  split at h2
  ·rename_i f fs cs ids bs H u H'
   unfold callX at h2
   split at h2
   case h_2=>exact (Res.fail h2).elim
   rename_i hb1 hb2
   obtain ⟨⟨hfn,hHl,hpc⟩,h3⟩:=Res.ob h2
   obtain ⟨he,h4⟩:=Res.ob h3
   obtain ⟨hlen,h5,hlent⟩:=qbm h4
   obtain ⟨h6,rfl⟩:=Res.done h5
   cases h6
   have hrl:=((QA (P:=E.P) (c:=c) fs).append hps'.czs).append (QA cs)
   rw [he] at hrl
   have hex:(execOp a.eval o).run E.P c.w = .ok (.enter f (fs++xs.map a.eval++cs)) c.w:=by
    obtain ⟨fn,h1,h2,h3⟩:=hfn
    have h4:(callFunc f (fs++xs.map a.eval++cs)).run E.P c.w = .ok (.enter f (fs++xs.map a.eval++cs)) c.w:=by
     have h2':¬ fn.body=none:=fun e=>by rw [e] at h2;cases h2
     have h3' : ¬ fn.name = "runtime.NumGoroutine" := by simpa using h3
     simp [callFunc,h1,h3',h2']
    simp only [execOp,ho,resolve,zE hq,Deferred.ofValue,invoke,Sem.run_bind,Sem.run_pure,Result.andThen_ok]
    exact h4
   refine qkz (G:=fun e _=>e = .panicked [{ v:=v,recovered:=false }]) hn hI (Nat.le_of_ble_eq_true hb1) hb2 hHl hlen hlent (fun c vs h1 h2=>(hpc c vs h1 h2).mono ?_) hrl hex ?_
   ·rintro e w' ⟨c',rfl,rfl,h4⟩
    exact ⟨c',rfl,h4,rfl⟩
   ·rintro e c' own2 rfl hk hto hh2
    refine hQ ⟨c'.w,c'.S,own2⟩ (hI.keeps hk hh2 fun s=>?_)
    unfold zF
    rw [QL]
  ·exact (Res.fail h2).elim
 ·exact (Res.fail h).elim
def qex (P:Program) (ops:List Oper) (o:Oper) (an:Ans) (id:Nat):Plan:=match o.guard with
 | none=>planX P o an id
 | some (j,want)=>match (ops[j]?).bind (·.dst) with
  | some d=>.look (ks d) fun v=>match v,an with
   | .pv (.av (.bool t)),.gd b an'=>.ob (t=b) (match b == want with | true=>planX P o an' id | false=>.fail)
   | _,_=>.fail
  | none=>.fail
def StepX (E:Env) (ops:Array Oper) (i:Nat) (v:Value) (wb:L) (id:Nat) (g:St):Prop :=
 ∀ (nx:Nat→Prop) (c:Cx) (a:Act) (K:Act→World→Prop) (Q:Exit→Act→World→Prop),(∀ t,t<8→¬ nx (id+t))→Inv E nx c g a →
  (∀ c',Inv E (fun j=>nx j∨(id≤j∧j<id+8)) c' (zF wb g) a→Q (chn v) a c'.w)→wpOp E.P ops Q i K a c.w
theorem gplanX_ok {E:Env} {l:List Oper} {i:Nat} {o:Oper} {id:Nat} {an:Ans} (ho:l[i]? = some o) {g:St} {out:Out} {v:Value} (hr:run g (qex E.P l o an id)=some out) (hv:out.pv = .av v) (hob:∀ p∈out.obs,p) :
  StepX E l.toArray i v out.wb id g:=by
 intro nx c a K Q hn hI hQ
 have hres:Res g (qex E.P l o an id) (.av v) out.wb:=⟨out,hr,hv,rfl,hob⟩
 have ho':l.toArray[i]? = some o:=by simpa using ho
 unfold wpOp
 simp only [ho']
 unfold qex at hres
 split at hres
 ·rename_i hg
  rw [if_pos (by simp [Region.wanted,hg])]
  exact .inl (qjn g _ _ hres nx c a K Q hn hI hQ)
 ·rename_i j want hg
  split at hres
  ·rename_i d hj
   obtain ⟨v',hv',h1⟩:=Res.look hres
   split at h1
   ·rename_i t b an'
    obtain ⟨rfl,h2⟩:=Res.ob h1
    have h3:=zE (hI.slot d _ hv')
    have h4:a.tmps[d]? = some (.bool t):=by
     rw [Array.getD_eq_getD_getElem?] at h3
     cases hx:a.tmps[d]? with
     | none=>rw [hx] at h3;cases h3
     | some x=>rw [hx] at h3;simp only [Option.getD_some] at h3;rw [h3]
    have hy:yielded l.toArray a.tmps j=some t:=by
     unfold yielded
     have hj':(l.toArray[j]?).bind (·.dst)=some d:=by simpa using hj
     rw [hj']
     simp [h4]
    have hw:Region.wanted o (yielded l.toArray a.tmps)=(t == want):=by
     unfold Region.wanted
     simp only [hg,hy]
     cases t <;> cases want <;> rfl
    split at h2
    ·rename_i hbw
     rw [if_pos (by rw [hw];exact hbw)]
     exact .inl (qjn g _ _ h2 nx c a K Q hn hI hQ)
    ·exact (Res.fail h2).elim
   ·exact (Res.fail h1).elim
  ·exact (Res.fail hres).elim

/-! ### a region in which one panics -/
section
variable {E:Env} {n0:Nat} {g0:St} {W:Nat→L}
theorem nx_lt {n0 m:Nat} {p:Nat→Bool} (hp:∀ j,p j=true→j<m) {id:Nat} (h:nxP n0 p id):id<n0+8*m:=by
 rcases h with h|⟨j,h1,h2,h3⟩
 ·omega
 ·have:=hp j h1
  omega
theorem qiw {ops:Array Oper} {j:Nat} (hj:j<ops.size) {v:Value} {wb:L}
  (hs:∀ i,i<j→∃ o out,ops[i]? = some o∧W i=wr o.dst out∧WJ E ops i o out (n0+8*i) (yZ g0 W (fun t=>decide (t<i)) ops.size))
  (hx:StepX E ops j v wb (n0+8*j) (yZ g0 W (fun t=>decide (t<j)) ops.size)) {Q:Exit→Act→World→Prop}
  (hQ:∀ p c a,Inv E (fun id=>id<n0+8*ops.size) c (zF wb (yZ g0 W p ops.size)) a→Q (chn v) a c.w) :
  ∀ (r k:Nat),k+r=j→∀ c a,Inv E (nxP n0 (fun t=>decide (t<k))) c (yZ g0 W (fun t=>decide (t<k)) ops.size) a →
   wpOps E.P ops Q ((List.range ops.size).drop k) a c.w
 | 0,k,hk,c,a,h=>by
  obtain rfl:k=j:=by omega
  rw [List.drop_eq_getElem_cons (by simpa using hj),List.getElem_range,wpOps_cons]
  refine hx _ c a _ Q (qck (by simp)) h fun c' h'=>hQ _ c' a (h'.more fun id hid=>?_)
  rcases hid with h1|h1
  ·have:=nx_lt (m:=k) (fun j hj=>by simpa using hj) h1
   omega
  ·omega
 | r+1,k,hk,c,a,h=>by
  have hlt:k<ops.size:=by omega
  rw [List.drop_eq_getElem_cons (by simpa using hlt),List.getElem_range,wpOps_cons]
  obtain ⟨o,out,ho,hW,hst⟩:=hs k (by omega)
  refine hst (nxP n0 (fun j=>decide (j<k))) c a _ Q (qck (by simp)) h fun c' a' h'=>?_
  refine qiw hj hs hx hQ r (k+1) (by omega) c' a' ?_
  have e:(fun j=>decide (j<k+1))=QQ (fun j=>decide (j<k)) k:=by
   funext j
   unfold QQ
   by_cases e:j=k
   ·subst e;simp
   ·simp [e];omega
  rw [e,ZW (by simp) hlt fun j x h1 h2 h3=>by simp at h3;omega,hW]
  exact h'.more fun id hid=>qhr hid
theorem any_opsX {l:List Oper} {rd:Nat→List Nat} {bf:List (List Nat)} {j:Nat} {dead:Nat→Bool} (hj:j<l.length) (hdj:dead j=true) {v:Value} {wb:L} (hb:befB l bf=true) (hap:VO W rd bf l.length=true)
  (hdead:∀ i,i<l.length→dead i=true→i=j∨j∈bf.getD i [])
  (hs:∀ i o,l[i]? = some o→dead i=false→∃ out,W i=wr o.dst out∧∀ g,(∀ k∈rd i,g k=yZ g0 W (fun t=>decide (t<i)) l.length k)→WJ E l.toArray i o out (n0+8*i) g)
  (hx:∀ g,(∀ k∈rd j,g k=yZ g0 W (fun t=>decide (t<j)) l.length k)→StepX E l.toArray j v wb (n0+8*j) g) {Q:Exit→Act→World→Prop}
  (hQ:∀ p c a,Inv E (fun id=>id<n0+8*l.length) c (zF wb (yZ g0 W p l.length)) a→Q (chn v) a c.w) :
  ∀ (fuel:Nat) (listed:Array Bool) (c:Cx) (a:Act),listed.size=l.length→left (fun i=>listed.getD i false) l.length=fuel→Closed l.toArray (fun i=>listed.getD i false)→listed.getD j false=false →
   Inv E (nxP n0 (fun j=>listed.getD j false)) c (yZ g0 W (fun j=>listed.getD j false) l.length) a→wpAny E.P .any l.toArray Q fuel listed a c.w:=by
 have hnil:∀ (listed:Array Bool),listed.size=l.length→Region.ready .any l.toArray listed=[]→∀ i,i<l.length→listed.getD i false=true:=by
  intro listed hsz hr i
  induction i using Nat.strongRecOn with
  | ind i ih =>
   intro hi
   by_cases hl:listed.getD i false=true
   ·exact hl
   ·exfalso
    have hm:i∈Region.ready .any l.toArray listed:=mem_ready.2 ⟨by rw [getD_some (by omega) true false];simpa using hl,l[i],by simp [hi],fun e he hbd=>by
     simp only [befB,List.all_eq_true,List.mem_range] at hb
     have h1:=hb i hi
     rw [List.getElem?_eq_getElem hi] at h1
     simp only [Option.all_some,Bool.and_eq_true,Array.all_eq_true_iff_forall_mem] at h1
     have h2:e.on<i:=by have:=h1.1 e he;rw [hbd] at this;simpa using this
     exact ih e.on h2 (by omega)⟩
    rw [hr] at hm
    cases hm
 have hno:∀ {α:Prop} (listed:Array Bool),listed.getD j false=false→(∀ i,i<l.length→listed.getD i false=true)→α:=fun listed h1 h2=>by
  have:=h2 j hj
  rw [h1] at this
  cases this
 intro fuel
 induction fuel with
 | zero =>
  intro listed c a hsz hc hcl hlj h
  exact hno listed hlj (qcm hc)
 | succ fuel ih =>
  intro listed c a hsz hc hcl hlj h
  refine ⟨fun hr=>hno listed hlj (hnil listed hsz hr),fun i hm=>?_⟩
  obtain ⟨h1,o,ho,hdeps⟩:=mem_ready.1 hm
  have ho':l[i]? = some o:=by simpa using ho
  have hi:i<l.length:=(List.getElem?_eq_some_iff.1 ho').1
  have hli:listed.getD i false=false:=by rw [getD_some (by omega) false true];exact h1
  have hbef:=qbv hb hcl i o ho' hdeps
  have hfar:∀ j,i<j→j<l.length→listed.getD j false=true→i ∉ bf.getD j []:=fun j hij hj hlj hmem=>by
   have:=qbv hb hcl j l[j] (by simp [hj]) (hcl j l[j] (by simp [hj]) hlj) i hmem
   rw [hli] at this
   cases this
  have hrd:∀ k∈rd i,yZ g0 W (fun j=>listed.getD j false) l.length k=yZ g0 W (fun t=>decide (t<i)) l.length k:=fun k hk=>by
   refine jG fun j hj hh=>?_
   rcases Nat.lt_trichotomy j i with h2|h2|h2
   ·by_cases hmem:j∈bf.getD i []
    ·rw [hbef j hmem];simp [h2]
    ·exact absurd hk ((QP hap h2 hi hmem).1 hh).2
   ·subst h2;rw [hli];simp
   ·have:¬ j<i:=by omega
    simp only [this,decide_false]
    cases hlj:listed.getD j false with
    | false=>rfl
    | true=>exact absurd hk ((QP hap h2 hj (hfar j h2 hj hlj)).2 hh)
  have hlt:∀ t,listed.getD t false=true→t<l.length:=fun t ht=>by
   rcases Nat.lt_or_ge t l.length with h4|h4
   ·exact h4
   ·rw [Array.getD_eq_getD_getElem?,Array.getElem?_eq_none (by omega)] at ht
    cases ht
  cases hdi:dead i with
  | true =>
   rcases hdead i hi hdi with rfl|hm2
   ·refine hx _ hrd _ c a _ Q (qck (by exact hli)) h fun c' h'=>hQ _ c' a (h'.more fun id hid=>?_)
    rcases hid with h3|h3
    ·exact nx_lt hlt h3
    ·omega
   ·have:=hbef j hm2
    rw [hlj] at this
    cases this
  | false =>
   have hij:i≠j:=fun e=>by rw [e,hdj] at hdi;cases hdi
   obtain ⟨out,hW,hst⟩:=hs i o ho' hdi
   refine hst _ hrd _ c a _ Q (qck (by exact hli)) h fun c' a' h'=>?_
   have e:(fun j=>(listed.setIfInBounds i true).getD j false)=QQ (fun j=>listed.getD j false) i:=by
    funext j
    unfold QQ
    by_cases e:j=i
    ·subst e
     rw [if_pos rfl,Array.getD_eq_getD_getElem?]
     simp [hsz,hi]
    ·rw [if_neg e,getD_set_ne _ (Ne.symm e)]
   refine ih (listed.setIfInBounds i true) c' a' (by simpa using hsz) ?_ ?_ (by rw [getD_set_ne _ hij];exact hlj) ?_
   ·have:=qes (f:=fun i=>listed.getD i false) hli hi
    rw [e]
    omega
   ·intro j oj hj hjl e' he' hb'
    by_cases ej:j=i
    ·subst ej
     rw [ho] at hj
     cases hj
     exact getD_set_true (hdeps e' he' hb')
    ·have hjl':listed.getD j false=true:=by
      have h2:(listed.setIfInBounds i true).getD j false=true:=hjl
      rwa [getD_set_ne _ (Ne.symm ej)] at h2
     exact getD_set_true (hcl j oj hj hjl' e' he' hb')
   ·rw [e,ZW (by exact hli) hi fun j x h2 h3 h4 h5=>((QP hap h2 h3 (hfar j h2 h3 h4)).1 h5).1,hW]
    exact h'.more fun id hid=>qhr hid
end

/-! ### such a region reckoned -/
def evd (P:Program) (n:Nat) (ops:List Oper) (n0:Nat) (ans:List (Nat × Ans)) (dead:List Nat) (j:Nat):List Oper→Nat→L→Option (List Prop × List (Option Out) × Option Out)
 | [],_,_=>some ([],[],none)
 | o :: r,i,l=>match Nat.beq i j with
  | true=>match run (get l) (qex P ops o (qha ans i) (n0+8*i)),evd P n ops n0 ans dead j r (i+1) l with
   | some x,some (obs,outs,_)=>some (x.obs++obs,none :: outs,some x)
   | _,_=>none
  | false=>match dead.contains i with
   | true=>match evd P n ops n0 ans dead j r (i+1) l with
    | some (obs,outs,x)=>some (obs,none :: outs,x)
    | none=>none
   | false=>match run (get l) (qey P ops o (qha ans i) (n0+8*i)),dstOk n o with
    | some out,true=>match evd P n ops n0 ans dead j r (i+1) (wr o.dst out++l) with
     | some (obs,outs,x)=>some (out.obs++obs,some out :: outs,x)
     | none=>none
    | _,_=>none
def Wd (ops:List Oper) (outs:List (Option Out)) (i:Nat):L:=match outs.getD i none with|some out=>wr ((ops[i]?).bind (·.dst)) out|none=>[]
theorem fold_none {W:Nat→L} {g0:St} {k:Nat} (h:W k=[]) (m:Nat):yZ g0 W (fun t=>decide (t<k+1)) m=yZ g0 W (fun t=>decide (t<k)) m:=by
 funext x
 refine jG fun t _ hh=>?_
 by_cases e:t=k
 ·subst e
  rw [h] at hh
  cases hh
 ·have:(t<k+1)=(t<k):=by rw [eq_iff_iff];omega
  simp only [this]
theorem qbs {P:Program} {n:Nat} {ops:List Oper} {n0:Nat} {ans:List (Nat × Ans)} {dead:List Nat} {j:Nat} {g0:St} {tab:List (Option Out)}:∀ {r:List Oper} {i:Nat} {l:L} {obs:List Prop} {outs:List (Option Out)} {x:Option Out},evd P n ops n0 ans dead j r i l=some (obs,outs,x) →
  ops.drop i=r→(∀ t,t<r.length→outs.getD t none=tab.getD (i+t) none)→get l=yZ g0 (Wd ops tab) (fun t=>decide (t<i)) ops.length →
  outs.length=r.length∧(∀ t o,i≤t→ops[t]? = some o→t≠j→dead.contains t=false→∃ out,tab.getD t none=some out∧run (yZ g0 (Wd ops tab) (fun k=>decide (k<t)) ops.length) (qey P ops o (qha ans t) (n0+8*t))=some out∧(∀ p∈out.obs,p∈obs)∧∀ d,o.dst=some d→d<n) ∧
   (∀ o,i≤j→ops[j]? = some o→∃ out,x=some out∧run (yZ g0 (Wd ops tab) (fun k=>decide (k<j)) ops.length) (qex P ops o (qha ans j) (n0+8*j))=some out∧∀ p∈out.obs,p∈obs)
 | [],i,l,obs,outs,x,h,hd,ht,hg=>by
  simp only [evd,Option.some.injEq,Prod.mk.injEq] at h
  obtain ⟨rfl,rfl,rfl⟩:=h
  have hi:ops.length≤i:=by simpa using hd
  refine ⟨rfl,fun t o hj ho=>?_,fun o hj ho=>?_⟩
  ·rw [List.getElem?_eq_none (by omega)] at ho;cases ho
  ·rw [List.getElem?_eq_none (by omega)] at ho;cases ho
 | o :: r,i,l,obs,outs,x,h,hd,ht,hg=>by
  have hlt:i<ops.length:=by
   rcases Nat.lt_or_ge i ops.length with h1|h1
   ·exact h1
   ·rw [List.drop_eq_nil_of_le h1] at hd;cases hd
  have hoi:ops[i]? = some o:=by
   have:=List.getElem?_drop (xs:=ops) (i:=i) (j:=0)
   rw [hd] at this
   simpa using this.symm
  have hdr:ops.drop (i+1)=r:=by
   have:=List.drop_drop (i:=1) (j:=i) (l:=ops)
   rw [hd] at this
   simpa [Nat.add_comm] using this.symm
  have htab:outs.getD 0 none=tab.getD i none:=by
   have:=ht 0 (by simp)
   simpa using this
  have hnext:∀ (out:Out),outs.getD 0 none=some out→get (wr o.dst out++l)=yZ g0 (Wd ops tab) (fun t=>decide (t<i+1)) ops.length:=fun out ho=>by
   rw [vY,hg]
   have e:(fun j=>decide (j<i+1))=QQ (fun j=>decide (j<i)) i:=by
    funext j
    unfold QQ
    by_cases e:j=i
    ·subst e;simp
    ·simp [e];omega
   rw [e,ZW (by simp) hlt fun j x h1 h2 h3=>by simp at h3;omega]
   have:Wd ops tab i=wr o.dst out:=by unfold Wd;rw [← htab,ho,hoi];rfl
   rw [this]
  have hskip:outs.getD 0 none=none→get l=yZ g0 (Wd ops tab) (fun t=>decide (t<i+1)) ops.length:=fun ho=>by
   rw [fold_none (by unfold Wd;rw [← htab,ho]),hg]
  simp only [evd] at h
  split at h
  ·rename_i hij
   have hij:=Nat.eq_of_beq_eq_true hij
   subst hij
   split at h
   case h_2=>cases h
   rename_i xo ob1 outs1 x1 hrun he
   simp only [Option.some.injEq,Prod.mk.injEq] at h
   obtain ⟨rfl,rfl,rfl⟩:=h
   obtain ⟨h1,h2,_⟩:=qbs he hdr (fun t htt=>by
    have:=ht (t+1) (by simp;omega)
    rw [show i+(t+1)=i+1+t by omega] at this
    simpa using this) (hskip rfl)
   refine ⟨by simp [h1],fun t o' hj ho' hne hdd=>?_,fun o' _ ho'=>?_⟩
   ·obtain ⟨out,q1,q2,q3,q4⟩:=h2 t o' (by omega) ho' hne hdd
    exact ⟨out,q1,q2,fun p hp=>by simp [q3 p hp],q4⟩
   ·rw [hoi] at ho'
    cases ho'
    exact ⟨xo,rfl,by rw [← hg];exact hrun,fun p hp=>by simp [hp]⟩
  ·rename_i hij
   have hij:i≠j:=fun e=>by rw [e,Nat.beq_refl] at hij;cases hij
   split at h
   ·rename_i hdd0
    split at h
    case h_2=>cases h
    rename_i ob1 outs1 x1 he
    simp only [Option.some.injEq,Prod.mk.injEq] at h
    obtain ⟨rfl,rfl,rfl⟩:=h
    obtain ⟨h1,h2,h3⟩:=qbs he hdr (fun t htt=>by
     have:=ht (t+1) (by simp;omega)
     rw [show i+(t+1)=i+1+t by omega] at this
     simpa using this) (hskip rfl)
    refine ⟨by simp [h1],fun t o' hj ho' hne hdd=>?_,fun o' hj ho'=>h3 o' (by omega) ho'⟩
    by_cases e:t=i
    ·subst e;rw [hdd0] at hdd;cases hdd
    ·exact h2 t o' (by omega) ho' hne hdd
   ·rename_i hdd0
    split at h
    case h_2=>cases h
    rename_i out hrun hdst
    split at h
    case h_2=>cases h
    rename_i ob1 outs1 x1 he
    simp only [Option.some.injEq,Prod.mk.injEq] at h
    obtain ⟨rfl,rfl,rfl⟩:=h
    obtain ⟨h1,h2,h3⟩:=qbs he hdr (fun t htt=>by
     have:=ht (t+1) (by simp;omega)
     rw [show i+(t+1)=i+1+t by omega] at this
     simpa using this) (hnext out rfl)
    refine ⟨by simp [h1],fun t o' hj ho' hne hdd=>?_,fun o' hj ho'=>?_⟩
    ·by_cases e:t=i
     ·subst e
      rw [hoi] at ho'
      cases ho'
      refine ⟨out,by rw [← htab];rfl,by rw [← hg];exact hrun,fun p hp=>by simp [hp],fun d hx=>?_⟩
      unfold dstOk at hdst
      rw [hx] at hdst
      simpa [Nat.blt_eq] using hdst
     ·obtain ⟨out',q1,q2,q3,q4⟩:=h2 t o' (by omega) ho' hne hdd
      exact ⟨out',q1,q2,fun p hp=>by simp [q3 p hp],q4⟩
    ·obtain ⟨out',q1,q2,q3⟩:=h3 o' (by omega) ho'
     exact ⟨out',q1,q2,fun p hp=>by simp [q3 p hp]⟩
def freeB (ops:List Oper) (outs:List (Option Out)) (live:List Nat):Bool:=live.all fun k=>(List.range ops.length).all fun i=>!QC (Wd ops outs i) k
def rdD (outs:List (Option Out)) (j:Nat) (x:Out) (i:Nat):List Nat:=match Nat.beq i j with|true=>x.reads|false=>match outs.getD i none with|some out=>out.reads|none=>[]
def evx (P:Program) (n:Nat) (ops:List Oper) (n0:Nat) (ans:List (Nat × Ans)) (draw:Bool) (dead:List Nat) (j:Nat) (live:List Nat) (l:L):Option (Value × L × List Prop) :=
 match evd P n ops n0 ans dead j ops 0 l with
 | some (obs,outs,some x)=>match x.pv,freeB ops outs (live.filter fun k=>!QC x.wb k),Nat.blt j ops.length with
  | .av v,true,true=>match draw with
   | false=>match (List.range j).all (fun i=>!dead.contains i) with
    | true=>some (v,live.map fun k=>(k,get (x.wb++l) k),obs)
    | false=>none
   | true=>match befB ops (befs ops),VO (Wd ops outs) (rdD outs j x) (befs ops) ops.length,dead.all (fun i=>Nat.beq i j || ((befs ops).getD i []).contains j) with
    | true,true,true=>some (v,live.map fun k=>(k,get (x.wb++l) k),obs)
    | _,_,_=>none
  | _,_,_=>none
 | _=>none
theorem qco {g0:St} {W:Nat→L} {p:Nat→Bool} {k:Nat}:∀ {m:Nat},(∀ i,i<m→QC (W i) k=false)→yZ g0 W p m k=g0 k
 | 0,_=>rfl
 | m+1,h=>by
  simp only [yZ]
  split
  ·rw [jI (h m (by omega))];exact qco fun i hi=>h i (by omega)
  ·exact qco fun i hi=>h i (by omega)
theorem regionX_ok {E:Env} {n0:Nat} {l l':L} {id:Nat} {ops:Array Oper} {draw:Bool} {ans:List (Nat × Ans)} {dead:List Nat} {j:Nat} {live:List Nat} {obs:List Prop} {v:Value} (hm:draw=true→E.P.follows .mixedOrders=true)
  (h:evx E.P E.n ops.toList n0 ans draw dead j live l=some (v,l',obs)) (hob:∀ p∈obs,p)
  {Q:Exit→Act→World→Prop} (hQ:∀ c a,Inv E (· < n0+8*ops.size) c (get l') a→Q (chn v) a c.w) {c:Cx} {a:Act} (hI:Inv E (· < n0) c (get l) a):(Code.region id ops draw).wp E.P Q a c.w:=by
 unfold evx at h
 split at h
 case h_2=>cases h
 rename_i obs1 outs x he
 split at h
 case h_2=>cases h
 rename_i v1 hpv hfr hjl
 have hjl:j<ops.toList.length:=by simpa [Nat.blt_eq] using hjl
 obtain ⟨oj,hoj⟩:∃ o,ops.toList[j]? = some o:=⟨_,List.getElem?_eq_getElem hjl⟩
 have hz:∀ m,yZ (get l) (Wd ops.toList outs) (fun t=>decide (t<0)) m=get l:=fun m=>by
  induction m with
  | zero=>rfl
  | succ m ih=>simp only [yZ,Nat.not_lt_zero,decide_false,Bool.false_eq_true,if_false];exact ih
 obtain ⟨h1,h2,h3⟩:=qbs (g0:=get l) (tab:=outs) he (by simp) (fun j _=>by simp) (hz _).symm
 have hops:ops.toList.toArray=ops:=by simp
 have hlen:ops.toList.length=ops.size:=by simp
 obtain ⟨x',hx',hxr,hxo⟩:=h3 oj (Nat.zero_le _) hoj
 cases hx'
 have hstep:obs=obs1→∀ i o,ops.toList[i]? = some o→i≠j→dead.contains i=false→∃ out,outs.getD i none=some out∧Wd ops.toList outs i=wr o.dst out∧∀ g,(∀ k∈out.reads,g k=yZ (get l) (Wd ops.toList outs) (fun t=>decide (t<i)) ops.toList.length k)→WJ E ops.toList.toArray i o out (n0+8*i) g:=by
  intro hobs i o ho hne hdd
  obtain ⟨out,q1,q2,q3,q4⟩:=h2 i o (Nat.zero_le _) ho hne hdd
  exact ⟨out,q1,by unfold Wd;rw [q1,ho];rfl,fun g hg=>qew ho q4 (ZK q2 hg) fun p hp=>hob p (by rw [hobs];exact q3 p hp)⟩
 have hstepX:obs=obs1→∀ g,(∀ k∈x.reads,g k=yZ (get l) (Wd ops.toList outs) (fun t=>decide (t<j)) ops.toList.length k)→StepX E ops.toList.toArray j v1 x.wb (n0+8*j) g:=fun hobs g hg =>
  gplanX_ok hoj (ZK hxr hg) hpv fun p hp=>hob p (by rw [hobs];exact hxo p hp)
 have hfin:v=v1→l'=live.map (fun k=>(k,get (x.wb++l) k))→∀ p c a,Inv E (fun id=>id<n0+8*ops.toList.length) c (zF x.wb (yZ (get l) (Wd ops.toList outs) p ops.toList.length)) a→Q (chn v1) a c.w:=by
  intro hv hl' p c a h
  rw [hlen] at h
  rw [← hv]
  refine hQ c a (h.less fun k u hk=>?_)
  rw [hl'] at hk
  have hmem:k∈live:=by
   rcases Classical.em (k∈live) with h|h
   ·exact h
   ·exfalso
    have:∀ (m:List Nat),k ∉ m→get (m.map fun k=>(k,get (x.wb++l) k)) k=none:=by
     intro m
     induction m with
     | nil=>intro _;rfl
     | cons a m ih =>
      intro hm
      simp only [get,List.map_cons,lk] at ih ⊢
      rw [if_neg (fun e=>hm (by rw [Nat.eq_of_beq_eq_true e];simp))]
      exact ih (fun h=>hm (by simp [h]))
    rw [this live h] at hk
    cases hk
  have hk:=qez k u hk
  rw [vY] at hk
  by_cases hh:QC x.wb k=true
  ·rw [qbi hh _ (get l)];exact hk
  ·have hh':QC x.wb k=false:=by simpa using hh
   rw [jI hh'] at hk ⊢
   rw [qco]
   ·exact hk
   ·intro i hi
    unfold freeB at hfr
    rw [List.all_eq_true] at hfr
    have h5:=hfr k (List.mem_filter.2 ⟨hmem,by simp [hh']⟩)
    rw [List.all_eq_true] at h5
    simpa using h5 i (List.mem_range.2 hi)
 split at h
 ·split at h
  case h_2=>cases h
  rename_i hdd
  simp only [Option.some.injEq,Prod.mk.injEq] at h
  obtain ⟨hv,hl',hobs⟩:=h
  have hs:=qiw (E:=E) (ops:=ops.toList.toArray) (g0:=get l) (W:=Wd ops.toList outs) (n0:=n0) (j:=j) (by simpa using hjl) (v:=v1) (wb:=x.wb) (fun i hi=>by
   obtain ⟨o,ho⟩:∃ o,ops.toList[i]? = some o:=⟨_,List.getElem?_eq_getElem (by omega)⟩
   have hd:dead.contains i=false:=by
    rw [List.all_eq_true] at hdd
    simpa using hdd i (List.mem_range.2 hi)
   obtain ⟨out,_,q2,q3⟩:=hstep hobs.symm i o ho (by omega) hd
   exact ⟨o,out,by simpa using ho,q2,by
    have:=q3 (yZ (get l) (Wd ops.toList outs) (fun t=>decide (t<i)) ops.toList.length) (fun _ _=>rfl)
    simpa using this⟩) (by
   have:=hstepX hobs.symm (yZ (get l) (Wd ops.toList outs) (fun t=>decide (t<j)) ops.toList.length) (fun _ _=>rfl)
   simpa using this) (Q:=Q) (fun p c a h=>hfin hv.symm hl'.symm p c a (by simpa using h)) j 0 (by omega) c a (by
    rw [hz]
    exact hI.more fun i hi=>.inl hi)
  rw [hops] at hs
  exact wp_region (by simpa using hs)
 ·split at h
  case h_2=>cases h
  rename_i hbf hap hdd
  simp only [Option.some.injEq,Prod.mk.injEq] at h
  obtain ⟨hv,hl',hobs⟩:=h
  have hs:=any_opsX (E:=E) (l:=ops.toList) (g0:=get l) (W:=Wd ops.toList outs) (rd:=rdD outs j x) (n0:=n0) (j:=j) (dead:=fun i=>Nat.beq i j || dead.contains i) hjl (by simp [Nat.beq_refl]) (v:=v1) (wb:=x.wb) hbf hap
   (fun i hi hd=>by
    rw [Bool.or_eq_true] at hd
    rcases hd with hd|hd
    ·exact .inl (Nat.eq_of_beq_eq_true hd)
    ·rw [List.all_eq_true] at hdd
     have:=hdd i (by simpa using hd)
     rw [Bool.or_eq_true] at this
     rcases this with h5|h5
     ·exact .inl (Nat.eq_of_beq_eq_true h5)
     ·exact .inr (by simpa using h5))
   (fun i o ho hd=>by
    rw [Bool.or_eq_false_iff] at hd
    have hne:i≠j:=fun e=>by rw [e,Nat.beq_refl] at hd;cases hd.1
    obtain ⟨out,q1,q2,q3⟩:=hstep hobs.symm i o ho hne hd.2
    refine ⟨out,q2,fun g hg=>q3 g fun k hk=>hg k ?_⟩
    unfold rdD
    rw [hd.1,q1]
    exact hk)
   (fun g hg=>hstepX hobs.symm g fun k hk=>hg k (by unfold rdD;rw [Nat.beq_refl];exact hk)) (Q:=Q) (fun p c a h=>hfin hv.symm hl'.symm p c a h)
   ops.toList.length (Array.replicate ops.toList.length false) ⟨{ c.w with drawn:=c.w.drawn+1 },c.S,c.own⟩ a (by simp) (by
    rw [ZU (g:=fun _=>false) fun i _=>wI _ _]
    exact VK _) (fun j o _ hj=>by
    have hj':(Array.replicate ops.toList.length false).getD j false=true:=hj
    rw [wI] at hj'
    cases hj') (wI _ _) (by
    have h0:yZ (get l) (Wd ops.toList outs) (fun j=>(Array.replicate ops.toList.length false).getD j false) ops.toList.length=get l:=by
     have e:(fun j=>(Array.replicate ops.toList.length false).getD j false)=fun _=>false:=funext fun j=>wI _ j
     rw [e]
     have:∀ m,yZ (get l) (Wd ops.toList outs) (fun _=>false) m=get l:=fun m=>by
      induction m with
      | zero=>rfl
      | succ m ih=>simp only [yZ,Bool.false_eq_true,if_false];exact ih
     exact this _
    rw [h0]
    exact (hI.drawn _).more fun i hi=>.inl hi)
  rw [hops] at hs
  refine wp_region_any (hm rfl) ?_
  rw [hlen] at hs
  exact hs

/-! ### in a walk -/
section
variable {P:Program} {n:Nat} {c0:Cx} {Bor:BorD} {Q:VY} {n0:Nat} {l:L} {rs:List Item}
theorem qau {E:Env} {cx:Cx} {a:Act} {ch:List PanicEntry}:∀ {rs:List Item},Q (.panic ch) cx a→WS E Q rs (.panic ch) cx a
 | [],k=>k
 | .code _ :: rs,k=>qau (rs:=rs) k
 | .blk _ :: rs,k=>qau (rs:=rs) k
theorem vV (hm:P.follows .mixedOrders=true) {id:Nat} {ops:Array Oper} {draw:Bool} (ans:List (Nat × Ans)) (dead:List Nat) (j:Nat) (l':L) {v:Value} {obs:List Prop} (hob:∀ p∈obs,p)
  (hQ:∀ cx a,Inv ⟨P,n,c0,Bor⟩ (· < n0+8*ops.size) cx (get l') a→Q (chn v) cx a)
  (h:evx P n ops.toList n0 ans draw dead j (l'.map (·.1)) l=some (v,l',obs):=by kernel_rfl):T P n c0 Bor Q n0 l (.code (.region id ops draw) :: rs):=fun _ _ hI =>
 regionX_ok (E:=⟨P,n,c0,Bor⟩) (fun _=>hm) h hob (fun c a h=>⟨c,rfl,qau (hQ c a h)⟩) hI
theorem wH {α:Type} {I:α→L} {μ:α→Nat} {n1:Nat} {x:α} {cx:Cx} {a:Act} {ch:List PanicEntry} (h:Q (.panic ch) cx a):qjw P n c0 Bor Q rs n1 I μ x (.panic ch) cx a:=qau h
def outQ (P:Program) (fn:Func) (c0:Cx) (Bor:BorD):O→VY
 | .ret r H'=>retQ P fn c0 Bor r H'
 | .pan v H'=>fun e cx a=>e=chn v∧a.defers=Bor.ds∧∃ cx',cx'.w=cx.w∧Heap ⟨P,0,c0,Bor⟩ (· < H'.length) cx' (VX H')
theorem jk {f : FuncId} {fn : Func} {code : Code} {args : List PV} {H : Hp} {o : O} {l0 : L} (hf : P.funcs[f]? = some fn) (hb : fn.body = some code) (hname : (fn.name == "runtime.NumGoroutine") = false) (hlen : H.length ≤ o.H.length)
  (hn:Nat.ble args.length fn.ntmps=true) (hl0:Yz 0 args++YC 0 H=l0) (h:∀ c0 (Bor:Nat→Prop),(∀ i x,c0.own i=some x→i<H.length)→T P fn.ntmps c0 ⟨Bor,[]⟩ (outQ P fn c0 ⟨Bor,[]⟩ o) H.length l0 [.code code]):PO P f args H o:=by
 cases o with
 | ret r H'=>exact zG hf hb hname hlen hn hl0 h
 | pan v H' =>
  refine ⟨⟨fn,hf,by rw [hb];rfl,hname⟩,hlen,fun c vs hh hrl=>?_⟩
  refine calls_of_wp hf hb (wp_mono (qas hn hl0 h c vs hh hrl) ?_)
  rintro e a' w' ⟨cx',rfl,rfl,hd,cx2,h1,h2⟩
  exact ⟨hd,cx2,rfl,h1,h2⟩
theorem ZF {c:Prop} [Decidable c] {n:Nat} {a b:O} (h1:n≤a.H.length) (h2:n≤b.H.length):n≤(if c then a else b).H.length:=by split <;> assumption
theorem jM {f:FuncId} {args:List PV} {H H' H2:Hp} {c:Prop} [Decidable c] {r:PV} {v:Value} (h:PO P f args H (if c then .ret r H' else .pan v H2)) (hc:c):PC P f args H r H':=by rw [if_pos hc] at h;exact h
theorem jD {f:FuncId} {args:List PV} {H H' H2:Hp} {c:Prop} [Decidable c] {r:PV} {v:Value} (h:PO P f args H (if c then .ret r H' else .pan v H2)) (hc:¬ c):PX P f args H v H2:=by rw [if_neg hc] at h;exact h
theorem zv {fn:Func} {m:Nat} {v:Value} (hc0:∀ i x,c0.own i=some x→i<m) {l':L} {cx:Cx} {a:Act} (hI:Inv ⟨P,n,c0,Bor⟩ (· < n0) cx (get l') a):outQ P fn c0 Bor (.pan v (List.replicate m none)) (chn v) cx a:=by
 have hno:∀ i T cs,¬ VX (List.replicate m none) (kb i)=some (.blk T cs):=fun i T cs h=>by
  rw [ZA] at h
  have:(List.replicate m (none:Option (TypeId × List PV))).getD i none=none:=by
   rw [List.getD_eq_getElem?_getD,List.getElem?_replicate]
   split <;> rfl
  rw [this] at h
  cases h
 have hnl:∀ i,¬ vQ (VX (List.replicate m none)) i:=fun i ⟨T,cs,h⟩=>hno i T cs h
 refine ⟨rfl,hI.dfr,⟨cx.w,cx.S,c0.own⟩,rfl,{ ids:=fun i x hx=>by rw [List.length_replicate];exact hc0 i x hx,blk:=fun i T cs h=>(hno i T cs h).elim,inj:=fun i j b T T' h=>(hnl i h).elim,apart:=fun i b T h=>(hnl i h).elim,bnd:=fun i b T h=>hI.bnd i b T (hI.keep.own i _ h),sok:=hI.sok,os:=hI.os,tape:=hI.tape,output:=hI.output,size:=hI.size,same:=hI.same,s0:=hI.s0,s1:=hI.s1,keep:=⟨hI.keep.S,fun _ _ h=>h,hI.keep.shape⟩,laid:=hI.laid }⟩
end
theorem Qx {P:Program} {f:FuncId} {A cs:List PV} {T:TypeId} {r:Value} {H':Hp} {l:List Prop} (i:List Nat) (n:Nat) (h:PX P f A [some (T,cs)] r H') (k:∀ q∈l,q):∀ q∈PX P f A [some (T,cs)] r H' :: rsA i n A :: rsA i n cs :: l,q:=oc h (oc rfl (oc rfl k))
theorem mixed:Tryz.prog.follows .mixedOrders=true:=by kernel_rfl
theorem qD:Tryz.prog.follows .mixedOrders=true:=mixed
end Go.Proofs.YtmlnilkbolcknaaGreatDoor.Pm
namespace Go.Proofs
open Go.Shelf
def Tryz.lays99_ren:Go.Shelf.Ren:=⟨fun|99=>147|206=>168|n=>n,fun|9=>9|4=>4|3=>3|n=>n,fun|n=>n⟩
theorem Tryz.lays99:Go.Proofs.Lays.n99 Tryz.prog Tryz.lays99_ren:={
  mixed:=by kernel_rfl,
  f99:=Tryz.func147.trans (congrArg some (by kernel_rfl)),
  f206:=Tryz.func168.trans (congrArg some (by kernel_rfl)),
  t3:=Tryz.underlying3,
  a3:=Tryz.isAgg3,
  z3:=Tryz.sizeOf3,
  v3:=Tryz.zeroValue3,
  t4:=Tryz.underlying4,
  a4:=Tryz.isAgg4,
  z4:=Tryz.sizeOf4,
  v4:=Tryz.zeroValue4,
  t9:=Tryz.underlying9,
  a9:=Tryz.isAgg9,
  z9:=Tryz.sizeOf9,
  v9:=Tryz.zeroValue9 }
def Tryz.lays101_ren:Go.Shelf.Ren:=⟨fun|101=>162|208=>178|206=>168|n=>n,fun|9=>9|4=>4|3=>3|n=>n,fun|n=>n⟩
theorem Tryz.lays101:Go.Proofs.Lays.n101 Tryz.prog Tryz.lays101_ren:={
  mixed:=by kernel_rfl,
  f101:=Tryz.func162.trans (congrArg some (by kernel_rfl)),
  f206:=Tryz.func168.trans (congrArg some (by kernel_rfl)),
  f208:=Tryz.func178.trans (congrArg some (by kernel_rfl)),
  t3:=Tryz.underlying3,
  a3:=Tryz.isAgg3,
  z3:=Tryz.sizeOf3,
  v3:=Tryz.zeroValue3,
  t4:=Tryz.underlying4,
  a4:=Tryz.isAgg4,
  z4:=Tryz.sizeOf4,
  v4:=Tryz.zeroValue4,
  t9:=Tryz.underlying9,
  a9:=Tryz.isAgg9,
  z9:=Tryz.sizeOf9,
  v9:=Tryz.zeroValue9 }
def Tryz.lays143_ren:Go.Shelf.Ren:=⟨fun|143=>181|219=>188|217=>172|225=>159|224=>158|267=>191|266=>184|314=>192|n=>n,fun|9=>9|3=>3|4=>4|5=>5|46=>191|146=>209|51=>198|n=>n,fun|1=>3|n=>n⟩
theorem Tryz.lays143:Go.Proofs.Lays.n143 Tryz.prog Tryz.lays143_ren:={
  mixed:=by kernel_rfl,
  f143:=Tryz.func181.trans (congrArg some (by kernel_rfl)),
  f217:=Tryz.func172.trans (congrArg some (by kernel_rfl)),
  f219:=Tryz.func188.trans (congrArg some (by kernel_rfl)),
  f224:=Tryz.func158.trans (congrArg some (by kernel_rfl)),
  f225:=Tryz.func159.trans (congrArg some (by kernel_rfl)),
  f266:=Tryz.func184.trans (congrArg some (by kernel_rfl)),
  f267:=Tryz.func191.trans (congrArg some (by kernel_rfl)),
  f314:=Tryz.func192.trans (congrArg some (by kernel_rfl)),
  t3:=Tryz.underlying3,
  a3:=Tryz.isAgg3,
  z3:=Tryz.sizeOf3,
  v3:=Tryz.zeroValue3,
  t4:=Tryz.underlying4,
  a4:=Tryz.isAgg4,
  z4:=Tryz.sizeOf4,
  v4:=Tryz.zeroValue4,
  t5:=Tryz.underlying5,
  a5:=Tryz.isAgg5,
  z5:=Tryz.sizeOf5,
  v5:=Tryz.zeroValue5,
  t9:=Tryz.underlying9,
  a9:=Tryz.isAgg9,
  z9:=Tryz.sizeOf9,
  v9:=Tryz.zeroValue9,
  t46:=Tryz.underlying191,
  a46:=Tryz.isAgg191,
  z46:=Tryz.sizeOf191,
  v46:=Tryz.zeroValue191,
  t51:=Tryz.underlying198,
  a51:=Tryz.isAgg198,
  z51:=Tryz.sizeOf198,
  v51:=Tryz.zeroValue198,
  t146:=Tryz.underlying209,
  a146:=Tryz.isAgg209,
  z146:=Tryz.sizeOf209,
  v146:=Tryz.zeroValue209,
  g1:=by kernel_rfl }
def Tryz.lays144_ren:Go.Shelf.Ren:=⟨fun|144=>180|143=>181|219=>188|217=>172|225=>159|224=>158|267=>191|266=>184|314=>192|n=>n,fun|9=>9|4=>4|3=>3|5=>5|46=>191|146=>209|51=>198|n=>n,fun|1=>3|n=>n⟩
theorem Tryz.lays144:Go.Proofs.Lays.n144 Tryz.prog Tryz.lays144_ren:={
  mixed:=by kernel_rfl,
  f143:=Tryz.func181.trans (congrArg some (by kernel_rfl)),
  f144:=Tryz.func180.trans (congrArg some (by kernel_rfl)),
  f217:=Tryz.func172.trans (congrArg some (by kernel_rfl)),
  f219:=Tryz.func188.trans (congrArg some (by kernel_rfl)),
  f224:=Tryz.func158.trans (congrArg some (by kernel_rfl)),
  f225:=Tryz.func159.trans (congrArg some (by kernel_rfl)),
  f266:=Tryz.func184.trans (congrArg some (by kernel_rfl)),
  f267:=Tryz.func191.trans (congrArg some (by kernel_rfl)),
  f314:=Tryz.func192.trans (congrArg some (by kernel_rfl)),
  t3:=Tryz.underlying3,
  a3:=Tryz.isAgg3,
  z3:=Tryz.sizeOf3,
  v3:=Tryz.zeroValue3,
  t4:=Tryz.underlying4,
  a4:=Tryz.isAgg4,
  z4:=Tryz.sizeOf4,
  v4:=Tryz.zeroValue4,
  t5:=Tryz.underlying5,
  a5:=Tryz.isAgg5,
  z5:=Tryz.sizeOf5,
  v5:=Tryz.zeroValue5,
  t9:=Tryz.underlying9,
  a9:=Tryz.isAgg9,
  z9:=Tryz.sizeOf9,
  v9:=Tryz.zeroValue9,
  t46:=Tryz.underlying191,
  a46:=Tryz.isAgg191,
  z46:=Tryz.sizeOf191,
  v46:=Tryz.zeroValue191,
  t51:=Tryz.underlying198,
  a51:=Tryz.isAgg198,
  z51:=Tryz.sizeOf198,
  v51:=Tryz.zeroValue198,
  t146:=Tryz.underlying209,
  a146:=Tryz.isAgg209,
  z146:=Tryz.sizeOf209,
  v146:=Tryz.zeroValue209,
  g1:=by kernel_rfl }
def Tryz.lays160_ren:Go.Shelf.Ren:=⟨fun|160=>57|232=>83|231=>82|227=>84|234=>86|233=>85|236=>88|235=>87|228=>115|271=>118|151=>117|197=>116|120=>145|152=>135|260=>144|137=>156|119=>157|224=>158|225=>159|217=>172|266=>184|n=>n,fun|9=>9|4=>4|3=>3|5=>5|117=>145|116=>144|0=>0|124=>148|21=>21|105=>170|46=>191|119=>205|139=>208|138=>207|n=>n,fun|3=>1|4=>2|n=>n⟩
theorem Tryz.lays160:Go.Proofs.Lays.n160 Tryz.prog Tryz.lays160_ren:={
  mixed:=by kernel_rfl,
  f119:=Tryz.func157.trans (congrArg some (by kernel_rfl)),
  f120:=Tryz.func145.trans (congrArg some (by kernel_rfl)),
  f137:=Tryz.func156.trans (congrArg some (by kernel_rfl)),
  f151:=Tryz.func117.trans (congrArg some (by kernel_rfl)),
  f152:=Tryz.func135.trans (congrArg some (by kernel_rfl)),
  f160:=Tryz.func57.trans (congrArg some (by kernel_rfl)),
  f197:=Tryz.func116.trans (congrArg some (by kernel_rfl)),
  f217:=Tryz.func172.trans (congrArg some (by kernel_rfl)),
  f224:=Tryz.func158.trans (congrArg some (by kernel_rfl)),
  f225:=Tryz.func159.trans (congrArg some (by kernel_rfl)),
  f227:=Tryz.func84.trans (congrArg some (by kernel_rfl)),
  f228:=Tryz.func115.trans (congrArg some (by kernel_rfl)),
  f231:=Tryz.func82.trans (congrArg some (by kernel_rfl)),
  f232:=Tryz.func83.trans (congrArg some (by kernel_rfl)),
  f233:=Tryz.func85.trans (congrArg some (by kernel_rfl)),
  f234:=Tryz.func86.trans (congrArg some (by kernel_rfl)),
  f235:=Tryz.func87.trans (congrArg some (by kernel_rfl)),
  f236:=Tryz.func88.trans (congrArg some (by kernel_rfl)),
  f260:=Tryz.func144.trans (congrArg some (by kernel_rfl)),
  f266:=Tryz.func184.trans (congrArg some (by kernel_rfl)),
  f271:=Tryz.func118.trans (congrArg some (by kernel_rfl)),
  t0:=Tryz.underlying0,
  a0:=Tryz.isAgg0,
  z0:=Tryz.sizeOf0,
  v0:=Tryz.zeroValue0,
  t3:=Tryz.underlying3,
  a3:=Tryz.isAgg3,
  z3:=Tryz.sizeOf3,
  v3:=Tryz.zeroValue3,
  t4:=Tryz.underlying4,
  a4:=Tryz.isAgg4,
  z4:=Tryz.sizeOf4,
  v4:=Tryz.zeroValue4,
  t5:=Tryz.underlying5,
  a5:=Tryz.isAgg5,
  z5:=Tryz.sizeOf5,
  v5:=Tryz.zeroValue5,
  t9:=Tryz.underlying9,
  a9:=Tryz.isAgg9,
  z9:=Tryz.sizeOf9,
  v9:=Tryz.zeroValue9,
  t21:=Tryz.underlying21,
  a21:=Tryz.isAgg21,
  z21:=Tryz.sizeOf21,
  v21:=Tryz.zeroValue21,
  t46:=Tryz.underlying191,
  a46:=Tryz.isAgg191,
  z46:=Tryz.sizeOf191,
  v46:=Tryz.zeroValue191,
  t105:=Tryz.underlying170,
  a105:=Tryz.isAgg170,
  z105:=Tryz.sizeOf170,
  v105:=Tryz.zeroValue170,
  t116:=Tryz.underlying144,
  a116:=Tryz.isAgg144,
  z116:=Tryz.sizeOf144,
  t117:=Tryz.underlying145,
  a117:=Tryz.isAgg145,
  z117:=Tryz.sizeOf145,
  v117:=Tryz.zeroValue145,
  t119:=Tryz.underlying205,
  a119:=Tryz.isAgg205,
  z119:=Tryz.sizeOf205,
  t124:=Tryz.underlying148,
  a124:=Tryz.isAgg148,
  z124:=Tryz.sizeOf148,
  v124:=Tryz.zeroValue148,
  t138:=Tryz.underlying207,
  a138:=Tryz.isAgg207,
  z138:=Tryz.sizeOf207,
  v138:=Tryz.zeroValue207,
  t139:=Tryz.underlying208,
  a139:=Tryz.isAgg208,
  z139:=Tryz.sizeOf208,
  v139:=Tryz.zeroValue208,
  g3:=by kernel_rfl,
  g4:=by kernel_rfl }
def Tryz.lays161_ren:Go.Shelf.Ren:=⟨fun|161=>163|231=>82|227=>84|233=>85|235=>87|228=>115|197=>116|151=>117|260=>144|152=>135|137=>156|119=>157|224=>158|225=>159|217=>172|266=>184|n=>n,fun|9=>9|4=>4|3=>3|5=>5|117=>145|116=>144|0=>0|124=>148|105=>170|21=>21|119=>205|46=>191|139=>208|138=>207|n=>n,fun|3=>1|4=>2|n=>n⟩
theorem Tryz.lays161:Go.Proofs.Lays.n161 Tryz.prog Tryz.lays161_ren:={
  mixed:=by kernel_rfl,
  f119:=Tryz.func157.trans (congrArg some (by kernel_rfl)),
  f137:=Tryz.func156.trans (congrArg some (by kernel_rfl)),
  f151:=Tryz.func117.trans (congrArg some (by kernel_rfl)),
  f152:=Tryz.func135.trans (congrArg some (by kernel_rfl)),
  f161:=Tryz.func163.trans (congrArg some (by kernel_rfl)),
  f197:=Tryz.func116.trans (congrArg some (by kernel_rfl)),
  f217:=Tryz.func172.trans (congrArg some (by kernel_rfl)),
  f224:=Tryz.func158.trans (congrArg some (by kernel_rfl)),
  f225:=Tryz.func159.trans (congrArg some (by kernel_rfl)),
  f227:=Tryz.func84.trans (congrArg some (by kernel_rfl)),
  f228:=Tryz.func115.trans (congrArg some (by kernel_rfl)),
  f231:=Tryz.func82.trans (congrArg some (by kernel_rfl)),
  f233:=Tryz.func85.trans (congrArg some (by kernel_rfl)),
  f235:=Tryz.func87.trans (congrArg some (by kernel_rfl)),
  f260:=Tryz.func144.trans (congrArg some (by kernel_rfl)),
  f266:=Tryz.func184.trans (congrArg some (by kernel_rfl)),
  t0:=Tryz.underlying0,
  a0:=Tryz.isAgg0,
  z0:=Tryz.sizeOf0,
  v0:=Tryz.zeroValue0,
  t3:=Tryz.underlying3,
  a3:=Tryz.isAgg3,
  z3:=Tryz.sizeOf3,
  v3:=Tryz.zeroValue3,
  t4:=Tryz.underlying4,
  a4:=Tryz.isAgg4,
  z4:=Tryz.sizeOf4,
  v4:=Tryz.zeroValue4,
  t5:=Tryz.underlying5,
  a5:=Tryz.isAgg5,
  z5:=Tryz.sizeOf5,
  v5:=Tryz.zeroValue5,
  t9:=Tryz.underlying9,
  a9:=Tryz.isAgg9,
  z9:=Tryz.sizeOf9,
  v9:=Tryz.zeroValue9,
  t21:=Tryz.underlying21,
  a21:=Tryz.isAgg21,
  z21:=Tryz.sizeOf21,
  v21:=Tryz.zeroValue21,
  t46:=Tryz.underlying191,
  a46:=Tryz.isAgg191,
  z46:=Tryz.sizeOf191,
  v46:=Tryz.zeroValue191,
  t105:=Tryz.underlying170,
  a105:=Tryz.isAgg170,
  z105:=Tryz.sizeOf170,
  v105:=Tryz.zeroValue170,
  t116:=Tryz.underlying144,
  a116:=Tryz.isAgg144,
  z116:=Tryz.sizeOf144,
  t117:=Tryz.underlying145,
  a117:=Tryz.isAgg145,
  z117:=Tryz.sizeOf145,
  v117:=Tryz.zeroValue145,
  t119:=Tryz.underlying205,
  a119:=Tryz.isAgg205,
  z119:=Tryz.sizeOf205,
  t124:=Tryz.underlying148,
  a124:=Tryz.isAgg148,
  z124:=Tryz.sizeOf148,
  v124:=Tryz.zeroValue148,
  t138:=Tryz.underlying207,
  a138:=Tryz.isAgg207,
  z138:=Tryz.sizeOf207,
  v138:=Tryz.zeroValue207,
  t139:=Tryz.underlying208,
  a139:=Tryz.isAgg208,
  z139:=Tryz.sizeOf208,
  v139:=Tryz.zeroValue208,
  g3:=by kernel_rfl,
  g4:=by kernel_rfl }
def Tryz.lays105_ren:Go.Shelf.Ren:=⟨fun|105=>124|212=>146|99=>147|165=>148|166=>27|170=>31|169=>32|263=>166|264=>167|206=>168|240=>60|241=>169|276=>93|277=>183|n=>n,fun|9=>9|3=>3|4=>4|20=>20|0=>0|46=>191|109=>192|5=>5|72=>75|76=>80|51=>198|146=>209|53=>178|148=>211|70=>72|37=>73|75=>79|127=>120|164=>149|80=>86|n=>n,fun|n=>n⟩
theorem Tryz.lays105:Go.Proofs.Lays.n105 Tryz.prog Tryz.lays105_ren:={
  mixed:=by kernel_rfl,
  f99:=Tryz.func147.trans (congrArg some (by kernel_rfl)),
  f105:=Tryz.func124.trans (congrArg some (by kernel_rfl)),
  f165:=Tryz.func148.trans (congrArg some (by kernel_rfl)),
  f166:=Tryz.func27.trans (congrArg some (by kernel_rfl)),
  f169:=Tryz.func32.trans (congrArg some (by kernel_rfl)),
  f170:=Tryz.func31.trans (congrArg some (by kernel_rfl)),
  f206:=Tryz.func168.trans (congrArg some (by kernel_rfl)),
  f212:=Tryz.func146.trans (congrArg some (by kernel_rfl)),
  f240:=Tryz.func60.trans (congrArg some (by kernel_rfl)),
  f241:=Tryz.func169.trans (congrArg some (by kernel_rfl)),
  f263:=Tryz.func166.trans (congrArg some (by kernel_rfl)),
  f264:=Tryz.func167.trans (congrArg some (by kernel_rfl)),
  f276:=Tryz.func93.trans (congrArg some (by kernel_rfl)),
  f277:=Tryz.func183.trans (congrArg some (by kernel_rfl)),
  t0:=Tryz.underlying0,
  a0:=Tryz.isAgg0,
  z0:=Tryz.sizeOf0,
  v0:=Tryz.zeroValue0,
  t3:=Tryz.underlying3,
  a3:=Tryz.isAgg3,
  z3:=Tryz.sizeOf3,
  v3:=Tryz.zeroValue3,
  t4:=Tryz.underlying4,
  a4:=Tryz.isAgg4,
  z4:=Tryz.sizeOf4,
  v4:=Tryz.zeroValue4,
  t5:=Tryz.underlying5,
  a5:=Tryz.isAgg5,
  z5:=Tryz.sizeOf5,
  v5:=Tryz.zeroValue5,
  t9:=Tryz.underlying9,
  a9:=Tryz.isAgg9,
  z9:=Tryz.sizeOf9,
  v9:=Tryz.zeroValue9,
  t20:=Tryz.underlying20,
  a20:=Tryz.isAgg20,
  z20:=Tryz.sizeOf20,
  v20:=Tryz.zeroValue20,
  t37:=Tryz.underlying73,
  a37:=Tryz.isAgg73,
  z37:=Tryz.sizeOf73,
  v37:=Tryz.zeroValue73,
  t46:=Tryz.underlying191,
  a46:=Tryz.isAgg191,
  z46:=Tryz.sizeOf191,
  v46:=Tryz.zeroValue191,
  t51:=Tryz.underlying198,
  a51:=Tryz.isAgg198,
  z51:=Tryz.sizeOf198,
  v51:=Tryz.zeroValue198,
  t53:=Tryz.underlying178,
  a53:=Tryz.isAgg178,
  z53:=Tryz.sizeOf178,
  v53:=Tryz.zeroValue178,
  t70:=Tryz.underlying72,
  a70:=Tryz.isAgg72,
  z70:=Tryz.sizeOf72,
  v70:=Tryz.zeroValue72,
  t72:=Tryz.underlying75,
  a72:=Tryz.isAgg75,
  z72:=Tryz.sizeOf75,
  v72:=Tryz.zeroValue75,
  t75:=Tryz.underlying79,
  a75:=Tryz.isAgg79,
  z75:=Tryz.sizeOf79,
  v75:=Tryz.zeroValue79,
  t76:=Tryz.underlying80,
  a76:=Tryz.isAgg80,
  z76:=Tryz.sizeOf80,
  v76:=Tryz.zeroValue80,
  t109:=Tryz.underlying192,
  a109:=Tryz.isAgg192,
  z109:=Tryz.sizeOf192,
  v109:=Tryz.zeroValue192,
  t127:=Tryz.underlying120,
  a127:=Tryz.isAgg120,
  z127:=Tryz.sizeOf120,
  v127:=Tryz.zeroValue120,
  t146:=Tryz.underlying209,
  a146:=Tryz.isAgg209,
  z146:=Tryz.sizeOf209,
  v146:=Tryz.zeroValue209,
  t148:=Tryz.underlying211,
  a148:=Tryz.isAgg211,
  z148:=Tryz.sizeOf211,
  v148:=Tryz.zeroValue211,
  t164:=Tryz.underlying149,
  a164:=Tryz.isAgg149,
  z164:=Tryz.sizeOf149,
  v164:=Tryz.zeroValue149 }
def Tryz.lays172_ren:Go.Shelf.Ren:=⟨fun|172=>137|244=>160|245=>161|247=>173|279=>174|280=>175|281=>176|282=>177|287=>185|316=>186|171=>28|205=>187|321=>189|322=>190|243=>61|246=>94|283=>126|284=>127|285=>128|286=>129|129=>150|317=>149|318=>151|319=>152|320=>153|337=>170|338=>171|n=>n,fun|9=>9|3=>3|75=>79|76=>80|4=>4|5=>5|167=>214|37=>73|0=>0|85=>215|2=>2|168=>217|53=>178|175=>225|46=>191|210=>229|127=>120|145=>234|143=>232|21=>21|171=>177|173=>181|212=>197|51=>198|20=>20|213=>199|232=>223|233=>224|80=>86|n=>n,fun|15=>6|16=>7|17=>0|18=>4|19=>5|n=>n⟩
theorem Tryz.lays172:Go.Proofs.Lays.n172 Tryz.prog Tryz.lays172_ren:={
  mixed:=by kernel_rfl,
  f129:=Tryz.func150.trans (congrArg some (by kernel_rfl)),
  f171:=Tryz.func28.trans (congrArg some (by kernel_rfl)),
  f172:=Tryz.func137.trans (congrArg some (by kernel_rfl)),
  f205:=Tryz.func187.trans (congrArg some (by kernel_rfl)),
  f243:=Tryz.func61.trans (congrArg some (by kernel_rfl)),
  f244:=Tryz.func160.trans (congrArg some (by kernel_rfl)),
  f245:=Tryz.func161.trans (congrArg some (by kernel_rfl)),
  f246:=Tryz.func94.trans (congrArg some (by kernel_rfl)),
  f247:=Tryz.func173.trans (congrArg some (by kernel_rfl)),
  f279:=Tryz.func174.trans (congrArg some (by kernel_rfl)),
  f280:=Tryz.func175.trans (congrArg some (by kernel_rfl)),
  f281:=Tryz.func176.trans (congrArg some (by kernel_rfl)),
  f282:=Tryz.func177.trans (congrArg some (by kernel_rfl)),
  f283:=Tryz.func126.trans (congrArg some (by kernel_rfl)),
  f284:=Tryz.func127.trans (congrArg some (by kernel_rfl)),
  f285:=Tryz.func128.trans (congrArg some (by kernel_rfl)),
  f286:=Tryz.func129.trans (congrArg some (by kernel_rfl)),
  f287:=Tryz.func185.trans (congrArg some (by kernel_rfl)),
  f316:=Tryz.func186.trans (congrArg some (by kernel_rfl)),
  f317:=Tryz.func149.trans (congrArg some (by kernel_rfl)),
  f318:=Tryz.func151.trans (congrArg some (by kernel_rfl)),
  f319:=Tryz.func152.trans (congrArg some (by kernel_rfl)),
  f320:=Tryz.func153.trans (congrArg some (by kernel_rfl)),
  f321:=Tryz.func189.trans (congrArg some (by kernel_rfl)),
  f322:=Tryz.func190.trans (congrArg some (by kernel_rfl)),
  f337:=Tryz.func170.trans (congrArg some (by kernel_rfl)),
  f338:=Tryz.func171.trans (congrArg some (by kernel_rfl)),
  t0:=Tryz.underlying0,
  a0:=Tryz.isAgg0,
  z0:=Tryz.sizeOf0,
  v0:=Tryz.zeroValue0,
  t2:=Tryz.underlying2,
  a2:=Tryz.isAgg2,
  z2:=Tryz.sizeOf2,
  v2:=Tryz.zeroValue2,
  t3:=Tryz.underlying3,
  a3:=Tryz.isAgg3,
  z3:=Tryz.sizeOf3,
  v3:=Tryz.zeroValue3,
  t4:=Tryz.underlying4,
  a4:=Tryz.isAgg4,
  z4:=Tryz.sizeOf4,
  v4:=Tryz.zeroValue4,
  t5:=Tryz.underlying5,
  a5:=Tryz.isAgg5,
  z5:=Tryz.sizeOf5,
  v5:=Tryz.zeroValue5,
  t9:=Tryz.underlying9,
  a9:=Tryz.isAgg9,
  z9:=Tryz.sizeOf9,
  v9:=Tryz.zeroValue9,
  t20:=Tryz.underlying20,
  a20:=Tryz.isAgg20,
  z20:=Tryz.sizeOf20,
  v20:=Tryz.zeroValue20,
  t21:=Tryz.underlying21,
  a21:=Tryz.isAgg21,
  z21:=Tryz.sizeOf21,
  v21:=Tryz.zeroValue21,
  t37:=Tryz.underlying73,
  a37:=Tryz.isAgg73,
  z37:=Tryz.sizeOf73,
  v37:=Tryz.zeroValue73,
  t46:=Tryz.underlying191,
  a46:=Tryz.isAgg191,
  z46:=Tryz.sizeOf191,
  v46:=Tryz.zeroValue191,
  t51:=Tryz.underlying198,
  a51:=Tryz.isAgg198,
  z51:=Tryz.sizeOf198,
  v51:=Tryz.zeroValue198,
  t53:=Tryz.underlying178,
  a53:=Tryz.isAgg178,
  z53:=Tryz.sizeOf178,
  v53:=Tryz.zeroValue178,
  t75:=Tryz.underlying79,
  a75:=Tryz.isAgg79,
  z75:=Tryz.sizeOf79,
  v75:=Tryz.zeroValue79,
  t76:=Tryz.underlying80,
  a76:=Tryz.isAgg80,
  z76:=Tryz.sizeOf80,
  v76:=Tryz.zeroValue80,
  t85:=Tryz.underlying215,
  a85:=Tryz.isAgg215,
  z85:=Tryz.sizeOf215,
  v85:=Tryz.zeroValue215,
  t127:=Tryz.underlying120,
  a127:=Tryz.isAgg120,
  z127:=Tryz.sizeOf120,
  v127:=Tryz.zeroValue120,
  t143:=Tryz.underlying232,
  a143:=Tryz.isAgg232,
  z143:=Tryz.sizeOf232,
  v143:=Tryz.zeroValue232,
  t145:=Tryz.underlying234,
  a145:=Tryz.isAgg234,
  z145:=Tryz.sizeOf234,
  v145:=Tryz.zeroValue234,
  t167:=Tryz.underlying214,
  a167:=Tryz.isAgg214,
  z167:=Tryz.sizeOf214,
  v167:=Tryz.zeroValue214,
  t168:=Tryz.underlying217,
  a168:=Tryz.isAgg217,
  z168:=Tryz.sizeOf217,
  v168:=Tryz.zeroValue217,
  t171:=Tryz.underlying177,
  a171:=Tryz.isAgg177,
  z171:=Tryz.sizeOf177,
  v171:=Tryz.zeroValue177,
  t173:=Tryz.underlying181,
  a173:=Tryz.isAgg181,
  z173:=Tryz.sizeOf181,
  v173:=Tryz.zeroValue181,
  t175:=Tryz.underlying225,
  a175:=Tryz.isAgg225,
  z175:=Tryz.sizeOf225,
  v175:=Tryz.zeroValue225,
  t210:=Tryz.underlying229,
  a210:=Tryz.isAgg229,
  z210:=Tryz.sizeOf229,
  v210:=Tryz.zeroValue229,
  t212:=Tryz.underlying197,
  a212:=Tryz.isAgg197,
  z212:=Tryz.sizeOf197,
  v212:=Tryz.zeroValue197,
  t213:=Tryz.underlying199,
  a213:=Tryz.isAgg199,
  z213:=Tryz.sizeOf199,
  t232:=Tryz.underlying223,
  a232:=Tryz.isAgg223,
  z232:=Tryz.sizeOf223,
  v232:=Tryz.zeroValue223,
  t233:=Tryz.underlying224,
  a233:=Tryz.isAgg224,
  z233:=Tryz.sizeOf224,
  v233:=Tryz.zeroValue224,
  g15:=by kernel_rfl,
  g16:=by kernel_rfl,
  g17:=by kernel_rfl,
  g18:=by kernel_rfl,
  g19:=by kernel_rfl }
def Tryz.laysM171_ren:Go.Shelf.Ren:=⟨fun|171=>28|243=>61|246=>94|283=>126|284=>127|285=>128|286=>129|129=>150|317=>149|318=>151|319=>152|320=>153|337=>170|338=>171|n=>n,fun|3=>3|9=>9|2=>2|4=>4|171=>177|0=>0|53=>178|37=>73|5=>5|173=>181|212=>197|51=>198|20=>20|213=>199|46=>191|232=>223|233=>224|n=>n,fun|17=>0|18=>4|19=>5|n=>n⟩
theorem Tryz.laysM171:Go.Proofs.LaysM.n171 Tryz.prog Tryz.laysM171_ren:={
  mixed:=by kernel_rfl,
  f129:=Tryz.func150.trans (congrArg some (by kernel_rfl)),
  f171:=Tryz.func28.trans (congrArg some (by kernel_rfl)),
  f243:=Tryz.func61.trans (congrArg some (by kernel_rfl)),
  f246:=Tryz.func94.trans (congrArg some (by kernel_rfl)),
  f283:=Tryz.func126.trans (congrArg some (by kernel_rfl)),
  f284:=Tryz.func127.trans (congrArg some (by kernel_rfl)),
  f285:=Tryz.func128.trans (congrArg some (by kernel_rfl)),
  f286:=Tryz.func129.trans (congrArg some (by kernel_rfl)),
  f317:=Tryz.func149.trans (congrArg some (by kernel_rfl)),
  f318:=Tryz.func151.trans (congrArg some (by kernel_rfl)),
  f319:=Tryz.func152.trans (congrArg some (by kernel_rfl)),
  f320:=Tryz.func153.trans (congrArg some (by kernel_rfl)),
  f337:=Tryz.func170.trans (congrArg some (by kernel_rfl)),
  f338:=Tryz.func171.trans (congrArg some (by kernel_rfl)),
  t0:=Tryz.underlying0,
  a0:=Tryz.isAgg0,
  z0:=Tryz.sizeOf0,
  v0:=Tryz.zeroValue0,
  t2:=Tryz.underlying2,
  a2:=Tryz.isAgg2,
  z2:=Tryz.sizeOf2,
  v2:=Tryz.zeroValue2,
  t3:=Tryz.underlying3,
  a3:=Tryz.isAgg3,
  z3:=Tryz.sizeOf3,
  v3:=Tryz.zeroValue3,
  t4:=Tryz.underlying4,
  a4:=Tryz.isAgg4,
  z4:=Tryz.sizeOf4,
  v4:=Tryz.zeroValue4,
  t5:=Tryz.underlying5,
  a5:=Tryz.isAgg5,
  z5:=Tryz.sizeOf5,
  v5:=Tryz.zeroValue5,
  t9:=Tryz.underlying9,
  a9:=Tryz.isAgg9,
  z9:=Tryz.sizeOf9,
  v9:=Tryz.zeroValue9,
  t20:=Tryz.underlying20,
  a20:=Tryz.isAgg20,
  z20:=Tryz.sizeOf20,
  v20:=Tryz.zeroValue20,
  t37:=Tryz.underlying73,
  a37:=Tryz.isAgg73,
  z37:=Tryz.sizeOf73,
  v37:=Tryz.zeroValue73,
  t46:=Tryz.underlying191,
  a46:=Tryz.isAgg191,
  z46:=Tryz.sizeOf191,
  v46:=Tryz.zeroValue191,
  t51:=Tryz.underlying198,
  a51:=Tryz.isAgg198,
  z51:=Tryz.sizeOf198,
  v51:=Tryz.zeroValue198,
  t53:=Tryz.underlying178,
  a53:=Tryz.isAgg178,
  z53:=Tryz.sizeOf178,
  v53:=Tryz.zeroValue178,
  t171:=Tryz.underlying177,
  a171:=Tryz.isAgg177,
  z171:=Tryz.sizeOf177,
  v171:=Tryz.zeroValue177,
  t173:=Tryz.underlying181,
  a173:=Tryz.isAgg181,
  z173:=Tryz.sizeOf181,
  v173:=Tryz.zeroValue181,
  t212:=Tryz.underlying197,
  a212:=Tryz.isAgg197,
  z212:=Tryz.sizeOf197,
  v212:=Tryz.zeroValue197,
  t213:=Tryz.underlying199,
  a213:=Tryz.isAgg199,
  z213:=Tryz.sizeOf199,
  t232:=Tryz.underlying223,
  a232:=Tryz.isAgg223,
  z232:=Tryz.sizeOf223,
  v232:=Tryz.zeroValue223,
  t233:=Tryz.underlying224,
  a233:=Tryz.isAgg224,
  z233:=Tryz.sizeOf224,
  v233:=Tryz.zeroValue224,
  g17:=by kernel_rfl,
  g18:=by kernel_rfl,
  g19:=by kernel_rfl,
  i0:=by kernel_rfl,
  i2:=by kernel_rfl,
  i3:=by kernel_rfl,
  i4:=by kernel_rfl,
  i5:=by kernel_rfl,
  i9:=by kernel_rfl,
  i20:=by kernel_rfl,
  i37:=by kernel_rfl,
  i46:=by kernel_rfl,
  i51:=by kernel_rfl,
  i53:=by kernel_rfl,
  i171:=by kernel_rfl,
  i173:=by kernel_rfl,
  i212:=by kernel_rfl,
  i232:=by kernel_rfl,
  i233:=by kernel_rfl,
  m17:=by kernel_rfl,
  m18:=by kernel_rfl,
  m19:=by kernel_rfl }
def Tryz.lays197_ren:Go.Shelf.Ren:=⟨fun|197=>116|260=>144|n=>n,fun|9=>9|21=>21|3=>3|4=>4|5=>5|105=>170|119=>205|0=>0|46=>191|139=>208|138=>207|n=>n,fun|3=>1|4=>2|n=>n⟩
theorem Tryz.lays197:Go.Proofs.Lays.n197 Tryz.prog Tryz.lays197_ren:={
  mixed:=by kernel_rfl,
  f197:=Tryz.func116.trans (congrArg some (by kernel_rfl)),
  f260:=Tryz.func144.trans (congrArg some (by kernel_rfl)),
  t0:=Tryz.underlying0,
  a0:=Tryz.isAgg0,
  z0:=Tryz.sizeOf0,
  v0:=Tryz.zeroValue0,
  t3:=Tryz.underlying3,
  a3:=Tryz.isAgg3,
  z3:=Tryz.sizeOf3,
  v3:=Tryz.zeroValue3,
  t4:=Tryz.underlying4,
  a4:=Tryz.isAgg4,
  z4:=Tryz.sizeOf4,
  v4:=Tryz.zeroValue4,
  t5:=Tryz.underlying5,
  a5:=Tryz.isAgg5,
  z5:=Tryz.sizeOf5,
  v5:=Tryz.zeroValue5,
  t9:=Tryz.underlying9,
  a9:=Tryz.isAgg9,
  z9:=Tryz.sizeOf9,
  v9:=Tryz.zeroValue9,
  t21:=Tryz.underlying21,
  a21:=Tryz.isAgg21,
  z21:=Tryz.sizeOf21,
  v21:=Tryz.zeroValue21,
  t46:=Tryz.underlying191,
  a46:=Tryz.isAgg191,
  z46:=Tryz.sizeOf191,
  v46:=Tryz.zeroValue191,
  t105:=Tryz.underlying170,
  a105:=Tryz.isAgg170,
  z105:=Tryz.sizeOf170,
  v105:=Tryz.zeroValue170,
  t119:=Tryz.underlying205,
  a119:=Tryz.isAgg205,
  z119:=Tryz.sizeOf205,
  t138:=Tryz.underlying207,
  a138:=Tryz.isAgg207,
  z138:=Tryz.sizeOf207,
  v138:=Tryz.zeroValue207,
  t139:=Tryz.underlying208,
  a139:=Tryz.isAgg208,
  z139:=Tryz.sizeOf208,
  v139:=Tryz.zeroValue208,
  g3:=by kernel_rfl,
  g4:=by kernel_rfl }
theorem Tryz.builder105:Builder.Extra Tryz.prog Tryz.lays105_ren where
 sizeBuilder:=by kernel_rfl
 liesBuilder:=by kernel_rfl
 t5:=Tryz.underlying5
 a5:=Tryz.isAgg5
 z5:=Tryz.sizeOf5
 v5:=Tryz.zeroValue5
 infoByte:=by kernel_rfl
 cellsByte:=by kernel_rfl
 sizeByte:=by kernel_rfl
 neB5:=by decide
end Go.Proofs
namespace Go.Proofs.YtmlnilkbolcknaaGreatDoor.Pm
open Go Go.RowKit

theorem qbn (s p:List UInt8):PC Tryz.prog 147 [sv (st s),sv (st p)] [] (bv (Lib.hasPrefix s p)) [] :=
 vW (jA Tryz.func147 (by kernel_rfl) (by kernel_rfl)) rfl rfl fun w=>(Any.strings_HasPrefix Tryz.lays99 (st s) (st p) w).mono fun e w' ⟨h1,h2⟩=>⟨h1,h2▸Below.refl _ _⟩
theorem qfl (s p:List UInt8):PC Tryz.prog 162 [sv (st s),sv (st p)] [] (sv (st (Lib.trimPrefix s p))) [] :=
 vW (jA Tryz.func162 (by kernel_rfl) (by kernel_rfl)) rfl rfl fun w=>(Any.strings_TrimPrefix Tryz.lays101 (st s) (st p) w).mono fun e w' ⟨h1,h2⟩=>⟨h1,h2▸Below.refl _ _⟩
theorem index_pc (s:List UInt8) (c:UInt8):PC Tryz.prog 181 [sv (st s),sv (st [c])] [] (iv (Lib.indexByte s c)) [] :=
 vW (jA Tryz.func181 (by kernel_rfl) (by kernel_rfl)) rfl rfl fun w=>(Any.strings_Index_one Tryz.lays143 (st s) c w).mono fun e w' ⟨h1,h2⟩=>⟨h1,h2▸Below.refl _ _⟩
theorem qkx (s:List UInt8) (c:UInt8):PC Tryz.prog 180 [sv (st s),sv (st [c])] [] (bv (decide (0≤Lib.indexByte s c))) [] :=
 vW (jA Tryz.func180 (by kernel_rfl) (by kernel_rfl)) rfl rfl fun w=>(Any.strings_Contains_one Tryz.lays144 (st s) c w).mono fun e w' ⟨h1,h2⟩=>⟨h1,h2▸Below.refl _ _⟩
theorem yR (s cs:List UInt8) (hs:s.length≤9223372036854775807) (hc:cs.length<4294967281) (ha:∀ (j:Nat) b,cs[j]? = some b→b.toNat<128):PC Tryz.prog 57 [sv (st s),sv (st cs)] [] (sv (st (Lib.trimS s cs))) [] :=
 vW (jA Tryz.func57 (by kernel_rfl) (by kernel_rfl)) rfl rfl fun w=>(Any.strings_Trim_laid Tryz.lays160 (by kernel_rfl) (st s) (st cs) w hs hc ha).mono fun e w' ⟨h1,h2⟩=>⟨h1,h2⟩
theorem qin (s cs:List UInt8) (hc:cs.length<4294967281) (ha:∀ (j:Nat) b,cs[j]? = some b→b.toNat<128):PC Tryz.prog 163 [sv (st s),sv (st cs)] [] (sv (st (Lib.trimLeftS s cs))) [] :=
 vW (jA Tryz.func163 (by kernel_rfl) (by kernel_rfl)) rfl rfl fun w=>(Any.strings_TrimLeft_laid Tryz.lays161 (by kernel_rfl) (st s) (st cs) w hc ha).mono fun e w' ⟨h1,h2⟩=>⟨h1,h2⟩
theorem wE (s:List UInt8) (c:Nat) (hc:c≤9223372036854775807) (hl:s.length*c≤140737488355328):PC Tryz.prog 124 [sv (st s),iv (c:Int)] [] (sv (st (Lib.repeatL s c))) [] :=
 vW (jA Tryz.func124 (by kernel_rfl) (by kernel_rfl)) rfl rfl fun w=>(Any.strings_Repeat Tryz.lays105 Tryz.builder105 (st s) c w hc hl)
theorem qbw (s:List UInt8) (n:Int) (hs:s.length≤18) (h:Lib.atoi s=some n):PC Tryz.prog 137 [sv (st s)] [] (.tup [iv n,.av .nilIface]) [] :=
 vW (jA Tryz.func137 (by kernel_rfl) (by kernel_rfl)) rfl rfl fun w=>(Any.strconv_Atoi Tryz.lays172 (st s) n hs h w).mono fun e w' ⟨h1,t,h2⟩=>⟨h1,h2▸Lib.bytesWorld_below _ _ _⟩
theorem vF (n:Int) (h0 : -9223372036854775808≤n) (h1:n≤9223372036854775807):PC Tryz.prog 28 [iv n] [] (sv (st (Lib.itoa n))) [] :=
 qek (jA Tryz.func28 (by kernel_rfl) (by kernel_rfl)) rfl rfl fun w hL=>(Any.strconv_Itoa Tryz.laysM171 n h0 h1 w hL.2.1).mono fun e w' ⟨h1,k,os,h2⟩=>⟨h1,h2▸Lib.below_grow _ _ (Nat.le_refl _) _ _⟩
theorem qgt (s:List UInt8):PC Tryz.prog 116 [sv (st s)] [] (.tup [.av (.int .i32 (((Lib.decodeGo (st s)).1:Nat):Int)),iv (((Lib.decodeGo (st s)).2:Nat):Int)]) [] :=
 qek (jA Tryz.func116 (by kernel_rfl) (by kernel_rfl)) rfl rfl fun w hL=>(Any.utf8_DecodeRuneInString Tryz.lays197 (st s) w (by first|exact hL.2.2|exact hL.2.2.1))
end Go.Proofs.YtmlnilkbolcknaaGreatDoor.Pm
namespace Go.Proofs.YtmlnilkbolcknaaGreatDoor.Pm
open Go Go.Lib
theorem qdu {P:Program} {W:World} {name:String} {k:IntKind} {zs:List Int} {g:Nat} {t e:TypeId} {n:Nat}
  (hg:P.globalNamed name=some g) (hty:(P.globals[g]?).map (·.type)=some t) (ht:P.underlying t=some (.array n e)) (he:P.underlying e=some (.int k)) (hce:P.cellsOf e=1) (hct:P.cellsOf t=n)
  (h:VarReads P W name (tabData k zs)):TabIs P W name k zs:=by
 obtain ⟨g',t',cs,fuel,p,hg',ht',hvar,hd⟩:=h
 obtain rfl:=Option.some.inj (hg.symm.trans hg')
 obtain rfl:=Option.some.inj (hty.symm.trans ht')
 unfold TabIs
 rw [hvar,← cells_of_tab ht he hce hct hd]
theorem ZB {w:World} {b o:Nat} {v:Value} (h:w.cell? ⟨b,o,none⟩=some v):b<w.heap.size:=by
 by_cases hb:b<w.heap.size
 ·exact hb
 ·unfold World.cell? at h
  rw [Array.getElem?_eq_none (show w.heap.size≤b from by omega)] at h
  cases h
theorem qkq : "*" ++ "errors.errorString" = "*errors.errorString" := by decide
theorem err_row (u : TypeId) (h : Tryz.prog.typeName? 3 u = some "*errors.errorString") : u = 232 :=
 typeName_ptr_named (nm := "errors.errorString") (by rw [qkq]; kernel_rfl) (by kernel_rfl) (by decide) u (by rw [qkq]; exact h)
theorem laid_of {W:World} (hL:laidMet Tryz.prog Rows.scoreBarsRow.laid W):Laid W (fun b=>b<W.heap.size):=by
 have hT : TabIs Tryz.prog W "internal/strconv.uint64pow10" .u64 pow10Tab :=
  qdu (g:=0) (t:=197) (e:=178) (n:=20) (by kernel_rfl) (by kernel_rfl) Tryz.underlying197 Tryz.underlying178 (by kernel_rfl) (by kernel_rfl)
   ((show Rows.laid_internal_strconv_uint64pow10=tabData .u64 pow10Tab from by kernel_rfl)▸laidMet.reads hL (.tail _ (.tail _ (.head _))))
 have hU:Utf8Tabs 1 2 W :=
  utf8Tabs_of_readsT (ρ:=Tryz.lays197_ren) { Tryz.lays197 with } ⟨by kernel_rfl,by kernel_rfl,by kernel_rfl,by kernel_rfl,by kernel_rfl,by kernel_rfl,by kernel_rfl⟩
   ((show Rows.laid_unicode_utf8_first=firstData from Pinned.utf8First_eq)▸laidMet.reads hL (.tail _ (.tail _ (.tail _ (.tail _ (.tail _ (.tail _ (.head _)))))))) ((show Rows.laid_unicode_utf8_acceptRanges=acceptData from by kernel_rfl)▸laidMet.reads hL (.tail _ (.tail _ (.tail _ (.head _)))))
 have z1:=ZB (hU.1 0 (by decide))
 have z2:=ZB (hU.2 0 (by decide)).1
 have z3:=ZB (hT.cell (g:=0) (by kernel_rfl) 0 (by decide))
 obtain ⟨a0,s0,hv0,_,_,_⟩:=laid_sentinel (P:=Tryz.prog) (g:=7) (ti:=79) (tp:=232) (te:=234) (ts:=9) hL.tail.tail.tail.tail (by kernel_rfl) (by kernel_rfl) Tryz.underlying79 err_row Tryz.underlying232 Tryz.underlying234 rfl rfl Tryz.underlying9 (by kernel_rfl) (by kernel_rfl)
 have z4:=ZB (by have h0:=World.var?_cell (P:=Tryz.prog) (g:=7) (by kernel_rfl) hv0 0;simpa using h0)
 refine ⟨fun b hb=>?_,hT,hU,_,_,hv0⟩
 simp only [LB,List.mem_cons,List.not_mem_nil,or_false] at hb
 rcases hb with rfl|rfl|rfl|rfl
 ·exact z1
 ·exact z2
 ·exact z3
 ·exact z4
end Go.Proofs.YtmlnilkbolcknaaGreatDoor.Pm
namespace Go.Proofs.YtmlnilkbolcknaaGreatDoor
open Go.ChangeShapes Go.WideShapes Go.ChangeAt Go.RowKit
theorem Tryz.own:ownKnob Tryz.prog.godebug=none:=by kernel_rfl
theorem Tryz.laidOut:laidOutB Tryz.prog=true:=by kernel_rfl

section
variable {H:Type} {enc:TypeId × Value→H} {P:Program}
theorem Wy (hl:laidOutB P=true) {W W':World} {sp:Nat→Bool} (hb:Below W.heap.size W W') :
  ∀ {ts:List TypeId} {vs:List Value} {ds:List (DataW H)} {ps:List MemPlace},(ts.all fun t=>P.readableRec t && decide (t<P.types.size))=true →
   DataW.TrodAll enc P W 0 (fun _=>true) true ts vs ds ps→(∀ x∈ps,x.block<W.heap.size)→(∀ x∈ps,sp x.block=true)→DataW.TrodAll enc P W' 0 sp true ts vs ds ps
 | [],_,_,_,_,h,_,_=>by obtain ⟨rfl,rfl,rfl⟩:=trodAll_nil h;exact trodAll_mk0
 | t :: ts,_,_,_,hr,h,hlt,hsp=>by
  obtain ⟨v,vs,d,ds,p,q,rfl,rfl,rfl,h0,h1⟩:=trodAll_cons h
  simp only [List.all_cons,Bool.and_eq_true,decide_eq_true_eq] at hr
  exact trodAll_cons_mk (WideElems.Trod_stays hl hr.1.1 hr.1.2 h0 (fun x hx=>hb.same (hlt x (by simp [hx]))) (fun x hx=>hsp x (by simp [hx])))
   (Wy hl hb hr.2 h1 (fun x hx=>hlt x (by simp [hx])) (fun x hx=>hsp x (by simp [hx])))

theorem law_post {f:Func} {s:ChangeSpec} {apart fresh handsOn again:Bool} {W W':World} {args:Array Value} {ds:List (DataW H)} {before:List MemPlace} {tb:TypeId}
  (hW:DataW.Whole enc P f.params.toList s.vars apart W args.toList ds [] before) (hl:laidOutB P=true)
  (hv:s.vars=[]) (hr:(f.params.toList.all fun t=>P.readableRec t && decide (t<P.types.size))=true) (hrt:f.resultTypes = #[tb]) (htb:P.underlying tb=some .bool)
  (hs:s.fn H (ds++[])={ results:=[.lit (.bool true)],args:=ds }) (hb:Below W.heap.size W W') :
  s.post enc P f apart fresh handsOn again W args (.bool true) W':=by
 have hlt:∀ p∈before,p.block<W.heap.size:=fun p hp=>hW.lt p hp
 have hold:∀ p∈before,(fun b=>decide (b<W.heap.size)) p.block=true:=fun p hp=>by simpa using hlt p hp
 have hW0:=hW
 obtain ⟨p,q,hA,hV,hpq,hz,hn⟩:=hW
 have hq:q=[]:=by rw [hv] at hV;exact (trodVars_none hV).2
 have hpq':before=p:=by rw [hpq,hq,List.append_nil]
 subst hpq'
 have hargs:∀ sp:Nat→Bool,(∀ x∈before,sp x.block=true)→DataW.TrodAll enc P W' 0 sp true f.params.toList args.toList (s.fn H (ds++[])).args before:=fun sp hsp=>by
  rw [hs];exact Wy hl hb hr hA hlt hsp
 have hvars:∀ sp:Nat→Bool,DataW.TrodVars enc P W' sp s.vars (s.fn H (ds++[])).vars []:=fun sp=>by rw [hs,hv];rfl
 have hres:∀ (b:Nat) (sp:Nat→Bool) (hd:Bool),DataW.TrodAll enc P W' b sp hd f.resultTypes.toList (Value.resultList f.resultTypes.size (.bool true)) (s.fn H (ds++[])).results []:=fun b sp hd=>by
  rw [hrt,hs];exact trodAll_mk1 (shut_bool htb true)
 have hok:∀ (j:Nat) (t:TypeId) (r:Value),f.resultTypes[j]? = some t→(Value.resultList f.resultTypes.size (.bool true))[j]? = some r→Value.okWide P W' .any 0 t r:=by
  exact ok_one (t:=tb) hrt rfl (okWide_bool_mk htb true)
 refine ⟨ds,[],before,[],before,[],hW0,hres _ _ _,hargs _ hold,hvars _,World.keptBut_mono (fun p hp=>⟨hp,?_⟩) (hb.frame (· ∈ before)),fun _=>?_⟩
 ·exact Or.inr (Or.inl hp)
 ·refine ⟨hok,_,_,([]++before)++[],⟨[]++before,[],trodAll_append (hargs _ (fun _ _=>rfl)) (hres _ _ _),hvars _,rfl,?_,?_⟩,?_⟩
  ·intro b off hp
   have hin:MemPlace.cell b off∈before:=by simpa using hp
   rw [hb.frozen (hlt _ hin)]
   exact hz b off hin
  ·intro ha
   have:=hn ha
   simpa using this
  ·intro p hp _
   simpa using hp
end
end Go.Proofs.YtmlnilkbolcknaaGreatDoor
namespace Go.Proofs.YtmlnilkbolcknaaGreatDoor.Pm
open Go Go.Deep Go.ChangeShapes Go.WideShapes Go.ChangeAt Go.RowKit
theorem cells_from {w:World} {a:Addr} {n:Nat} {f:Nat→Value} (h:∀ c,c<n→w.cell? (a.add c)=some (f c)) (hn:0<n):∃ b o,a=⟨b,o,none⟩∧b<w.heap.size∧∀ c,c<n→w.cell? ⟨b,o+c,none⟩=some (f c):=by
 obtain ⟨b,o,s⟩:=a
 have h0:=h 0 hn
 have hs:s=none:=by
  simp only [Addr.add,if_true,World.cell?] at h0
  cases s with
  | none=>rfl
  | some s =>
   exfalso
   split at h0
   ·simp at h0
   ·cases h0
 subst hs
 refine ⟨b,o,rfl,?_,fun c hc=>?_⟩
 ·simp only [Addr.add,if_true,World.cell?] at h0
  rcases Nat.lt_or_ge b w.heap.size with hb|hb
  ·exact hb
  ·rw [Array.getElem?_eq_none hb] at h0;cases h0
 ·rw [← h c hc]
  unfold Addr.add
  by_cases e:c=0
  ·subst e;rfl
  ·rw [if_neg e]
theorem VQ {H:Type} {P:Program} {e:TypeId}:∀ {l:List (DataW H)} {d:DataW H},d∈l→∀ n∈d.weights P e,n∈DataW.weightsAll P e l
 | d' :: r,d,hd,n,hn=>by
  simp only [DataW.weightsAll,List.mem_append]
  rcases List.mem_cons.1 hd with rfl|h
  ·exact Or.inl hn
  ·exact Or.inr (VQ h n hn)
set_option maxRecDepth 100000
set_option maxHeartbeats 4000000
open Go.Proofs.YtmlnilkbolcknaaGreatDoor.Pi
abbrev yY (e a:Int):Value:=.iface 95 (.agg #[.int .i64 e,.int .i64 a])
theorem fail_po (s:zX) (a:Nat) (k e:Int):PO Tryz.prog 39 [(.opt 0 0),(iv e)] [some (98,(r3 s a k))] (if False then .ret (.tup []) [some (98,(r3 s a k))] else .pan (yY e (a:Int)) [none]):=by
 refine jk Tryz.func39 rfl (by kernel_rfl) (ZF (Nat.le_of_ble_eq_true rfl) (Nat.le_of_ble_eq_true rfl)) (by kernel_rfl) (l0:=[ps 0 (.opt 0 0),ps 1 (iv e),pb 0 98 (r3 s a k)]) rfl (fun c0 Bor hc0=>?_)
 rw [if_neg (fun c=>c)]
 exact vV qD [] [] 7 [] (oz) (fun cx_ a_ hI_=>zv hc0 hI_)
theorem yT (s:zX) (a:Nat) (k e:Int):PX Tryz.prog 39 [.opt 0 0,iv e] [some (98,[sv (st s),nv a,iv k])] (yY e (a:Int)) [none]:=jD (fail_po s a k e) (fun c=>c)
theorem qia (s:zX) (a:Nat) (k:Int) (hs:s.length≤65536) (ha:a≤s.length):PC Tryz.prog 72 [(.opt 0 0)] [some (98,(r3 s a k))] (.tup []) [some (98,(r3 s (qA s a) k))]:=by
 refine zG Tryz.func72 rfl (by kernel_rfl) (Nat.le_of_ble_eq_true rfl) (by kernel_rfl) (l0:=[ps 0 (.opt 0 0),pb 0 98 (r3 s a k)]) rfl (fun c0 Bor hc0=>?_)
 refine qX<|zy (α:={x:Nat // x≤s.length∧qA s x=qA s a}) (fun x=>[ps 0 (.opt 0 0),pb 0 98 (r3 s x.1 k)]) (fun x=>s.length-x.1) 1 ⟨a,⟨ha,rfl⟩⟩ (Wk.ren2 _ 1 hc0 [0] rfl rfl (by kernel_rfl) (by kernel_rfl)) ?_
 rintro ⟨b,⟨hb,hg⟩⟩
 refine qB<|qB ?_
 by_cases h1:(b:Int)<(s.length:Int)
 ·by_cases h2:(((s.getD b 0).toNat:Nat):Int)=32
  ·refine VA qD (gy 11 21++[(32,.gd true (.yes true)),(33,.yes true)]) (bfm [[],[(0,1)],[(0,2)],[(0,3)],[],[(4,1)],[(4,2)],[(4,3)],[(4,4)],[(0,9)],[(0,10)],[(0,11)],[(0,12)],[(0,13)],[(0,14)],[(0,11)],[(0,11),(15,1)],[(0,11),(15,2)],[(0,11),(15,3)],[(0,19)],[(0,20)],[(0,21)],[(0,22)],[(0,23)],[(0,24)],[(0,25)],[(0,22)],[(0,22),(26,1)],[(0,22),(26,2)],[(0,22),(26,3)],[(0,30)],[(0,31)],[(0,32)],[(0,33)]]) [([4],[0]),([6],[4]),([8],[6]),([10],[1,8]),([12],[0]),([14],[12]),([16],[14]),([18],[1,16]),([20],[18]),([22],[10,20]),([24],[22]),([26],[0,24]),([28],[24,26]),([30],[24,28]),([32],[1,24,30]),([34],[0,24]),([36],[24,34]),([38],[24,36]),([40],[1,24,38]),([42],[24,32,40]),([44],[24,42]),([46],[24,44]),([48],[46]),([50],[46]),([52],[46]),([54],[46]),([56],[46]),([58],[46]),([60],[46]),([62],[46]),([64],[46]),([66],[46]),([68],[24,46,66]),([70],[24,68])] [ps 0 (.opt 0 0),ps 35 (bv true),pb 0 98 (r3 s b k)] (on 9 (qT h1) (oc (by first|omega|(simp <;> omega):(0:Int)≤(b:Int)∧(b:Int)<(s.length:Int)) (on 2 (qT h1) (on 10 (qT h2) (oc (qT h1) (oc (qT h2) (oc (qT h1) oz)))))))<|qL (b:=true) rfl rfl<|qF<|qX<|zD qD [] [ps 0 (.opt 0 0),pb 0 98 [(sv (st s)),(iv (((b:Nat):Int)+1)),(iv k)]] (oi (((b:Nat):Int)+1) (by omega) oz)<|qZ ?_
   have hy:qA s b=qA s (b+1):=qdn (by omega) (by omega)
   exact qq ⟨b+1,⟨by show b+1≤s.length;omega,by rw [← hy];exact hg⟩⟩ (Wk.trans (Wk.eq (show _=[ps 0 (.opt 0 0),pb 0 98 (r3 s (b+1) k)] from by rfl)) (Wk.ren2 _ 1 hc0 [0] rfl rfl (by kernel_rfl) (by kernel_rfl))) (show s.length-(b+1)<s.length-b from by show s.length-(b+1)<s.length-b;omega)
  refine VA qD (gy 11 11++gn 22 10++[(32,.gd true (.yes false)),(33,.yes true)]) (bfm [[],[(0,1)],[(0,2)],[(0,3)],[],[(4,1)],[(4,2)],[(4,3)],[(4,4)],[(0,9)],[(0,10)],[(0,11)],[(0,12)],[(0,13)],[(0,14)],[(0,11)],[(0,11),(15,1)],[(0,11),(15,2)],[(0,11),(15,3)],[(0,19)],[(0,20)],[(0,21)],[(0,22)],[(0,23)],[(0,24)],[(0,25)],[(0,22)],[(0,22),(26,1)],[(0,22),(26,2)],[(0,22),(26,3)],[(0,30)],[(0,31)],[(0,32)],[(0,33)]]) [([4],[0]),([6],[4]),([8],[6]),([10],[1,8]),([12],[0]),([14],[12]),([16],[14]),([18],[1,16]),([20],[18]),([22],[10,20]),([24],[22]),([26],[0,24]),([28],[24,26]),([30],[24,28]),([32],[1,24,30]),([34],[0,24]),([36],[24,34]),([38],[24,36]),([40],[1,24,38]),([42],[24,32,40]),([44],[24,42]),([46],[24,44]),([48],[0,46]),([50],[46,48]),([52],[46,50]),([54],[1,46,52]),([56],[0,46]),([58],[46,56]),([60],[46,58]),([62],[1,46,60]),([64],[46,54,62]),([66],[46,64]),([68],[24,46,66]),([70],[24,68])] [ps 0 (.opt 0 0),ps 35 (bv (decide ((((s.getD b 0).toNat:Nat):Int)=10))),pb 0 98 (r3 s b k)] (on 9 (qT h1) (oc (by first|omega|(simp <;> omega):(0:Int)≤(b:Int)∧(b:Int)<(s.length:Int)) (on 2 (qT h1) (on 9 (qV h2) (oc (by first|omega|(simp <;> omega):(0:Int)≤(b:Int)∧(b:Int)<(s.length:Int)) (oc (qV h2) (oc (qT h1) (oc (qV h2) (oc (qT h1) oz))))))))) ?_
  by_cases h3:(((s.getD b 0).toNat:Nat):Int)=10
  ·refine qS (qT h3)<|qF<|qX<|zD qD [] [ps 0 (.opt 0 0),pb 0 98 [(sv (st s)),(iv (((b:Nat):Int)+1)),(iv k)]] (oi (((b:Nat):Int)+1) (by omega) oz)<|qZ ?_
   have hy:qA s b=qA s (b+1):=qdn (by omega) (by omega)
   exact qq ⟨b+1,⟨by show b+1≤s.length;omega,by rw [← hy];exact hg⟩⟩ (Wk.trans (Wk.eq (show _=[ps 0 (.opt 0 0),pb 0 98 (r3 s (b+1) k)] from by rfl)) (Wk.ren2 _ 1 hc0 [0] rfl rfl (by kernel_rfl) (by kernel_rfl))) (show s.length-(b+1)<s.length-b from by show s.length-(b+1)<s.length-b;omega)
  refine qR (qV h3)<|zI rfl rfl ?_
  have he:qA s a=b:=by rw [← hg];exact gap_no (by omega)
  rw [he]
  exact fun cx_ a_ hI_=>jz (H':=[some (98,(r3 s b k))]) (.inl rfl) (Wk.ren2 [pb 0 98 (r3 s b k)] 1 hc0 [0] rfl rfl (by kernel_rfl) (by kernel_rfl)) rfl (oc rfl (oz)) (fun cx_ a_ hI_=>wN (l':=[pb 0 98 (r3 s b k)]) (by kernel_rfl) cx_ a_ hI_) hI_
 refine VA qD (gn 11 11++[(32,.gd false .no),(33,.yes false)]) (bfm [[],[(0,1)],[(0,2)],[(0,3)],[],[(4,1)],[(4,2)],[(4,3)],[(4,4)],[(0,9)],[(0,10)],[(0,11)],[(0,12)],[(0,13)],[(0,14)],[(0,11)],[(0,11),(15,1)],[(0,11),(15,2)],[(0,11),(15,3)],[(0,19)],[(0,20)],[(0,21)],[(0,22)],[(0,23)],[(0,24)],[(0,25)],[(0,22)],[(0,22),(26,1)],[(0,22),(26,2)],[(0,22),(26,3)],[(0,30)],[(0,31)],[(0,32)],[(0,33)]]) [([4],[0]),([6],[4]),([8],[6]),([10],[1,8]),([12],[0]),([14],[12]),([16],[14]),([18],[1,16]),([20],[18]),([22],[10,20]),([24],[22]),([26],[24]),([28],[24]),([30],[24]),([32],[24]),([34],[24]),([36],[24]),([38],[24]),([40],[24]),([42],[24]),([44],[24]),([46],[24]),([48],[46]),([50],[46]),([52],[46]),([54],[46]),([56],[46]),([58],[46]),([60],[46]),([62],[46]),([64],[46]),([66],[46]),([68],[24]),([70],[24,68])] [ps 0 (.opt 0 0),ps 35 (bv false),pb 0 98 (r3 s b k)] (on 13 (qV h1) oz)<|qO (b:=false) rfl rfl<|zI rfl rfl ?_
 have he:qA s a=b:=by rw [← hg];exact gap_end (by omega)
 rw [he]
 exact fun cx_ a_ hI_=>jz (H':=[some (98,(r3 s b k))]) (.inl rfl) (Wk.ren2 [pb 0 98 (r3 s b k)] 1 hc0 [0] rfl rfl (by kernel_rfl) (by kernel_rfl)) rfl (oc rfl (oz)) (fun cx_ a_ hI_=>wN (l':=[pb 0 98 (r3 s b k)]) (by kernel_rfl) cx_ a_ hI_) hI_
theorem Wq (s:zX) (a:Nat) (k:Int) (hs:s.length≤65536) (ha:a≤s.length):PC Tryz.prog 38 [(.opt 0 0)] [some (98,(r3 s a k))] (bv (decide (((qA s a:Nat):Int)=(s.length:Int)))) [some (98,(r3 s (qA s a) k))]:=by
 refine zG Tryz.func38 rfl (by kernel_rfl) (Nat.le_of_ble_eq_true rfl) (by kernel_rfl) (l0:=[ps 0 (.opt 0 0),pb 0 98 (r3 s a k)]) rfl (fun c0 Bor hc0=>?_)
 refine qB<|qH qD [.r] []<|qB<|zC qD 1 [.k1,.d,.n] [pb 0 98 (r3 s (qA s a) k)] (zY [0] 17 (qia s a k hs (by omega)) oz)<|qB ?_
 have hg:=zR ha
 refine wC qD [] (VB [(0,0),(0,1),(0,2),(0,3),(0,0),(4,1),(4,2),(4,3),(4,4),(0,9),(0,10)]) [([10],[0]),([12],[10]),([14],[12]),([16],[1,14]),([18],[0]),([20],[18]),([22],[20]),([24],[1,22]),([26],[24]),([28],[16,26]),([4],[28])] [.d,.n,.r] [ps 2 (bv (decide (((qA s a:Nat):Int)=(s.length:Int))))] (oz) ?_
 exact qk hc0 [2] [0] (hbk:=by exact oc rfl (oz))
theorem qfg (s:zX) (a:Nat) (k c:Int) (hs:s.length≤65536) (ha:a≤s.length):PC Tryz.prog 74 [(.opt 0 0),(.av (.int .u8 c))] [some (98,(r3 s a k))] (bv (qP s a c)) [some (98,(r3 s (qA s a) k))]:=by
 refine zG Tryz.func74 rfl (by kernel_rfl) (Nat.le_of_ble_eq_true rfl) (by kernel_rfl) (l0:=[ps 0 (.opt 0 0),ps 1 (.av (.int .u8 c)),pb 0 98 (r3 s a k)]) rfl (fun c0 Bor hc0=>?_)
 refine qB<|qH qD [.r] []<|qB ?_
 have hg:=zR ha
 by_cases h1:(qA s a:Int)=(s.length:Int)
 ·refine VA qD ([(1,.call [0] [(.opt 0 0)] [some (98,(r3 s a k))] (bv (decide (((qA s a:Nat):Int)=(s.length:Int)))) [some (98,(r3 s (qA s a) k))])]++gn 4 11++[(15,.yes false)]) (bfm [[],[(0,1)],[(0,2)],[(0,3)],[(0,4)],[(0,5)],[(0,6)],[(0,7)],[(0,4)],[(0,4),(8,1)],[(0,4),(8,2)],[(0,4),(8,3)],[(0,12)],[(0,4)],[(0,14)],[(0,15)],[(0,16)]]) [([10],[0]),([12,1],[1,10]),([14],[12]),([16],[14]),([18],[16]),([20],[16]),([22],[16]),([24],[16]),([26],[16]),([28],[16]),([30],[16]),([32],[16]),([34],[16]),([36],[16]),([38],[16]),([40],[16,38]),([8],[40])] [ps 4 (bv false),pb 0 98 (r3 s (qA s a) k)] (zY [0] 17 (Wq s a k hs (by omega)) (on 12 (bt h1) oz)) ?_
  rw [show qP s a c=false from qV fun q=>by omega]
  exact qk hc0 [4] [0] (hbk:=by exact oc rfl (oz))
 refine VA qD ([(1,.call [0] [(.opt 0 0)] [some (98,(r3 s a k))] (bv (decide (((qA s a:Nat):Int)=(s.length:Int)))) [some (98,(r3 s (qA s a) k))])]++gy 4 11++[(15,.yes true)]) (bfm [[],[(0,1)],[(0,2)],[(0,3)],[(0,4)],[(0,5)],[(0,6)],[(0,7)],[(0,4)],[(0,4),(8,1)],[(0,4),(8,2)],[(0,4),(8,3)],[(0,12)],[(0,4)],[(0,14)],[(0,15)],[(0,16)]]) [([10],[0]),([12,1],[1,10]),([14],[12]),([16],[14]),([18],[0,16]),([20],[16,18]),([22],[16,20]),([24],[1,16,22]),([26],[0,16]),([28],[16,26]),([30],[16,28]),([32],[1,16,30]),([34],[16,24,32]),([36],[2,16]),([38],[16,34,36]),([40],[16,38]),([8],[40])] [ps 4 (bv (decide ((((s.getD (qA s a) 0).toNat:Nat):Int)=c))),pb 0 98 (r3 s (qA s a) k)] (zY [0] 17 (Wq s a k hs (by omega)) (on 9 (bf h1) (oc (by first|omega|(simp <;> omega):(0:Int)≤(qA s a:Int)∧(qA s a:Int)<(s.length:Int)) (on 3 (bf h1) oz)))) ?_
 rw [show qP s a c=(decide ((((s.getD (qA s a) 0).toNat:Nat):Int)=c)) from by unfold qP;rw [Bool.eq_iff_iff];simp only [decide_eq_true_eq];constructor <;> intro hh <;> first|exact hh.2|exact ⟨by omega,hh⟩]
 exact qk hc0 [4] [0] (hbk:=by exact oc rfl (oz))
def isT (s:zX) (a:Nat) (c:Int):Nat:=if qP s a c=true then qA s a+1 else qA s a
theorem jW (s:zX) (a:Nat) (k c:Int) (hs:s.length≤65536) (ha:a≤s.length):PC Tryz.prog 138 [(.opt 0 0),(.av (.int .u8 c))] [some (98,(r3 s a k))] (bv (qP s a c)) [some (98,(r3 s (isT s a c) k))]:=by
 refine zG Tryz.func138 rfl (by kernel_rfl) (Nat.le_of_ble_eq_true rfl) (by kernel_rfl) (l0:=[ps 0 (.opt 0 0),ps 1 (.av (.int .u8 c)),pb 0 98 (r3 s a k)]) rfl (fun c0 Bor hc0=>?_)
 refine qB<|qH qD [.r] []<|qB<|qB<|QB qD 2 [ps 0 (.opt 0 0),ps 8 (bv (!(qP s a c))),pb 0 98 (r3 s (qA s a) k)] (zY [0] 25 (qfg s a k c hs (by omega)) oz) ?_
 by_cases h1:(qP s a c)=true
 ·refine qR (congrArg Bool.not h1)<|qF<|qB ?_
  have hg:=zM h1
  refine zD qD [] [pb 0 98 [(sv (st s)),(iv (((qA s a:Nat):Int)+1)),(iv k)]] (oi (((qA s a:Nat):Int)+1) (by omega) oz)<|qB<|qH qD [.n,.r] [ps 4 (bv true)] ?_
  rw [show isT s a c=qA s a+1 from if_pos h1,h1]
  exact qk hc0 [4] [0] (hbk:=by exact oc rfl (oz))
 refine qS (congrArg Bool.not (Bool.eq_false_iff.2 h1))<|qB<|qH qD [.d,.n,.d,.r] [ps 4 (bv false)] ?_
 rw [show isT s a c=qA s a from if_neg h1,eq_false_of_ne_true h1]
 exact qk hc0 [4] [0] (hbk:=by exact oc rfl (oz))
theorem isT_yes {s:zX} {a:Nat} {c:Int} (h:qP s a c=true):isT s a c=qA s a+1:=if_pos h
theorem isT_no {s:zX} {a:Nat} {c:Int} (h:¬ qP s a c=true):isT s a c=qA s a:=if_neg h
structure Rdy (s:zX):Prop where
 any:∀ a,a≤s.length→PC Tryz.prog 106 [sv (st (s.drop a)),sv (st sgn)] [] (iv (Lib.indexAny (s.drop a) sgn)) []
 ato:∀ w:zX,w.length≤s.length→18<w.length→Lib.atoiAll w = .ok (okV w)→PC Tryz.prog 137 [sv (st w)] [] (.tup [iv (okV w),.av .nilIface]) []
 atr:∀ w:zX,w.length≤s.length→18<w.length→Lib.atoiAll w = .range→PC Tryz.prog 137 [sv (st w)] [] (.tup [iv (Lib.atoiSat w),.err]) []
theorem jX (s:zX) (a:Nat) (c:Int):qP s (qA s a) c=qP s a c:=by unfold qP;rw [vG]
theorem QW (s:zX) (a:Nat):qC s (qA s a)=qC s a:=by unfold qC;rw [vG]
theorem Yw (s:zX) (a:Nat) (k c:Int) (hs:s.length≤65536) (ha:a≤s.length):PC Tryz.prog 74 [.opt 0 0,.av (.int .u8 c)] [some (98,[sv (st s),nv (qA s a),iv k])] (bv (qP s a c)) [some (98,[sv (st s),nv (qA s a),iv k])]:=by
 have:=qfg s (qA s a) k c hs (zR ha)
 rwa [vG,jX] at this
theorem YO {s:zX} {a:Nat} {c k:Int} {H:Hp} (h:PC Tryz.prog 138 [.opt 0 0,.av (.int .u8 c)] H (bv (qP s a c)) [some (98,[sv (st s),nv (isT s a c),iv k])]) (hc:qP s a c=true):PC Tryz.prog 138 [.opt 0 0,.av (.int .u8 c)] H (bv true) [some (98,[sv (st s),nv (qA s a+1),iv k])]:=by
 rwa [isT_yes hc,hc] at h
theorem qad {s:zX} {a:Nat} {c k:Int} {H:Hp} (h:PC Tryz.prog 138 [.opt 0 0,.av (.int .u8 c)] H (bv (qP s a c)) [some (98,[sv (st s),nv (isT s a c),iv k])]) (hc:¬ qP s a c=true):PC Tryz.prog 138 [.opt 0 0,.av (.int .u8 c)] H (bv false) [some (98,[sv (st s),nv (qA s a),iv k])]:=by
 rwa [isT_no hc,eq_false_of_ne_true hc] at h
theorem qdm (s:zX) (a:Nat) (k c:Int) (hs:s.length≤65536) (ha:a≤s.length):PO Tryz.prog 108 [(.opt 0 0),(.av (.int .u8 c))] [some (98,(r3 s a k))] (if qP s a c=true then .ret (.tup []) [some (98,(r3 s (qA s a+1) k))] else .pan (yY 2 (qA s a:Int)) [none]):=by
 refine jk Tryz.func108 rfl (by kernel_rfl) (ZF (Nat.le_of_ble_eq_true rfl) (Nat.le_of_ble_eq_true rfl)) (by kernel_rfl) (l0:=[ps 0 (.opt 0 0),ps 1 (.av (.int .u8 c)),pb 0 98 (r3 s a k)]) rfl (fun c0 Bor hc0=>?_)
 refine qB ?_
 by_cases h1:(qP s a c)=true
 ·refine QB qD 2 [ps 0 (.opt 0 0),ps 7 (bv false),pb 0 98 (r3 s (qA s a+1) k)] (zY [0] 17 (YO (jW s a k c hs (by omega)) h1) oz)<|qO (b:=false) rfl rfl<|qF ?_
  rw [if_pos h1]
  exact fun cx_ a_ hI_=>jz (H':=[some (98,(r3 s (qA s a+1) k))]) (.inl rfl) (Wk.ren2 [pb 0 98 (r3 s (qA s a+1) k)] 1 hc0 [0] rfl rfl (by kernel_rfl) (by kernel_rfl)) rfl (oc rfl (oz)) (fun cx_ a_ hI_=>wN (l':=[pb 0 98 (r3 s (qA s a+1) k)]) (by kernel_rfl) cx_ a_ hI_) hI_
 refine QB qD 2 [ps 0 (.opt 0 0),ps 7 (bv true),pb 0 98 (r3 s (qA s a) k)] (zY [0] 17 (qad (jW s a k c hs (by omega)) h1) oz)<|qL (b:=true) rfl rfl ?_
 rw [if_neg h1]
 exact vV qD [(1,.call [0] [(.opt 0 0),(iv 2)] [some (98,(r3 s (qA s a) k))] (.av (yY 2 (qA s a:Int))) [none])] [] 1 [] (Qx [0] 41 (yT s (qA s a) k 2) oz) (fun cx_ a_ hI_=>zv hc0 hI_)
theorem qbg (s:zX) (a:Nat) (k:Int) (hs:s.length≤65536) (hr:Rdy s) (ha:a≤s.length):PC Tryz.prog 73 [(.opt 0 0)] [some (98,(r3 s a k))] (sv (st (qC s a))) [some (98,(r3 s (qA s a) k))]:=by
 refine zG Tryz.func73 rfl (by kernel_rfl) (Nat.le_of_ble_eq_true rfl) (by kernel_rfl) (l0:=[ps 0 (.opt 0 0),pb 0 98 (r3 s a k)]) rfl (fun c0 Bor hc0=>?_)
 refine qB<|qH qD [.r] []<|qB<|zC qD 1 [.k1,.d,.n] [pb 0 98 (r3 s (qA s a) k)] (zY [0] 17 (qia s a k hs (by omega)) oz)<|qB ?_
 have hg:=zR ha
 refine wC qD [(8,.val (.av (.string (st (s.drop (qA s a)))))),(9,.call [] [(sv (st (s.drop (qA s a)))),(sv (st sgn))] [] (iv (Lib.indexAny (s.drop (qA s a)) sgn)) [])] (VB [(0,0),(0,1),(0,2),(0,3),(0,0),(4,1),(4,2),(4,3),(0,8),(0,9),(0,10)]) [([12],[0]),([14],[12]),([16],[14]),([18],[1,16]),([20],[0]),([22],[20]),([24],[22]),([26],[1,24]),([28],[18,26]),([30],[28]),([6],[30])] [.k1,.n,.r] [ps 3 (iv (Lib.indexAny (s.drop (qA s a)) sgn))] (oc (by first|omega|(simp <;> omega):(0:Int)≤(qA s a:Int)∧(qA s a:Int)≤(s.length:Int)∧(s.length:Int)≤(s.length:Int)) (oc (ww _ _ _ rfl:(st s).extract (((qA s a:Nat):Int):Int).toNat (((s.length:Nat):Int):Int).toNat=st (s.drop (qA s a))) (zO 97 (hr.any (qA s a) (zR ha)) oz)))<|qB<|qB<|qH qD [.k2,.n,.r] [ps 17 (bv (decide ((Lib.indexAny (s.drop (qA s a)) sgn)<0)))] ?_
 by_cases h1:(Lib.indexAny (s.drop (qA s a)) sgn)<0
 ·refine qS (qT h1)<|qB<|wC qD [(8,.val (.av (.string (st (qC s a)))))] (VB [(0,0),(0,1),(0,2),(0,3),(0,0),(4,1),(4,2),(4,3),(0,8),(0,9)]) [([36],[0]),([38],[36]),([40],[38]),([42],[1,40]),([44],[0]),([46],[44]),([48],[46]),([50],[1,48]),([52],[42,50]),([4],[52])] [.d,.n,.d,.d,.r] [ps 2 (sv (st (qC s a)))] (oc (by first|omega|(simp <;> omega):(0:Int)≤(qA s a:Int)∧(qA s a:Int)≤(s.length:Int)∧(s.length:Int)≤(s.length:Int)) (oc (by rw [word_none (by omega)];exact ww _ _ _ rfl:(st s).extract (((qA s a:Nat):Int):Int).toNat (((s.length:Nat):Int):Int).toNat=st (qC s a)) oz)) ?_
  exact qk hc0 [2] [0] (hbk:=by exact oc rfl (oz))
 refine qR (qV h1)<|qF<|qB ?_
 have hc:=word_cut (s:=s) (a:=a) (i:=(Lib.indexAny (s.drop (qA s a)) sgn)) rfl (by omega)
 refine wC qD [(14,.val (.av (.string (st (qC s a)))))] (VB [(0,0),(0,1),(0,2),(0,3),(0,0),(4,1),(4,2),(4,3),(0,0),(8,1),(8,2),(8,3),(0,0),(8,5),(0,14),(0,15)]) [([54],[0]),([56],[54]),([58],[56]),([60],[1,58]),([62],[0]),([64],[62]),([66],[64]),([68],[1,66]),([70],[0]),([72],[70]),([74],[72]),([76],[1,74]),([78],[6]),([80],[76,78]),([82],[60,68,80]),([4],[82])] [.d,.n,.d,.d,.r] [ps 2 (sv (st (qC s a)))] (oi (((qA s a:Nat):Int)+(Lib.indexAny (s.drop (qA s a)) sgn)) (by omega) (oc (by first|omega|(simp <;> omega):(0:Int)≤(qA s a:Int)∧(qA s a:Int)≤(((qA s a:Nat):Int)+(Lib.indexAny (s.drop (qA s a)) sgn))∧(((qA s a:Nat):Int)+(Lib.indexAny (s.drop (qA s a)) sgn))≤(s.length:Int)) (oc (by rw [ZP,show (qA s a:Int).toNat=qA s a from rfl,show (((qA s a:Nat):Int)+(Lib.indexAny (s.drop (qA s a)) sgn)).toNat-qA s a=(Lib.indexAny (s.drop (qA s a)) sgn).toNat by omega,hc.2]:(st s).extract (((qA s a:Nat):Int):Int).toNat (((qA s a:Int)+(Lib.indexAny (s.drop (qA s a)) sgn)):Int).toNat=st (qC s a)) oz))) ?_
 exact qk hc0 [2] [0] (hbk:=by exact oc rfl (oz))
theorem qej (s:zX) (a:Nat) (k:Int) (hs:s.length≤65536) (hr:Rdy s) (ha:a≤s.length):PC Tryz.prog 73 [.opt 0 0] [some (98,[sv (st s),nv (qA s a),iv k])] (sv (st (qC s a))) [some (98,[sv (st s),nv (qA s a),iv k])]:=by
 have:=qbg s (qA s a) k hs hr (zR ha)
 rwa [vG,QW] at this
end Go.Proofs.YtmlnilkbolcknaaGreatDoor.Pm
