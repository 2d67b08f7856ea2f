/-
  THE VALUE MACHINE (N): rows laid down for Wq,loops,whole functions. No program in sight. | THE VALUE MACHINE (O): what a function hands back;contracts of the kit's kind as contracts by values;small words for written walks. No program in sight. | THE VALUE MACHINE (R): contracts of the kit's kind over plain values,as contracts by values;small lemmas. No program in sight. | THE VALUE MACHINE (S): open rows of shared cells keep their cells under other numbers. No program in sight. | THE VALUE MACHINE (U): states said anew: numbers that take another one's place;a cell that holds nil. No program in sight. | THE VALUE MACHINE (Y): regions that draw,with the keys told: what each operation reads and writes. No program in sight. | THE VALUE MACHINE (SF): the same steps,said in fewer words. No program in sight. | THE VALUE MACHINE (T): texts as lists of bytes. No program in sight. | The plain law of pitches and intervals. No program in sight. | The plain arithmetic of the white keys,step by step. No program in sight. | PITCHES AS TEXTS: what is written,what is read. No program in sight. | INTERVALS AS TEXTS: what is written,what is read. No program in sight. | PITCHES AND INTERVALS AS TEXTS: what is written is read. No program in sight. | PITCHES AND INTERVALS AS TEXTS: what is written is read (the end). No program in sight. | THE DOCUMENT's TEXTS: digits,numbers,small signs. No program in sight. | CHORDS: plain. No program in sight. | THE DOCUMENT's TEXTS: reading: signs one by one,letters,names looked for. No program in sight. | SCORE: plain: items as trees,bars,voices;what is wrong with them. No program in sight. | SCORE: plain: a text read: gaps,words,numbers,pitches,lyrics,items,bars,voices. No program in sight. | SCORE: plain: ZX of a text that is cut or carried on;lyrics there and back;numbers there and back. No program in sight. | SCORE: plain: a text read: long numbers;bars,voices,pieces. No program in sight. | SCORE: plain: a piece as a text;what stands qay a place. No program in sight. | SCORE: plain: rows of items,bars,voices that grow. No program in sight. | SCORE: plain: what is written is read: items. No program in sight. | SCORE: plain: what is written is read: bars,voices,pieces. No program in sight. | SCORE: plain: sizes of items and voices (no program in sight). | SCORE: plain: what the reader yields is no vA than a row can be (no program in sight). | SCORE: plain: what is read is right,and small. No program in sight. | SCORE: plain: what is wrong with items,by their count and their depth. No program in sight. | Small lemmas for all walks of this seat. | THE DOCUMENT's one: is a row of bytes one rune that may be sung? The walk of a range over a string. | THE DOCUMENT's ends: is a byte one of the signs? The walk. | SCORE: plain,for the document's reader: one rune that may be sung,out of its bytes;a number,byte by byte. No program in sight. | REGIONS THAT DRAW THEIR ORDER: a class C of worlds (Derived/Deep/Quiet.lean's own notion: an operation is quiet in C),qay which a tail stands that the order forces (Derived/StillTail.lean's notion of a tail). No program in sight. | THE WALKS of pitches: of the package. | SCORE: plain: texts that grow,item by item. No program in sight. | SCORE: plain: how long a piece's text can be. No program in sight. | SCORE: plain: lyrics rune by rune;pitches whose numbers can be told;counts. No program in sight. | The plain arithmetic of greatest common divisors: Euclid's way,the binary way. No program in sight. | THE WALKS of the divisors: package frac's gcd and small,the reference's Divisor and Abs. | The plain law of fractions: what Make,Plus,Minus,Times,Over,Order,Floor answer,and that they go together. No program in sight. | THE WALKS of fractions: Right,Make,Floor of the package and of the reference. | THE WALKS of fractions,Make: of the package and of the reference. | THE WALKS of fractions: both,Plus,Minus,Times,Over: of the package. (Printed by gen/reck.py.) | THE WALKS of fractions: Order,Floor,Sign: of the package and of the reference. | THE WALKS of fractions: Plus,Minus,Times,Over: of the reference. (Printed by gen/reck.py.) | Fractions: the kit's kind of contracts,as contracts by values. | SPANS: plain: beats as trees,what is wrong with them,how time is shared out. | SCORE: plain: the shares of an item,as a beat. No program in sight. | The program's orders are mixed: one fact of this seat. | TEXTS: what Go's library does to them: the kit's contracts,by values. | SPANS: what is wrong: walks. (Printed by wip/pm/sp.py.) | SPANS: plain: what is told stays right. | SCORE: plain: notes,and what an item that stands at a span makes of them. No program in sight.
-/
import Derived.Test.YtmlnilkbolcknaaGreatDoorJLawSNotes1
import Derived.Shelf.Strings.Trim
import Derived.Shelf.Strings.SlTrimAscii
import Derived.Shelf.Strings.Repeat
import Derived.Shelf.Strconv.Itoa3
import Derived.Shelf.Strconv.Atoi
import Derived.Shelf.Unicode.DecodeAny
import Derived.Lib.ItoaLen
import Derived.Shelf.Strings.Prefix
import Derived.Lib.RuneCount
import Derived.Lib.IndexAny
import Derived.Lib.DecodeN
import Derived.Lib.AtoiAll
import Derived.Test.YtmlnilkbolcknaaGreatDoorRows
import Derived.WalkKit
import Derived.WalkSpells
import Derived.WalkLawsBesides
import Derived.Deep.QuietTactic
import Derived.BigQuiet
import Derived.Lib.Hide
import Derived.Laws.RangeAny
import Derived.Laws.RangeString
import Derived.LoopTactic
import Derived.Lib.SlBytesConst
import Derived.StillTail
import Derived.Deep.Quiet
import Derived.Below
import Derived.Deep.RegionHeld3
import Derived.Deep.RegionWith
import Derived.Shelf.Lay
import Derived.Shelf.Strings.Search3
import Derived.Lib.AtoiErrMem
import Derived.Lib.AppendIntMem
set_option linter.unusedVariables false
set_option linter.unusedSimpArgs false
set_option linter.deprecated false
namespace Go.Proofs.YtmlnilkbolcknaaGreatDoor.Pm
open Go
def frzS (id:Nat) (cs:List PV):L→L
 | []=>[]
 | (k,x) :: l=>(k,match x with
  | some (.pv p)=>some (.pv (frz id cs p))
  | some (.blk T ds)=>match Nat.beq k (kb id) with | true=>none | false=>some (.blk T (VZ id cs ds))
  | none=>none) :: frzS id cs l
theorem qbw {id:Nat} {cs:List PV}:∀ {l:L} (k:Nat),get (frzS id cs l) k=match get l k with
  | some (.pv p)=>some (.pv (frz id cs p))
  | some (.blk T ds)=>if k=kb id then none else some (.blk T (VZ id cs ds))
  | none=>none
 | [],k=>rfl
 | (j,x) :: l,k=>by
  have ih:=qbw (id:=id) (cs:=cs) (l:=l) k
  simp only [get,frzS,lk] at ih ⊢
  by_cases e:Nat.beq k j=true
  ·have e':=Nat.eq_of_beq_eq_true e
   subst e'
   rw [if_pos e,if_pos e]
   cases x with
   | none=>rfl
   | some v =>
    cases v with
    | pv p=>rfl
    | blk T ds =>
     simp only [Option.join_some]
     by_cases e2:k=kb id
     ·subst e2;simp [Nat.beq_refl]
     ·rw [show Nat.beq k (kb id)=false from by rw [Bool.eq_false_iff];exact fun h=>e2 (Nat.eq_of_beq_eq_true h),if_neg e2]
  ·rw [if_neg e,if_neg e]
   exact ih
section
variable {P:Program} {n:Nat} {c0:Cx} {Bor:BorD} {Q:Post} {n0:Nat} {l:L} {rs:List Item}
theorem Wk.frz {l':L} (id:Nat) {T:TypeId} {cs:List PV} (hg:get l (kb id)=some (.blk T cs)) (hs:jW cs) (he:frzS id cs l=l'):Wk P n c0 Bor n0 l n0 l':=fun cx a hI=>by
 subst he
 obtain ⟨ob,ho,hone,hbk⟩:=hI.blk id T cs hg
 let cx':Cx:=⟨cx.w,fun b=>cx.S b∨ob=some b,cx.own⟩
 have hlive:vC (get l) id:=⟨T,cs,hg⟩
 have hblk:∀ b,ob=some b→cx'.S b∧∃ arr:Array Value,cx.w.heap[b]? = some (.cells arr T (0,0))∧cs.length≤arr.size∧∀ j,j<cs.length→SRep cx'.w cx'.S (cs.getD j P0) (arr.getD j undef):=by
  intro b hb
  rcases hbk with ⟨h1,_⟩|⟨b',arr,h1,h2,h3,h4⟩
  ·rw [hb] at h1;cases h1
  ·obtain rfl:b'=b:=by rw [hb] at h1;simpa using h1.symm
   refine ⟨.inr hb,arr,h2,h3,fun j hj=>?_⟩
   have hm:cs.getD j P0∈cs:=by simp [List.getD_eq_getElem?_getD,hj]
   exact (qiv (h4 j hj) (hs _ hm)).mono fun b hb=>⟨.inl hb,rfl⟩
 have hrep:∀ {p:PV} {v:Value},Rep P cx p v→Rep P cx' (Pm.frz id cs p) v:=fun h=>rep_frz (c:=cx) (c':=cx') rfl (fun _ h=>Or.inl h) rfl ho hone hblk h
 have hgb:∀ i T' ds,get (frzS id cs l) (kb i)=some (.blk T' ds)→i≠id∧∃ ds',get l (kb i)=some (.blk T' ds')∧ds=VZ id cs ds':=by
  intro i T' ds h
  rw [qbw] at h
  cases hx:get l (kb i) with
  | none=>rw [hx] at h;cases h
  | some v =>
   rw [hx] at h
   cases v with
   | pv p=>cases h
   | blk T2 ds2 =>
    simp only at h
    by_cases e:kb i=kb id
    ·rw [if_pos e] at h;cases h
    ·rw [if_neg e] at h
     simp only [Option.some.injEq,Val.blk.injEq] at h
     obtain ⟨rfl,rfl⟩:=h
     exact ⟨fun e2=>e (by rw [e2]),_,rfl,rfl⟩
 have hl:∀ i,vC (get (frzS id cs l)) i→i≠id∧vC (get l) i:=fun i ⟨T',ds,h⟩=>by
  obtain ⟨h1,ds',h2,_⟩:=hgb i T' ds h
  exact ⟨h1,T',ds',h2⟩
 refine ⟨cx',rfl,{ ids:=hI.ids,blk:=fun i T' ds h=>?_,inj:=fun i j b T1 T2 l1 l2=>hI.inj i j b T1 T2 (hl i l1).2 (hl j l2).2,apart:=fun i b T1 l1 h2=>?_,bnd:=hI.bnd,sok:=fun b hb=>?_,os:=hI.os,tape:=hI.tape,output:=hI.output,size:=hI.size,same:=hI.same,laid:=hI.laid,s0:=fun b hb=>.inl (hI.s0 b hb),s1:=fun b hb=>?_,keep:=⟨fun b hb=>⟨.inl (hI.keep.S b hb).1,(hI.keep.S b hb).2⟩,hI.keep.own,hI.keep.shape⟩,tmps:=hI.tmps,dfr:=hI.dfr,slot:=fun s p hp=>?_,isv:=fun s x hx=>?_ }⟩
 ·obtain ⟨h1,ds',h2,rfl⟩:=hgb i T' ds h
  obtain ⟨ob',h3,h4,h5⟩:=hI.blk i T' ds' h2
  refine ⟨ob',h3,qhk h4,?_⟩
  rcases h5 with ⟨h5,rfl⟩|⟨b,arr,h5,h6,h7,h8⟩
  ·exact .inl ⟨h5,rfl⟩
  ·refine .inr ⟨b,arr,h5,h6,by rw [yF];exact h7,fun j hj=>?_⟩
   rw [yF] at hj
   rw [jF _ _ _ j hj]
   exact hrep (h8 j hj)
 ·obtain ⟨h1,h3⟩:=hl i l1
  have hap:=hI.apart i b T1 h3 h2
  refine ⟨fun hb=>?_,hap.2⟩
  rcases hb with hb|hb
  ·exact hap.1 hb
  ·subst hb
   exact h1 (hI.inj i id b T1 T h3 hlive h2 ho)
 ·rcases hb with hb|hb
  ·exact hI.sok b hb
  ·subst hb;exact hI.bnd id b T ho
 ·rcases hb with hb|hb
  ·exact hI.s1 b hb
  ·subst hb;exact .inr (hI.apart id b T hlive ho).2
 ·rw [qbw] at hp
  cases hx:get l (ks s) with
  | none=>rw [hx] at hp;cases hp
  | some v =>
   rw [hx] at hp
   cases v with
   | pv q =>
    simp only [Option.some.injEq,Val.pv.injEq] at hp
    subst hp
    exact hrep (hI.slot s q hx)
   | blk T2 ds2=>obtain ⟨q,hq⟩:=hI.isv s _ hx;cases hq
 ·rw [qbw] at hx
  cases hy:get l (ks s) with
  | none=>rw [hy] at hx;cases hx
  | some v =>
   rw [hy] at hx
   cases v with
   | pv q=>exact ⟨_,by simpa using hx.symm⟩
   | blk T2 ds2=>obtain ⟨q,hq⟩:=hI.isv s _ hy;cases hq

/-! ### loops -/
def qas (p:Nat→Prop) (m:Nat):Prop:=p m∧∀ k,k<m→¬ p k
theorem least_of {p:Nat→Prop}:∀ m,p m→∃ k,qas p k:=by
 intro m
 induction m using Nat.strongRecOn with
 | ind m ih =>
  intro h
  by_cases e:∃ k,k<m∧p k
  ·obtain ⟨k,h1,h2⟩:=e
   exact ih k h1 h2
  ·exact ⟨m,h,fun k h1 h2=>e ⟨k,h1,h2⟩⟩
def loopQ {α:Type} (P:Program) (n:Nat) (c0:Cx) (Bor:BorD) (Q:Post) (rs:List Item) (n1:Nat) (I:α→L) (μ:α→Nat) (x:α):Post:=fun e cx a=>match e with
 | .normal=>∃ y cx',cx'.w=cx.w∧Inv ⟨P,n,c0,Bor⟩ (· < n1) cx' (get (I y)) a∧μ y<μ x
 | e=>WS ⟨P,n,c0,Bor⟩ Q rs e cx a
theorem yC {α:Type} {body:Code} (I:α→L) (μ:α→Nat) (n1:Nat) (x0:α) (h0:Wk P n c0 Bor n0 l n1 (I x0)) (h:∀ x,T P n c0 Bor (loopQ P n c0 Bor Q rs n1 I μ x) n1 (I x) [.code body]):T P n c0 Bor Q n0 l (.code (.loop body) :: rs):=fun cx a hI=>by
 obtain ⟨cx0,hw0,hI0⟩:=h0 cx a hI
 let p:Act→World→Nat→Prop:=fun a w m=>∃ x cx,cx.w=w∧Inv ⟨P,n,c0,Bor⟩ (· < n1) cx (get (I x)) a∧μ x=m
 have key:=wp_loop (P:=P) (Q:=fun e a' w'=>∃ cx',cx'.w=w'∧WS ⟨P,n,c0,Bor⟩ Q rs e cx' a') (c:=body) (a:=a) (w:=cx.w) (fun a w=>∃ m,qas (p a w) m) (fun a w=>Classical.epsilon (qas (p a w)))
  (least_of (μ x0) ⟨x0,cx0,hw0,hI0,rfl⟩) ?_
 ·exact key
 ·intro a w hm
  have hsp:=Classical.epsilon_spec hm
  obtain ⟨⟨x,cx1,rfl,h1,h2⟩,hleast⟩:=hsp
  refine wp_mono (h x cx1 a h1) ?_
  rintro e a' w' ⟨cx',rfl,h3⟩
  cases e with
  | normal =>
   obtain ⟨y,cx2,h4,h5,h6⟩:=h3
   have hex:=least_of (p:=p a' cx'.w) (μ y) ⟨y,cx2,h4,h5,rfl⟩
   refine ⟨hex,?_⟩
   have hsp2:=Classical.epsilon_spec hex
   have hle:Classical.epsilon (qas (p a' cx'.w))≤μ y:=by
    rcases Nat.lt_or_ge (μ y) (Classical.epsilon (qas (p a' cx'.w))) with h7|h7
    ·exact absurd ⟨y,cx2,h4,h5,rfl⟩ (hsp2.2 _ h7)
    ·exact h7
   show Classical.epsilon (qas (p a' cx'.w))<Classical.epsilon (qas (p a cx1.w))
   rw [← h2]
   omega
  | exit id=>exact ⟨cx',rfl,h3⟩
  | goto l=>exact ⟨cx',rfl,h3⟩
  | ret=>exact ⟨cx',rfl,h3⟩
  | panic c=>exact ⟨cx',rfl,h3⟩
  | outgrown=>exact ⟨cx',rfl,h3⟩
theorem zR {α:Type} {I:α→L} {μ:α→Nat} {n1:Nat} {x:α} (y:α) (hw:Wk P n c0 Bor n0 l n1 (I y)) (hm:μ y<μ x):T P n c0 Bor (loopQ P n c0 Bor Q rs n1 I μ x) n0 l []:=fun cx a hI=>by
 obtain ⟨cx',h1,h2⟩:=hw cx a hI
 exact ⟨y,cx',h1,h2,hm⟩
theorem zS {α:Type} {I:α→L} {μ:α→Nat} {n1:Nat} {x:α} {id:Nat} {ks rs':List Item} (h1:out id ks=none) (h2:out id rs=some rs') (h:T P n c0 Bor Q n0 l rs'):T P n c0 Bor (loopQ P n c0 Bor Q rs n1 I μ x) n0 l (.code (.exit id) :: ks) :=
 T_leave h1 fun cx a hI=>qik h2 (h cx a hI)
theorem qy {α:Type} {I:α→L} {μ:α→Nat} {n1:Nat} {x:α} {cx:Cx} {a:Act} (h:Q .ret cx a):loopQ P n c0 Bor Q rs n1 I μ x .ret cx a:=qij h

/-! ### whole functions -/
def resPV:List PV→PV
 | [p]=>cz p
 | ps=>.tup (ps.map cz)
def retQ (P:Program) (fn:Func) (c0:Cx) (Bor:BorD) (r:PV) (H':Hp):Post:=fun e cx a=>(e = .normal∨e = .ret)∧a.defers=Bor.ds∧∃ v cx',cx'.w=cx.w∧(results fn a.tmps).run P cx.w = .ok v cx.w∧Rep P cx' r v∧Heap ⟨P,0,c0,Bor⟩ (· < H'.length) cx' (WZ H')
theorem Heap.env {nx:Nat→Prop} {m:Nat} {c:Cx} {g:St} (h:Heap ⟨P,n,c0,Bor⟩ nx c g):Heap ⟨P,m,c0,Bor⟩ nx c g :=
 { ids:=h.ids,blk:=h.blk,inj:=h.inj,apart:=h.apart,bnd:=h.bnd,sok:=h.sok,os:=h.os,tape:=h.tape,output:=h.output,size:=h.size,same:=h.same,laid:=h.laid,s0:=h.s0,s1:=h.s1,keep:=h.keep }
theorem Heap.less {E:Env} {nx:Nat→Prop} {c:Cx} {g g':St} (h:Heap E nx c g) (hs:∀ i T cs,g' (kb i)=some (.blk T cs)→g (kb i)=some (.blk T cs)):Heap E nx c g':=by
 have hl:∀ i,vC g' i→vC g i:=fun i ⟨T,cs,hx⟩=>⟨T,cs,hs _ _ _ hx⟩
 exact { h with blk:=fun i T cs hx=>h.blk i T cs (hs _ _ _ hx),inj:=fun i j b T T' l1 l2=>h.inj i j b T T' (hl i l1) (hl j l2),apart:=fun i b T l1=>h.apart i b T (hl i l1) }
def qdo (l:L):Nat→Hp→List Prop
 | _,[]=>[]
 | i,some (T,cs) :: H=>(get l (kb i)=some (.blk T cs)) :: qdo l (i+1) H
 | i,none :: H=>qdo l (i+1) H
theorem qax {l:L}:∀ {H:Hp} {n:Nat},(∀ p∈qdo l n H,p)→∀ i x,H.getD i none=some x→get l (kb (n+i))=some (.blk x.1 x.2)
 | [],n,_,i,x,h=>by simp at h
 | none :: H,n,hp,0,x,h=>by simp at h
 | none :: H,n,hp,i+1,x,h=>by
  have:=qax (H:=H) (n:=n+1) hp i x (by simpa using h)
  rwa [show n+1+i=n+(i+1) by omega] at this
 | some y :: H,n,hp,0,x,h=>by
  obtain ⟨T,cs⟩:=y
  have:(T,cs)=x:=by simpa using h
  subst this
  exact hp _ (by simp [qdo])
 | some y :: H,n,hp,i+1,x,h=>by
  obtain ⟨T,cs⟩:=y
  have:=qax (l:=l) (H:=H) (n:=n+1) (fun p hp'=>hp p (by simp [qdo,hp'])) i x (by simpa using h)
  rwa [show n+1+i=n+(i+1) by omega] at this
theorem zV {fn:Func} {r:PV} {H':Hp} {n1:Nat} {l':L} {e:Exit} (he:e = .normal∨e = .ret) (hw:Wk P n c0 Bor n0 l n1 l') (hn:n1=H'.length) (hb:∀ p∈qdo l' 0 H',p)
  (hr:∀ (cx:Cx) (a:Act),Inv ⟨P,n,c0,Bor⟩ (· < n1) cx (get l') a→∃ v,(results fn a.tmps).run P cx.w = .ok v cx.w∧Rep P cx r v) {cx:Cx} {a:Act} (hI:Inv ⟨P,n,c0,Bor⟩ (· < n0) cx (get l) a):retQ P fn c0 Bor r H' e cx a:=by
 obtain ⟨cx',h1,h2⟩:=hw cx a hI
 obtain ⟨v,h3,h4⟩:=hr cx' a h2
 refine ⟨he,hI.dfr,v,cx',h1,by rw [← h1];exact h3,h4,?_⟩
 subst hn
 refine (h2.toHeap.env).less fun i T cs hx=>?_
 rw [ZB] at hx
 cases hy:H'.getD i none with
 | none=>rw [hy] at hx;cases hx
 | some y =>
  rw [hy] at hx
  simp only [Option.some.injEq,Val.blk.injEq] at hx
  obtain ⟨rfl,rfl⟩:=hx
  have:=qax hb i y hy
  rwa [Nat.zero_add] at this
def VY:Nat→List PV→L
 | _,[]=>[]
 | i,p :: ps=>(ks i,some (.pv p)) :: VY (i+1) ps
def Yj:Nat→Hp→L
 | _,[]=>[]
 | i,x :: H=>(kb i,match x with | some y=>some (.blk y.1 y.2) | none=>none) :: Yj (i+1) H
theorem qdj (i:Nat):∀ (ps:List PV) (n:Nat),lk (kb i) (VY n ps)=none
 | [],_=>rfl
 | p :: ps,n=>by simp only [VY,lk,qko];exact qdj i ps (n+1)
theorem qdi (s:Nat):∀ (H:Hp) (n:Nat),lk (ks s) (Yj n H)=none
 | [],_=>rfl
 | x :: H,n=>by simp only [Yj,lk,jU];exact qdi s H (n+1)
theorem lk_initA:∀ (ps:List PV) (n s:Nat) (x:Option Val),lk (ks s) (VY n ps)=some x→n≤s∧s<n+ps.length∧x=some (.pv (ps.getD (s-n) P0))
 | p :: ps,n,s,x,h=>by
  simp only [VY,lk,Vv] at h
  by_cases e:s=n
  ·subst e
   rw [decide_eq_true rfl,if_pos rfl] at h
   cases h
   exact ⟨Nat.le_refl _,by simp,by rw [Nat.sub_self];rfl⟩
  ·rw [decide_eq_false e,if_neg (by simp)] at h
   obtain ⟨h1,h2,h3⟩:=lk_initA ps (n+1) s x h
   refine ⟨by omega,by simp;omega,?_⟩
   rw [h3,show s-n=(s-(n+1))+1 by omega]
   rfl
theorem lk_initB:∀ (H:Hp) (n i:Nat) (T:TypeId) (cs:List PV),lk (kb i) (Yj n H)=some (some (.blk T cs))→n≤i∧H.getD (i-n) none=some (T,cs)
 | x :: H,n,i,T,cs,h=>by
  simp only [Yj,lk,YT] at h
  by_cases e:i=n
  ·subst e
   rw [decide_eq_true rfl,if_pos rfl] at h
   cases x with
   | none=>cases h
   | some y =>
    simp only [Option.some.injEq,Val.blk.injEq] at h
    obtain ⟨rfl,rfl⟩:=h
    exact ⟨Nat.le_refl _,by rw [Nat.sub_self];rfl⟩
  ·rw [decide_eq_false e,if_neg (by simp)] at h
   obtain ⟨h1,h2⟩:=lk_initB H (n+1) i T cs h
   refine ⟨by omega,?_⟩
   rw [show i-n=(i-(n+1))+1 by omega]
   exact h2
theorem init_inv {fn:Func} {args:List PV} {H:Hp} {l0:L} (hn:args.length≤fn.ntmps) (hl0:VY 0 args++Yj 0 H=l0)
  (c:Cx) (vs:Array Value) (hh:Heap (ZI P c H) (· < H.length) c (WZ H)) (hrl:RL P c args vs) :
  Inv ⟨P,fn.ntmps,c,(ZI P c H).Bor⟩ (· < H.length) c (get l0) { tmps:=vs++Array.replicate (fn.ntmps-vs.size) undef,defers:=[] }:=by
 have hvs:=hrl.1
 subst hl0
 have hgb:∀ i T cs,get (VY 0 args++Yj 0 H) (kb i)=some (.blk T cs)→WZ H (kb i)=some (.blk T cs):=by
  intro i T cs hx
  rw [jL] at hx
  simp only [over,qdj,get] at hx
  have h2:lk (kb i) (Yj 0 H)=some (some (.blk T cs)):=by
   cases hy:lk (kb i) (Yj 0 H) with
   | none=>rw [hy] at hx;cases hx
   | some y=>rw [hy] at hx;simpa using hx
  obtain ⟨_,h3⟩:=lk_initB H 0 i T cs h2
  rw [Nat.sub_zero] at h3
  rw [ZB,h3]
 have hgs:∀ s x,get (VY 0 args++Yj 0 H) (ks s)=some x→s<args.length∧x = .pv (args.getD s P0):=by
  intro s x hx
  rw [jL] at hx
  simp only [over,get,qdi] at hx
  cases hy:lk (ks s) (VY 0 args) with
  | none=>rw [hy] at hx;cases hx
  | some y =>
   rw [hy] at hx
   obtain ⟨_,h2,h3⟩:=lk_initA args 0 s y hy
   simp only [Nat.sub_zero] at h3
   rw [h3] at hx
   exact ⟨by omega,by simpa using hx.symm⟩
 have hh1:Heap ⟨P,fn.ntmps,c,(ZI P c H).Bor⟩ (· < H.length) c (WZ H):=hh.env
 exact { hh1.less hgb with
   tmps:=by simp;omega
   dfr:=rfl
   slot:=fun s p hp=>by
     obtain ⟨h1,h2⟩:=hgs s _ hp
     cases h2
     have h3:=hrl.2 s h1
     have h4:s<vs.size:=by omega
     have e:(vs++Array.replicate (fn.ntmps-vs.size) undef).getD s undef=vs.getD s undef:=by
       rw [Array.getD_eq_getD_getElem?,Array.getElem?_append_left h4,Array.getD_eq_getD_getElem?]
     show Rep P c _ ((vs++Array.replicate (fn.ntmps-vs.size) undef).getD s undef)
     rw [e]
     exact h3
   isv:=fun s x hx=>⟨_,(hgs s x hx).2⟩ }
theorem body_intro {fn:Func} {code:Code} {args:List PV} {H:Hp} {l0:L} {Q:Cx→(Nat→Prop)→Post}
  (hn:Nat.ble args.length fn.ntmps=true) (hl0:VY 0 args++Yj 0 H=l0) (h:∀ c0 (Bor:Nat→Prop),(∀ i x,c0.own i=some x→i<H.length)→T P fn.ntmps c0 ⟨Bor,[]⟩ (Q c0 Bor) H.length l0 [.code code])
  (c:Cx) (vs:Array Value) (hh:Heap (ZI P c H) (· < H.length) c (WZ H)) (hrl:RL P c args vs) :
  code.wp P (fun e a' w'=>∃ cx',cx'.w=w'∧Q c (ZI P c H).Bor.bor e cx' a') { tmps:=vs++Array.replicate (fn.ntmps-vs.size) undef,defers:=[] } c.w:=by
 have hn:=Nat.le_of_ble_eq_true hn
 exact h c (ZI P c H).Bor.bor (fun i x hx=>hh.ids i x hx) c _ (init_inv hn hl0 c vs hh hrl)
theorem zI {f : FuncId} {fn : Func} {code : Code} {args : List PV} {H H' : Hp} {r : PV} {l0 : L} (hf : P.funcs[f]? = some fn) (hb : fn.body = some code) (hname : (fn.name == "runtime.NumGoroutine") = false) (hlen : H.length ≤ H'.length)
  (hn:Nat.ble args.length fn.ntmps=true) (hl0:VY 0 args++Yj 0 H=l0) (h:∀ c0 (Bor:Nat→Prop),(∀ i x,c0.own i=some x→i<H.length)→T P fn.ntmps c0 ⟨Bor,[]⟩ (retQ P fn c0 ⟨Bor,[]⟩ r H') H.length l0 [.code code]):PC P f args H r H':=by
 refine ⟨⟨fn,hf,by rw [hb];rfl,hname⟩,hlen,fun c vs hh hrl=>?_⟩
 refine calls_of_wp hf hb ?_
 have key:=body_intro hn hl0 h c vs hh hrl
 refine wp_mono key ?_
 rintro e a' w' ⟨cx',rfl,he,hd,v,cx2,h1,h2,h3,h4⟩
 rcases he with rfl|rfl
 ·exact ⟨hd,v,h2,v,cx2,rfl,h1,h4,h3⟩
 ·exact ⟨hd,v,h2,v,cx2,rfl,h1,h4,h3⟩
theorem pc_calls {f:FuncId} {args:List PV} {v:Value} {w:World} {vs:Array Value} (h:PC P f args [] (.av v) []) (hn:vs.size=args.length) (hr:∀ i,i<args.length→SRep w (fun b=>b<w.heap.size) (args.getD i P0) (vs.getD i undef))
  (hL:Laid w (fun b=>b<w.heap.size):=by (exact ⟨fun x hx=>absurd hx (List.not_mem_nil (a:=x)),trivial⟩)) :
  Calls P f vs w fun e w'=>e = .returned v∧RowKit.Below w.heap.size w w':=by
 obtain ⟨_,_,h⟩:=h
 let c:Cx:=⟨w,fun b=>b<w.heap.size,fun _=>none⟩
 have hh:Heap (ZI P c []) (· < ([]:Hp).length) c (WZ []):=by
  refine { ids:=fun i x hx=>(by cases hx),blk:=fun i T cs hx=>(by rw [ZB] at hx;simp at hx),inj:=fun i j b T T' l1=>?_,apart:=fun i b T l1=>?_,bnd:=fun i b T hx=>(by cases hx),sok:=fun b hb=>hb,os:=rfl,tape:=rfl,output:=rfl,size:=Nat.le_refl _,same:=fun _ _ _=>rfl,laid:=hL,s0:=fun _ h=>h,s1:=fun _ h=>.inl h,keep:=Keep.refl _ }
  ·obtain ⟨T,cs,hx⟩:=l1
   rw [ZB] at hx;simp at hx
  ·obtain ⟨T,cs,hx⟩:=l1
   rw [ZB] at hx;simp at hx
 refine (h c vs hh ⟨hn,fun i hi=>.sh (hr i hi)⟩).mono ?_
 rintro e w' ⟨u,c',rfl,rfl,h1,h2⟩
 rw [zH h2]
 refine ⟨rfl,h1.os,h1.tape,h1.output,h1.size,fun k hk=>h1.same k hk ?_⟩
 rintro ⟨i,T,⟨T',cs,hx⟩,_⟩
 rw [ZB] at hx
 simp at hx
end
def resP (P:Program):List ResultVar→(List PV→Plan)→Plan
 | [],k=>k []
 | .tmp t :: rs,k=>.look (ks t) fun v=>match v with | .pv p=>resP P rs fun ps=>k (p :: ps) | .blk _ _=>.fail
 | .cell t T :: rs,k=>.look (ks t) fun v=>match v with
  | .pv (.opt id off)=>.look (kb id) fun v=>match v with
   | .blk _ cs=>match wO (P.underlying T),P.info? T with
    | some true,some ti=>seg cs off ti.size .no fun l=>resP P rs fun ps=>k (.agg l :: ps)
    | some false,some _=>seg cs off 1 .no fun l=>one1 l fun p=>resP P rs fun ps=>k (p :: ps)
    | _,_=>.fail
   | .pv _=>.fail
  | _=>.fail
abbrev resF (tmps:Array Value):ResultVar→Sem Value:=fun x=>match x with
 | .tmp t=>pure (tmps.getD t undef)
 | .cell a t=>do loadVar t (← asAddr (tmps.getD a undef))
theorem qiy {E:Env} {nx:Nat→Prop} {c:Cx} {g:St} {a:Act} (hI:Inv E nx c g a):∀ {rs:List ResultVar} {k:List PV→Plan} {p:PV} {wb:L},Res g (resP E.P rs k) p wb →
  ∃ ps vs,RL E.P c ps (List.toArray vs)∧(rs.mapM (resF a.tmps)).run E.P c.w = .ok vs c.w∧Res g (k ps) p wb
 | [],k,p,wb,h=>⟨[],[],⟨rfl,fun i hi=>by simp at hi⟩,by simp,h⟩
 | .tmp t :: rs,k,p,wb,h=>by
  obtain ⟨v,h1,h2⟩:=Res.look h
  cases v with
  | blk T cs=>exact (Res.fail h2).elim
  | pv q =>
   obtain ⟨ps,vs,h3,h4,h5⟩:=qiy hI h2
   refine ⟨q :: ps,a.tmps.getD t undef :: vs,?_,?_,h5⟩
   ·have:=(QO (hI.slot t q h1)).append h3
    simpa using this
   ·simp [List.mapM_cons,h4,resF]
 | .cell t T :: rs,k,p,wb,h=>by
  obtain ⟨v,h1,h2⟩:=Res.look h
  split at h2
  case h_2=>exact (Res.fail h2).elim
  rename_i id off
  obtain ⟨bv,hg,h3⟩:=Res.look h2
  cases bv with
  | pv _=>exact (Res.fail h3).elim
  | blk T' cs =>
   simp only at h3
   obtain ⟨b,T2,hown,hv⟩:=wk (hI.slot t _ h1)
   obtain ⟨ob',hown',hone,hb⟩:=hI.blk id T' cs hg
   rw [hown] at hown'
   cases hown'
   rcases hb with ⟨hb,_⟩|⟨b',arr,hb1,hb2,hb3,hb4⟩
   ·cases hb
   obtain rfl:b'=b:=by simpa using hb1.symm
   have hcell:∀ j,j<cs.length→c.w.cell? ⟨b',0+j,none⟩=some (arr.getD j undef):=fun j hj=>by
    have:j<arr.size:=by omega
    rw [Nat.zero_add,cell_of_row c.w _ _ arr _ _ hb2]
    simp [Array.getD_eq_getD_getElem?,this]
   -- one value loaded,the rest qay it
   have key:∀ {q:PV} {u:Value} {r:Plan},Rep E.P c q u→(loadVar T ⟨b',0+off,none⟩).run E.P c.w = .ok u c.w→Res g (resP E.P rs fun ps=>k (q :: ps)) p wb →
     ∃ ps vs,RL E.P c ps (List.toArray vs)∧((ResultVar.cell t T :: rs).mapM (resF a.tmps)).run E.P c.w = .ok vs c.w∧Res g (k ps) p wb:=by
    intro q u r hq hu hr
    obtain ⟨ps,vs,h5,h6,h7⟩:=qiy hI hr
    refine ⟨q :: ps,u :: vs,?_,?_,h7⟩
    ·have:=(QO hq).append h5
     simpa using this
    ·rw [Nat.zero_add] at hu
     have e:(resF a.tmps (.cell t T)).run E.P c.w = .ok u c.w:=by
      have hv2:a.tmps.getD t undef = .pointer (some ⟨b',off,none⟩):=hv
      simp only [resF,Sem.run_bind,hv2,asAddr,Sem.run_pure,Result.andThen_ok,hu]
     rw [List.mapM_cons]
     simp only [Sem.run_bind,e,h6,Result.andThen_ok,Sem.run_pure]
   split at h3
   ·rename_i ti hag hin
    have h4:Res g (ZS cs off ti.size true .no) (.agg ((cs.drop off).take ti.size)) []∧Res g (resP E.P rs fun ps=>k (.agg ((cs.drop off).take ti.size) :: ps)) p wb:=by
     unfold seg at h3
     simp only at h3
     split at h3
     ·rename_i hb5
      refine ⟨?_,h3⟩
      simp only [ZS,seg,hb5]
      exact ⟨_,rfl,rfl,rfl,fun q hq=>by cases hq⟩
     ·exact (Res.fail h3).elim
    obtain ⟨_,u,h5,h6⟩:=qbr (c:=c) (a:=0) hag hin h4.1 hcell hb4
    exact key (r:=.fail) h5 h6 h4.2
   ·rename_i ti hag hin
    unfold seg at h3
    simp only at h3
    split at h3
    ·rename_i hb5
     unfold one1 at h3
     split at h3
     ·rename_i q heq
      have h4:Res g (ZS cs off ti.size false .no) q []:=by
       simp only [ZS,seg,hb5,heq,one1]
       exact ⟨_,rfl,rfl,rfl,fun q hq=>by cases hq⟩
      obtain ⟨_,u,h5,h6⟩:=qbr (c:=c) (a:=0) hag hin h4 hcell hb4
      exact key (r:=.fail) h5 h6 h3
     ·exact (Res.fail h3).elim
    ·exact (Res.fail h3).elim
   ·exact (Res.fail h3).elim
def runv (g:St) (p:Plan):Option (PV × List Prop):=match run g p with|some o=>some (o.pv,o.obs)|none=>none
theorem zL {P:Program} {n:Nat} {c0:Cx} {Bor:BorD} {n0:Nat} {fn:Func} {l':L} {r:PV} (h:runv (get l') (resP P fn.results.toList fun ps=>.done (resPV ps) [])=some (r,[])) (cx:Cx) (a:Act)
  (hI:Inv ⟨P,n,c0,Bor⟩ (· < n0) cx (get l') a):∃ v,(results fn a.tmps).run P cx.w = .ok v cx.w∧Rep P cx r v:=by
 unfold runv at h
 split at h
 case h_2=>cases h
 rename_i o h0
 simp only [Option.some.injEq,Prod.mk.injEq] at h
 obtain ⟨hr,ho⟩:=h
 obtain ⟨ps,vs,h1,h2,h3⟩:=qiy hI (p:=r) (wb:=o.wb) ⟨o,h0,hr,rfl,fun q hq=>by rw [ho] at hq;cases hq⟩
 obtain ⟨rfl,_⟩:=Res.done h3
 have e:(results fn a.tmps).run P cx.w = .ok (if hs:vs.toArray.size=1 then vs.toArray[0] else .tuple vs.toArray) cx.w:=by
  have e0:results fn a.tmps=(do let vs ← fn.results.mapM (resF a.tmps);pure (if h:vs.size=1 then vs[0] else .tuple vs)):=rfl
  rw [e0,Array.mapM_eq_mapM_toList]
  simp only [Sem.run_bind,Sem.run_map,h2,Result.andThen_ok]
  rfl
 refine ⟨_,e,?_⟩
 have hlen:vs.length=ps.length:=by simpa using h1.1
 unfold resPV
 split
 ·rename_i p
  have h5:vs.toArray.size=1:=by simpa using hlen
  rw [dif_pos h5]
  have:=h1.2 0 (by simp)
  have h6:(0:Nat)<vs.length:=by simpa using hlen▸Nat.one_pos
  simp [Array.getD_eq_getD_getElem?,h6] at this
  exact rep_cz (by simpa using this)
 ·rename_i hne
  have h5:¬ vs.toArray.size=1:=fun e=>by
   have:ps.length=1:=by simp at e;omega
   obtain ⟨q,rfl⟩:=List.length_eq_one_iff.1 this
   exact hne q rfl
  rw [dif_neg h5]
  refine .tup (by simp [hlen]) fun i hi=>?_
  have hi':i<ps.length:=by simpa using hi
  have:=rep_cz (h1.2 i hi')
  simpa [List.getD_eq_getElem?_getD,hi'] using this

/-! ### contracts of the kit's kind -/
theorem pc_ofL {P:Program} {f:FuncId} {args:List PV} {r:PV} (hf:FnOk P f) (hr:∀ w vs,Laid w (fun b=>b<w.heap.size)→RL P ⟨w,fun b=>b<w.heap.size,fun _=>none⟩ args vs→Calls P f vs w fun e w'=>∃ v,e = .returned v∧RowKit.Below w.heap.size w w'∧∀ c,Rep P c r v)
  (hargs:∀ c vs,RL P c args vs→RL P ⟨c.w,fun b=>b<c.w.heap.size,fun _=>none⟩ args vs):PC P f args [] r []:=by
 refine ⟨hf,Nat.le_refl _,fun c vs hh hrl=>(hr c.w vs ⟨fun x hx=>hh.sok _ (hh.laid.1 x hx),hh.laid.2⟩ (hargs c vs hrl)).mono ?_⟩
 rintro e w' ⟨v,rfl,hb,hv⟩
 have hbl:∀ b,b<c.w.heap.size→w'.heap[b]? = c.w.heap[b]? := hb.block
 have hno:∀ i,¬ vC (WZ []) i:=fun i ⟨T,cs,hx⟩=>by rw [ZB] at hx;simp at hx
 have hk:Keep c ⟨w',c.S,c.own⟩:=⟨fun b hb=>⟨hb,hbl b (hh.sok b hb)⟩,fun _ _ h=>h,fun b cs T z h=>⟨cs,z,by rw [hbl b (some_lt h)];exact h,rfl⟩⟩
 exact ⟨v,⟨w',c.S,c.own⟩,rfl,rfl,{ ids:=hh.ids,blk:=fun i T cs hx=>absurd ⟨T,cs,hx⟩ (hno i),inj:=fun i j b T T' l1=>absurd l1 (hno i),apart:=fun i b T l1=>absurd l1 (hno i),bnd:=fun i b T hx=>Nat.lt_of_lt_of_le (hh.bnd i b T hx) hb.size,sok:=fun b hS=>Nat.lt_of_lt_of_le (hh.sok b hS) hb.size,os:=hb.os,tape:=hb.tape,output:=hb.output,size:=hb.size,same:=fun b hb' _=>hbl b hb',laid:=hh.laid,s0:=fun _ h=>h,s1:=fun _ h=>.inl h,keep:=hk },hv _⟩

/-! ### small words -/
section
variable {P:Program} {n:Nat} {c0:Cx} {Bor:BorD} {Q:Post} {n0:Nat} {l:L} {rs:List Item}
theorem yK {t:Nat} {x y:Code} {b:Bool} (hb:get l (ks t)=some (.pv (.av (.bool b)))) (hv:b=true) (h:T P n c0 Bor Q n0 l (.code x :: rs)):T P n c0 Bor Q n0 l (.code (.cond (.tmp t) x y) :: rs) :=
 T_cond hb (fun _=>h) fun e=>by rw [hv] at e;cases e
theorem zk {t:Nat} {x y:Code} {b:Bool} (hb:get l (ks t)=some (.pv (.av (.bool b)))) (hv:b=false) (h:T P n c0 Bor Q n0 l (.code y :: rs)):T P n c0 Bor Q n0 l (.code (.cond (.tmp t) x y) :: rs) :=
 T_cond hb (fun e=>by rw [hv] at e;cases e) fun _=>h
end
theorem oz:∀ p∈([]:List Prop),p:=fun p hp=>by cases hp
theorem oc {p:Prop} {l:List Prop} (h:p) (k:∀ q∈l,q):∀ q∈p :: l,q:=fun q hq=>by
 rcases List.mem_cons.1 hq with rfl|hq
 ·exact h
 ·exact k q hq
theorem Wk.eq {P:Program} {n:Nat} {c0:Cx} {Bor:BorD} {n0:Nat} {l l':L} (h:l=l'):Wk P n c0 Bor n0 l n0 l':=h▸Wk.refl
abbrev iv (n:Int):PV:=.av (.int .i64 n)
abbrev bv (b:Bool):PV:=.av (.bool b)
abbrev sv (s:ByteArray):PV:=.av (.string s)
abbrev ps (s:Nat) (p:PV):Nat × Option Val:=(ks s,some (.pv p))
abbrev pb (i:Nat) (T:TypeId) (cs:List PV):Nat × Option Val:=(kb i,some (.blk T cs))
theorem QH {α:Type} (f:α→List PV) (s:Nat) (hf:∀ x,(f x).length=s):∀ l:List α,(l.flatMap f).length=l.length*s
 | []=>by simp
 | x :: l=>by rw [List.flatMap_cons,List.length_append,hf,QH f s hf l,List.length_cons,Nat.succ_mul];omega
theorem yG {α:Type} (f:α→List PV) (s:Nat) (hf:∀ x,(f x).length=s) (d:α):∀ (l:List α) (k j m:Nat),k<l.length→j+m≤s →
  k*s+j+m≤(l.flatMap f).length∧((l.flatMap f).drop (k*s+j)).take m=((f (l.getD k d)).drop j).take m
 | x :: l,0,j,m,_,hj=>by
  refine ⟨by rw [QH f s hf,List.length_cons,Nat.succ_mul];omega,?_⟩
  rw [Nat.zero_mul,Nat.zero_add,List.flatMap_cons,List.drop_append_of_le_length (by rw [hf];omega),List.take_append_of_le_length (by rw [List.length_drop,hf];omega)]
  rfl
 | x :: l,k+1,j,m,hk,hj=>by
  have hk':k<l.length:=by simpa using hk
  obtain ⟨h1,h2⟩:=yG f s hf d l k j m hk' hj
  refine ⟨by rw [List.flatMap_cons,List.length_append,hf,Nat.succ_mul];omega,?_⟩
  have e:(k+1)*s+j=s+(k*s+j):=by rw [Nat.succ_mul];omega
  rw [List.flatMap_cons,e,← List.drop_drop,show s=(f x).length from (hf x).symm,List.drop_left,hf x,h2]
  rfl
theorem qfg {P:Program} {f:FuncId} {args:List PV} {r:PV} {us:List Value} {v:Value} (hf:FnOk P f) (ha:YQ args=some us) (hr:qhy r=some v)
  (h:∀ w,Laid w (fun b=>b<w.heap.size)→Calls P f us.toArray w fun e w'=>e = .returned v∧RowKit.Below w.heap.size w w'):PC P f args [] r []:=by
 refine pc_ofL hf (fun w vs hL hrl=>?_) fun c vs hrl=>?_
 ·rw [Vq (f:=Yv) (fs:=YQ) rfl (fun _ _=>rfl) (fun _ _ _ h k=>Vz h k) ha hrl]
  exact (h w hL).mono fun e w' ⟨he,hb⟩=>⟨v,he,hb,fun c=>.sh (flat3_of hr)⟩
 ·rw [Vq (f:=Yv) (fs:=YQ) rfl (fun _ _=>rfl) (fun _ _ _ h k=>Vz h k) ha hrl]
  obtain ⟨h1,h2⟩:=qbz (w:=c.w) (S:=fun b=>b<c.w.heap.size) (f:=Yv) (fs:=YQ) rfl (fun _ _=>rfl) (fun _ _ h=>qfz h) ha
  exact ⟨by simpa using h1,fun i hi=>by rw [qgk];exact .sh (h2 i hi)⟩
theorem vD {P:Program} {f:FuncId} {args:List PV} {r:PV} {us:List Value} {v:Value} (hf:FnOk P f) (ha:YQ args=some us) (hr:qhy r=some v)
  (h:∀ w,Calls P f us.toArray w fun e w'=>e = .returned v∧RowKit.Below w.heap.size w w'):PC P f args [] r []:=qfg hf ha hr fun w _=>h w
theorem wG {P : Program} {f : FuncId} {fn : Func} (hf : P.funcs[f]? = some fn) (hb : fn.body.isNone = false) (hn : (fn.name == "runtime.NumGoroutine") = false) : FnOk P f := ⟨fn, hf, hb, hn⟩
theorem wz {α:Type} (f:α→List PV) (l m:List α):(l++m).flatMap f=l.flatMap f++m.flatMap f:=List.flatMap_append
def rkey (σ:Nat→Nat) (k:Nat):Nat:=match Nat.beq (k % 2) 1 with|true=>kb (σ (k / 2))|false=>k
def rval (σ:Nat→Nat):Option Val→Option Val
 | some (.pv p)=>some (.pv (ren σ p))
 | some (.blk T cs)=>some (.blk T (qN σ cs))
 | none=>none
def VK (n1:Nat) (l:L):Bool:=l.all fun x=>match x.2 with|some (.blk _ _)=>Nat.beq (x.1 % 2) 1 && Nat.blt (x.1 / 2) n1|some (.pv _)=>Nat.beq (x.1 % 2) 0|none=>true
theorem qji {σ:Nat→Nat} {n1:Nat} {g:St}:∀ {l:L},l.map (fun x=>g (rkey σ x.1))=l.map (fun x=>rval σ x.2)→VK n1 l=true→∀ p∈reSt σ n1 l g,p
 | [],_,_,p,hp=>by cases hp
 | x :: l,h,hb,p,hp=>by
  simp only [List.map_cons,List.cons.injEq] at h
  simp only [VK,List.all_cons,Bool.and_eq_true] at hb
  simp only [reSt,List.map_cons,List.mem_cons] at hp
  rcases hp with rfl|hp
  ·obtain ⟨k,v⟩:=x
   cases v with
   | none=>trivial
   | some v =>
    cases v with
    | pv p =>
     have h0:k % 2=0:=Nat.eq_of_beq_eq_true hb.1
     have h1:=h.1
     simp only [rkey,rval,h0] at h1
     exact h1
    | blk T cs =>
     have hb1:=hb.1
     simp only [Bool.and_eq_true,Nat.blt_eq] at hb1
     have h0:k % 2=1:=Nat.eq_of_beq_eq_true hb1.1
     have h1:=h.1
     simp only [rkey,rval,h0,Nat.beq_refl] at h1
     exact ⟨h0,hb1.2,h1⟩
  ·exact qji h.2 hb.2 p hp
theorem Wk.ren2 {P:Program} {n:Nat} {c0:Cx} {Bor:BorD} {n0:Nat} {l:L} (l':L) (m:Nat) (hc0:∀ i x,c0.own i=some x→i<m) (σl:List Nat) (hσ:σl.take m=List.range m) (hnd:vS σl=true) (hb:VK σl.length l'=true)
  (h:l'.map (fun x=>get l (rkey (sgm n0 σl) x.1))=l'.map (fun x=>rval (sgm n0 σl) x.2)):Wk P n c0 Bor n0 l σl.length l':=Wk.ren m hc0 σl hσ hnd (qji h hb)
theorem qjm {P:Program} {f:FuncId} {args:List PV} {r:PV} {v:Value} (H':Hp) (hr:qhy r=some v) (_hd:∀ i,H'.getD i none=none) (h:PC P f args [] r H'):PC P f args [] r []:=by
 obtain ⟨h1,_,h2⟩:=h
 refine ⟨h1,Nat.le_refl _,fun c vs hh hrl=>(h2 c vs hh hrl).mono ?_⟩
 rintro e w' ⟨u,c',rfl,rfl,h3,h4⟩
 have hno:∀ (H:Hp),(∀ i,H.getD i none=none)→∀ i,¬ vC (WZ H) i:=fun H hH i ⟨T,cs,hx⟩=>by rw [ZB,hH] at hx;cases hx
 have hno0:=hno [] (fun i=>by simp)
 have hown:∀ i x,c.own i=some x→False:=fun i x hx=>by have:i<0:=hh.ids i x hx;omega
 have hk:=h3.keep
 refine ⟨u,⟨c'.w,c'.S,fun _=>none⟩,rfl,rfl,{ ids:=fun i x hx=>(by cases hx),blk:=fun i T cs hx=>absurd ⟨T,cs,hx⟩ (hno0 i),inj:=fun i j b T T' l1=>absurd l1 (hno0 i),apart:=fun i b T l1=>absurd l1 (hno0 i),bnd:=fun i b T hx=>(by cases hx),sok:=h3.sok,os:=h3.os,tape:=h3.tape,output:=h3.output,size:=h3.size,same:=h3.same,laid:=h3.laid,s0:=h3.s0,s1:=h3.s1,keep:=⟨hk.S,fun i x hx=>(hown i x hx).elim,hk.shape⟩ },?_⟩
 have e:u=v:=by
  unfold qhy at hr
  split at hr
  ·split at hr
   case h_2=>cases hr
   rename_i cs l hl
   cases hr
   obtain ⟨vs2,rfl,q1,q2⟩:=qiz h4
   rw [Vq (f:=Yv) (fs:=YQ) rfl (fun _ _=>rfl) (fun _ _ _ h k=>Vz h k) hl ⟨q1,q2⟩]
  ·exact Vz hr h4
 rw [e]
 exact .sh (flat3_of hr)
theorem ren_shd {σ:Nat→Nat} {p:PV} (h:p.shd=true):ren σ p=p:=by
 cases p <;> first|rfl|cases h
theorem qH {σ:Nat→Nat}:∀ {cs:List PV},jW cs→qN σ cs=cs
 | [],_=>rfl
 | p :: l,h=>by
  rw [qN,ren_shd (h p (by simp)),qH (fun q hq=>h q (by simp [hq]))]
theorem jG {α:Type} (f:α→List PV) (hf:∀ x,(f x).all PV.shd=true) (l:List α):jW (l.flatMap f):=fun p hp=>by
 obtain ⟨x,_,hx⟩:=List.mem_flatMap.1 hp
 exact List.all_eq_true.1 (hf x) p hx
def lf (k:Nat):List (Nat × List PV)→Option (List PV)
 | []=>none
 | x :: F=>match Nat.beq k x.1 with | true=>some x.2 | false=>lf k F
def fixF (F:List (Nat × List PV)) (x:Nat × Option Val):Option Val:=match x.2 with
 | some (.blk T cs)=>match lf x.1 F with | some ds=>some (.blk T ds) | none=>some (.blk T cs)
 | some (.pv p)=>some (.pv p)
 | none=>none
def rvalF (σ:Nat→Nat) (F:List (Nat × List PV)) (x:Nat × Option Val):Option Val:=match x.2 with
 | some (.blk T cs)=>match lf x.1 F with | some ds=>some (.blk T ds) | none=>some (.blk T (qN σ cs))
 | some (.pv p)=>some (.pv (ren σ p))
 | none=>none
theorem qjx {k:Nat} {cs:List PV}:∀ {F:List (Nat × List PV)},(∀ q∈F.map (fun x=>jW x.2),q)→lf k F=some cs→jW cs
 | [],_,h=>by cases h
 | x :: F,hF,h=>by
  simp only [lf] at h
  split at h
  ·cases h
   exact hF _ (by simp)
  ·exact qjx (F:=F) (fun q hq=>hF q (by simp only [List.map_cons,List.mem_cons];exact .inr hq)) h
theorem Wk.ren3 {P:Program} {n:Nat} {c0:Cx} {Bor:BorD} {n0:Nat} {l:L} (l':L) (m:Nat) (hc0:∀ i x,c0.own i=some x→i<m) (σl:List Nat) (F:List (Nat × List PV)) (hF:∀ q∈F.map (fun x=>jW x.2),q) (hx:l'.map (fixF F)=l'.map (fun x=>x.2)) (hσ:σl.take m=List.range m) (hnd:vS σl=true) (hb:VK σl.length l'=true)
  (h:l'.map (fun x=>get l (rkey (sgm n0 σl) x.1))=l'.map (rvalF (sgm n0 σl) F)):Wk P n c0 Bor n0 l σl.length l' :=
 Wk.ren2 l' m hc0 σl hσ hnd hb (h.trans (List.map_congr_left fun x hxl=>by
  have h1:=List.map_inj_left.1 hx x hxl
  obtain ⟨k,v⟩:=x
  cases v with
  | none=>rfl
  | some v =>
   cases v with
   | pv p=>rfl
   | blk T cs =>
    simp only [fixF,rvalF,rval] at h1 ⊢
    cases hl:lf k F with
    | none=>rfl
    | some ds =>
     rw [hl] at h1
     simp only [Option.some.injEq,Val.blk.injEq] at h1
     simp only [Option.some.injEq,Val.blk.injEq,true_and]
     rw [← h1.2,qH (qjx hF hl)]))
theorem frz_shd {id:Nat} {cs:List PV} {p:PV} (h:p.shd=true):frz id cs p=p:=by
 cases p <;> first|rfl|cases h
theorem frzL_shd {id:Nat} {cs:List PV}:∀ {ds:List PV},jW ds→VZ id cs ds=ds
 | [],_=>rfl
 | p :: l,h=>by
  rw [VZ,frz_shd (h p (by simp)),frzL_shd (fun q hq=>h q (by simp [hq]))]
def frzF (id:Nat) (cs:List PV) (F:List (Nat × List PV)):L→L
 | []=>[]
 | (k,x) :: l=>(k,match x with
  | some (.pv p)=>some (.pv (frz id cs p))
  | some (.blk T ds)=>match Nat.beq k (kb id) with | true=>none | false=>match lf k F with | some es=>some (.blk T es) | none=>some (.blk T (VZ id cs ds))
  | none=>none) :: frzF id cs F l
theorem frzF_eq {id:Nat} {cs:List PV} {F:List (Nat × List PV)} (hF:∀ q∈F.map (fun x=>jW x.2),q):∀ {l:L},l.map (fixF F)=l.map (fun x=>x.2)→frzS id cs l=frzF id cs F l
 | [],_=>rfl
 | (k,x) :: l,h=>by
  simp only [List.map_cons,List.cons.injEq] at h
  simp only [frzS,frzF,List.cons.injEq,Prod.mk.injEq,true_and]
  refine ⟨?_,frzF_eq hF h.2⟩
  cases x with
  | none=>rfl
  | some v =>
   cases v with
   | pv p=>rfl
   | blk T ds =>
    have h1:=h.1
    simp only [fixF] at h1 ⊢
    cases hl:lf k F with
    | none=>rfl
    | some es =>
     rw [hl] at h1
     simp only [Option.some.injEq,Val.blk.injEq,true_and] at h1
     have hs:=qjx hF hl
     subst h1
     cases Nat.beq k (kb id) <;> simp [frzL_shd hs]
theorem Wk.frz2 {P:Program} {n:Nat} {c0:Cx} {Bor:BorD} {n0:Nat} {l l':L} (id:Nat) {T:TypeId} {cs:List PV} (F:List (Nat × List PV)) (hF:∀ q∈F.map (fun x=>jW x.2),q) (hx:l.map (fixF F)=l.map (fun x=>x.2)) (hg:get l (kb id)=some (.blk T cs)) (hs:jW cs) (he:frzF id cs F l=l'):Wk P n c0 Bor n0 l n0 l' :=
 Wk.frz id hg hs ((frzF_eq hF hx).trans he)
theorem Wk.slot {P:Program} {n:Nat} {c0:Cx} {Bor:BorD} {n0:Nat} {l:L} (s:Nat) (p q:PV) (hs:get l (Pm.ks s)=some (.pv p)) (hpq:∀ c v,Rep P c p v→Rep P c q v):Wk P n c0 Bor n0 l n0 ([(ks s,some (.pv q))]++l):=fun cx a hI=>by
 have hge:∀ k,get ([(Pm.ks s,some (.pv q))]++l) k=if Nat.beq k (Pm.ks s) then some (.pv q) else get l k:=fun k=>by
  rw [jL]
  simp only [over,lk]
  by_cases h1:Nat.beq k (Pm.ks s)=true
  ·simp [h1]
  ·simp only [h1];rfl
 have hb:∀ i,get ([(Pm.ks s,some (.pv q))]++l) (kb i)=get l (kb i):=fun i=>by
  rw [hge,qko];rfl
 have hl:∀ i,vC (get ([(Pm.ks s,some (.pv q))]++l)) i→vC (get l) i:=fun i ⟨T',cs,hx⟩=>⟨T',cs,by rw [← hb];exact hx⟩
 refine ⟨cx,rfl,{ ids:=hI.ids,blk:=fun i T' cs hx=>hI.blk i T' cs (by rw [← hb];exact hx),inj:=fun i j b T T' l1 l2=>hI.inj i j b T T' (hl i l1) (hl j l2),apart:=fun i b T l1=>hI.apart i b T (hl i l1),bnd:=hI.bnd,sok:=hI.sok,os:=hI.os,tape:=hI.tape,output:=hI.output,size:=hI.size,same:=hI.same,laid:=hI.laid,s0:=hI.s0,s1:=hI.s1,keep:=hI.keep,tmps:=hI.tmps,dfr:=hI.dfr,slot:=fun s' p' hp=>?_,isv:=fun s' x hx=>?_ }⟩
 ·rw [hge,Vv] at hp
  by_cases e:s'=s
  ·subst e
   rw [decide_eq_true rfl,if_pos rfl] at hp
   cases hp
   exact hpq _ _ (hI.slot s' _ hs)
  ·rw [decide_eq_false e,if_neg (by simp)] at hp
   exact hI.slot s' p' hp
 ·rw [hge,Vv] at hx
  by_cases e:s'=s
  ·subst e
   rw [decide_eq_true rfl,if_pos rfl] at hx
   cases hx
   exact ⟨_,rfl⟩
  ·rw [decide_eq_false e,if_neg (by simp)] at hx
   exact hI.isv s' x hx
def qbs (σl:List Nat) (l:L):List Nat:=l.filterMap fun x=>match x.2 with|some (.blk _ _)=>some (σl.getD (x.1 / 2) 0)|_=>none
theorem qhn {l:L} {k:Nat} {T:TypeId} {cs:List PV} (h:get l k=some (.blk T cs)):∃ i,∃ h:i<l.length,(l[i]).1=k∧∃ T cs,(l[i]).2=some (.blk T cs):=by
 induction l with
 | nil=>simp [get,lk] at h
 | cons x l ih =>
  simp only [get,lk] at h ih
  by_cases e:Nat.beq k x.1=true
  ·rw [if_pos e] at h
   exact ⟨0,by simp,(Nat.eq_of_beq_eq_true e).symm,T,cs,by simpa using h⟩
  ·rw [if_neg e] at h
   obtain ⟨i,hi,h1,h2⟩:=ih h
   exact ⟨i+1,by simp;omega,h1,h2⟩
theorem qho {σl:List Nat}:∀ {l:L},vS (qbs σl l)=true→∀ i j (hi:i<l.length) (hj:j<l.length),(∃ T cs,(l[i]).2=some (.blk T cs))→(∃ T cs,(l[j]).2=some (.blk T cs))→σl.getD ((l[i]).1 / 2) 0=σl.getD ((l[j]).1 / 2) 0→i=j
 | [],_,i,_,hi,_,_,_,_=>absurd hi (Nat.not_lt_zero _)
 | x :: l,h,i,j,hi,hj,⟨T1,c1,h1⟩,⟨T2,c2,h2⟩,he=>by
  have mem:∀ q (hq:q<l.length),(∃ T cs,(l[q]).2=some (.blk T cs))→σl.getD ((l[q]).1 / 2) 0∈qbs σl l:=fun q hq ⟨T,cs,hh⟩ =>
   List.mem_filterMap.2 ⟨l[q],List.getElem_mem hq,by rw [hh]⟩
  cases i with
  | zero =>
   cases j with
   | zero=>rfl
   | succ j =>
    exfalso
    simp only [List.getElem_cons_zero,List.getElem_cons_succ] at h1 h2 he
    have hm:=mem j (by simpa using hj) ⟨T2,c2,h2⟩
    simp only [qbs,List.filterMap_cons,h1] at h
    rw [← he] at hm
    simp only [vS,Bool.and_eq_true] at h
    have:=List.all_eq_true.1 h.1 _ hm
    rw [Nat.beq_refl] at this
    cases this
  | succ i =>
   have hl:vS (qbs σl l)=true:=by
    simp only [qbs,List.filterMap_cons] at h
    split at h
    ·exact h
    ·simp only [vS,Bool.and_eq_true] at h
     exact h.2
   cases j with
   | zero =>
    exfalso
    simp only [List.getElem_cons_zero,List.getElem_cons_succ] at h1 h2 he
    have hm:=mem i (by simpa using hi) ⟨T1,c1,h1⟩
    simp only [qbs,List.filterMap_cons,h2] at h
    rw [he] at hm
    simp only [vS,Bool.and_eq_true] at h
    have:=List.all_eq_true.1 h.1 _ hm
    rw [Nat.beq_refl] at this
    cases this
   | succ j =>
    have:=qho hl i j (by simpa using hi) (by simpa using hj) ⟨T1,c1,h1⟩ ⟨T2,c2,h2⟩ he
    omega
section
variable {P:Program} {n:Nat} {c0:Cx} {Bor:BorD} {n0:Nat} {l:L}
theorem Wk.renD {l':L} (m:Nat) (hc0:∀ i x,c0.own i=some x→i<m) (σl:List Nat) (hσ:σl.take m=List.range m) (hnd:vS (qbs σl l')=true) (h:∀ p∈reSt (sgm n0 σl) σl.length l' (get l),p):Wk P n c0 Bor n0 l σl.length l':=fun cx a hI=>by
 have hsp:=qcm h
 have hs1:∀ i,i<σl.length→sgm n0 σl i=σl.getD i 0:=fun i hi=>by
  unfold sgm
  rw [show Nat.blt i σl.length=true from by simpa [Nat.blt_eq] using hi]
 have hs2:∀ i,σl.length≤i→cx.own (sgm n0 σl i)=none:=fun i hi=>by
  unfold sgm
  rw [show Nat.blt i σl.length=false from by rw [Bool.eq_false_iff,Ne,Nat.blt_eq];omega]
  cases ho:cx.own (n0+i) with
  | none=>rfl
  | some x=>have:n0+i<n0:=hI.ids _ x ho;omega
 have hlv:∀ i,vC (get l') i→i<σl.length∧vC (get l) (sgm n0 σl i):=fun i ⟨T,cs,hx⟩=>by
  have h1:=hsp _ _ hx
  simp only at h1
  rw [show kb i / 2=i by simp only [kb];omega] at h1
  exact ⟨h1.2.1,T,_,h1.2.2⟩
 refine ⟨cx.via (sgm n0 σl),rfl,{ ids:=fun i x hx=>?_,blk:=fun i T cs hx=>?_,inj:=fun i j b T T' l1 l2 h3 h4=>?_,apart:=fun i b T l1 h2=>hI.apart _ b T (hlv i l1).2 h2,bnd:=fun i b T h1=>hI.bnd _ b T h1,sok:=hI.sok,os:=hI.os,tape:=hI.tape,output:=hI.output,size:=hI.size,same:=hI.same,laid:=hI.laid,s0:=hI.s0,s1:=hI.s1,keep:=⟨hI.keep.S,fun i x hx=>?_,hI.keep.shape⟩,tmps:=hI.tmps,dfr:=hI.dfr,slot:=fun s p hp=>?_,isv:=fun s x hx=>?_ }⟩
 ·show i<σl.length
  rcases Nat.lt_or_ge i σl.length with h1|h1
  ·exact h1
  ·have:cx.own (sgm n0 σl i)=some x:=hx
   rw [hs2 i h1] at this
   cases this
 ·have h1:=hsp _ _ hx
  simp only at h1
  rw [show kb i / 2=i by simp only [kb];omega] at h1
  obtain ⟨ob,h5,h6,h7⟩:=hI.blk _ _ _ h1.2.2
  refine ⟨ob,h5,ones_renL.1 h6,?_⟩
  rcases h7 with ⟨h7,h8⟩|⟨b,arr,h7,h8,h9,h10⟩
  ·exact .inl ⟨h7,renL_nil h8⟩
  ·rw [zA] at h9 h10
   exact .inr ⟨b,arr,h7,h8,h9,fun j hj=>WH (h10 j hj) _ (yk _ _ j hj)⟩
 ·obtain ⟨e1,l1'⟩:=hlv i l1
  obtain ⟨e2,l2'⟩:=hlv j l2
  have h5:=hI.inj _ _ b T T' l1' l2' h3 h4
  rw [hs1 i e1,hs1 j e2] at h5
  obtain ⟨_,_,hx1⟩:=l1
  obtain ⟨_,_,hx2⟩:=l2
  obtain ⟨p,hp,h6,h7⟩:=qhn hx1
  obtain ⟨q,hq,h8,h9⟩:=qhn hx2
  have h10:=qho hnd p q hp hq h7 h9 (by rw [h6,h8,show kb i / 2=i by simp only [kb];omega,show kb j / 2=j by simp only [kb];omega];exact h5)
  subst h10
  rw [h6] at h8
  simp only [kb] at h8
  omega
 ·have h1:=hc0 i x hx
  have h2:i<σl.length:=by
   have:=congrArg List.length hσ
   simp at this
   omega
  have h3:σl.getD i 0=i:=by
   have h4:=List.getElem?_take_of_lt (l:=σl) h1
   rw [hσ] at h4
   rw [List.getD_eq_getElem?_getD,← h4]
   simp [h1]
  show cx.own (sgm n0 σl i)=some x
  rw [hs1 i h2,h3]
  exact hI.keep.own i x hx
 ·have h1:=hsp _ _ hp
  exact WH (hI.slot s _ h1) _ rfl
 ·cases x with
  | pv p=>exact ⟨p,rfl⟩
  | blk T cs =>
   have h1:=hsp _ _ hx
   simp only [Pm.ks] at h1
   omega
theorem Wk.ren2D (l':L) (m:Nat) (hc0:∀ i x,c0.own i=some x→i<m) (σl:List Nat) (hσ:σl.take m=List.range m) (hnd:vS (qbs σl l')=true) (hb:VK σl.length l'=true)
  (h:l'.map (fun x=>get l (rkey (sgm n0 σl) x.1))=l'.map (fun x=>rval (sgm n0 σl) x.2)):Wk P n c0 Bor n0 l σl.length l':=Wk.renD m hc0 σl hσ hnd (qji h hb)
theorem Wk.ren3D (l':L) (m:Nat) (hc0:∀ i x,c0.own i=some x→i<m) (σl:List Nat) (F:List (Nat × List PV)) (hF:∀ q∈F.map (fun x=>jW x.2),q) (hx:l'.map (fixF F)=l'.map (fun x=>x.2)) (hσ:σl.take m=List.range m) (hnd:vS (qbs σl l')=true) (hb:VK σl.length l'=true)
  (h:l'.map (fun x=>get l (rkey (sgm n0 σl) x.1))=l'.map (rvalF (sgm n0 σl) F)):Wk P n c0 Bor n0 l σl.length l' :=
 Wk.ren2D l' m hc0 σl hσ hnd hb (h.trans (List.map_congr_left fun x hxl=>by
  have h1:=List.map_inj_left.1 hx x hxl
  obtain ⟨k,v⟩:=x
  cases v with
  | none=>rfl
  | some v =>
   cases v with
   | pv p=>rfl
   | blk T cs =>
    simp only [fixF,rvalF,rval] at h1 ⊢
    cases hl:lf k F with
    | none=>rfl
    | some ds =>
     rw [hl] at h1
     simp only [Option.some.injEq,Val.blk.injEq] at h1
     simp only [Option.some.injEq,Val.blk.injEq,true_and]
     rw [← h1.2,qH (qjx hF hl)]))
theorem Wk.nilc (id j:Nat) (T:TypeId) {B:TypeId} {cells:List PV} (hs:get l (kb id)=some (.blk B cells)) (hj:cells[j]? = some (.av (.slice none 0 0))):Wk P n c0 Bor n0 l (n0+1) ([(kb id,some (.blk B (cells.set j (.osl n0 0 0)))),(kb n0,some (.blk T []))]++l):=fun cx a hI=>by
 obtain ⟨hk,hh⟩:=YO hI.toHeap (id:=n0) (fun h=>absurd h (Nat.lt_irrefl _)) T
 obtain ⟨ob0,ho0,_⟩:=hI.blk id B cells hs
 have hid:id<n0:=hI.ids id _ ho0
 have hg:over [(kb n0,some (.blk T []))] (get l) (kb id)=some (.blk B cells):=by rw [QN,if_neg (by omega)];exact hs
 refine ⟨⟨cx.w,cx.S,yN cx.own n0 (none,T)⟩,rfl,?_⟩
 have hge:∀ k,get ([(kb id,some (.blk B (cells.set j (.osl n0 0 0)))),(kb n0,some (.blk T []))]++l) k=if Nat.beq k (kb id) then some (.blk B (cells.set j (.osl n0 0 0))) else over [(kb n0,some (.blk T []))] (get l) k:=fun k=>by
  rw [jL]
  simp only [over,lk]
  by_cases h1:Nat.beq k (kb id)=true
  ·simp [h1]
  ·simp only [h1];rfl
 have hb:∀ i,get ([(kb id,some (.blk B (cells.set j (.osl n0 0 0)))),(kb n0,some (.blk T []))]++l) (kb i)=if i=id then some (.blk B (cells.set j (.osl n0 0 0))) else over [(kb n0,some (.blk T []))] (get l) (kb i):=fun i=>by
  rw [hge,YT];by_cases e:i=id <;> simp [e]
 have hsl:∀ s,get ([(kb id,some (.blk B (cells.set j (.osl n0 0 0)))),(kb n0,some (.blk T []))]++l) (Pm.ks s)=get l (Pm.ks s):=fun s=>by
  rw [hge,jU,if_neg (by simp),qcr]
 have hl:∀ i,vC (get ([(kb id,some (.blk B (cells.set j (.osl n0 0 0)))),(kb n0,some (.blk T []))]++l)) i→vC (over [(kb n0,some (.blk T []))] (get l)) i:=fun i ⟨T',cs,hx⟩=>by
  rw [hb] at hx
  by_cases e:i=id
  ·subst e;exact ⟨B,cells,hg⟩
  ·rw [if_neg e] at hx;exact ⟨T',cs,hx⟩
 exact { ids:=fun i x hx=>by
           rcases hh.ids i x hx with h|h
           · exact Nat.lt_succ_of_lt h
           · subst h;exact Nat.lt_succ_self _
         blk:=fun i T' cs hx=>by
           rw [hb] at hx
           by_cases e:i=id
           · subst e
             rw [if_pos rfl] at hx
             cases hx
             obtain ⟨ob,h1,h2,h3⟩:=hh.blk i B cells hg
             refine ⟨ob,h1,fun p hp=>?_,?_⟩
             · rcases List.mem_or_eq_of_mem_set hp with h|h
               · exact h2 p h
               · rw [h];rfl
             · rcases h3 with ⟨_,h4⟩|⟨b,arr,h4,h5,h6,h7⟩
               · rw [h4] at hj;simp at hj
               · refine .inr ⟨b,arr,h4,h5,by rw [List.length_set];exact h6,fun q hq=>?_⟩
                 rw [List.length_set] at hq
                 by_cases e:q=j
                 · subst e
                   have h8:=h7 q hq
                   have e2:cells.getD q P0 = .av (.slice none 0 0):=by rw [List.getD_eq_getElem?_getD,hj];rfl
                   rw [e2] at h8
                   rw [show (cells.set q (.osl n0 0 0)).getD q P0 = .osl n0 0 0 from by rw [List.getD_eq_getElem?_getD,List.getElem?_set_self hq];rfl,zH h8]
                   exact .osl yB (.inl ⟨_,rfl,rfl⟩)
                 · rw [show (cells.set j (.osl n0 0 0)).getD q P0=cells.getD q P0 from by rw [List.getD_eq_getElem?_getD,List.getD_eq_getElem?_getD,List.getElem?_set_ne (Ne.symm e)]]
                   exact h7 q hq
           · rw [if_neg e] at hx
             exact hh.blk i T' cs hx
         inj:=fun i j b T T' l1 l2=>hh.inj i j b T T' (hl i l1) (hl j l2),apart:=fun i b T l1=>hh.apart i b T (hl i l1),bnd:=hh.bnd,sok:=hh.sok,
         os:=hh.os,tape:=hh.tape,output:=hh.output,size:=hh.size,same:=hh.same,laid:=hh.laid,s0:=hh.s0,s1:=hh.s1,keep:=hh.keep,tmps:=hI.tmps,dfr:=hI.dfr
         slot:=fun s' p hp=>by
           rw [hsl] at hp
           exact (hI.slot s' p hp).mono hk
         isv:=fun s' x hx=>by
           rw [hsl] at hx
           exact hI.isv s' x hx }
end
def apartK (ws:Nat→List Nat) (rd:Nat→List Nat) (bf:List (List Nat)) (n:Nat):Bool :=
 (List.range n).all fun j=>(List.range j).all fun i=>(bf.getD j []).contains i ||
  (((ws i).all fun k=>!(ws j).contains k && !(rd j).contains k) && (ws j).all fun k=>!(rd i).contains k)
theorem hits_mem {l:L} {k:Nat}:ZG l k=true→k∈l.map (·.1):=fun h=>by
 obtain ⟨x,hx,rfl⟩:=VT h
 exact List.mem_map.2 ⟨x,hx,rfl⟩
theorem apart_of {W:Nat→L} {rd:Nat→List Nat} {ws rs:Nat→List Nat} {bf:List (List Nat)} {n:Nat} (hw:∀ i,i<n→∀ x∈W i,x.1∈ws i) (hr:∀ i,i<n→∀ k∈rd i,k∈rs i) (h:apartK ws rs bf n=true):qba W rd bf n=true:=by
 simp only [apartK,qba,List.all_eq_true,List.mem_range,Bool.or_eq_true,Bool.and_eq_true,Bool.not_eq_true'] at h ⊢
 intro j hj i hi
 rcases h j hj i hi with h1|⟨h1,h2⟩
 ·exact .inl h1
 ·refine .inr ⟨fun x hx=>?_,fun x hx=>?_⟩
  ·obtain ⟨h3,h4⟩:=h1 x.1 (hw i (by omega) x hx)
   refine ⟨?_,?_⟩
   ·cases hh:ZG (W j) x.1 with
    | false=>rfl
    | true =>
     obtain ⟨y,hy,e⟩:=List.mem_map.1 (hits_mem hh)
     have:=hw j hj y hy
     rw [e] at this
     rw [List.contains_iff_mem.2 this] at h3
     cases h3
   ·cases hh:(rd j).contains x.1 with
    | false=>rfl
    | true =>
     have:=hr j hj x.1 (List.contains_iff_mem.1 hh)
     rw [List.contains_iff_mem.2 this] at h4
     cases h4
  ·have h3:=h2 x.1 (hw j hj x hx)
   cases hh:(rd i).contains x.1 with
   | false=>rfl
   | true =>
    have:=hr i (by omega) x.1 (List.contains_iff_mem.1 hh)
    rw [List.contains_iff_mem.2 this] at h3
    cases h3
def subK (l m:List Nat):Bool:=l.all fun k=>m.contains k
def keysB:List Oper→List Out→List (List Nat × List Nat)→Bool
 | [],[],[]=>true
 | o :: os,x :: xs,k :: ks=>match subK ((wr o.dst x).map (·.1)) k.1,subK x.reads k.2 with
  | true,true=>keysB os xs ks
  | _,_=>false
 | _,_,_=>false
theorem qat:∀ {os:List Oper} {xs:List Out} {ks:List (List Nat × List Nat)},keysB os xs ks=true→∀ i o x,os[i]? = some o→xs[i]? = some x →
  (∀ y∈wr o.dst x,y.1∈(ks.getD i ([],[])).1)∧∀ k∈x.reads,k∈(ks.getD i ([],[])).2
 | o :: os,x :: xs,k :: ks,h,0,o',x',ho,hx=>by
  simp only [keysB] at h
  split at h
  ·rename_i h1 h2
   simp only [List.getElem?_cons_zero,Option.some.injEq] at ho hx
   subst ho;subst hx
   refine ⟨fun y hy=>?_,fun q hq=>?_⟩
   ·exact List.contains_iff_mem.1 (List.all_eq_true.1 h1 y.1 (List.mem_map.2 ⟨y,hy,rfl⟩))
   ·exact List.contains_iff_mem.1 (List.all_eq_true.1 h2 q hq)
  ·cases h
 | o :: os,x :: xs,k :: ks,h,i+1,o',x',ho,hx=>by
  simp only [keysB] at h
  split at h
  ·exact qat h i o' x' (by simpa using ho) (by simpa using hx)
  ·cases h
 | [],_,_,_,i,_,_,ho,_=>by simp at ho
 | _ :: _,[],_,_,i,_,_,_,hx=>by simp at hx
def evrK (P:Program) (n:Nat) (ops:List Oper) (n0:Nat) (ans:List (Nat × Ans)) (ks:List (List Nat × List Nat)) (live:List Nat) (l:L):Option (L × List Prop) :=
 match evs P n ops n0 ans ops 0 l with
 | some (l',obs,outs)=>match keysB ops outs ks with
  | true=>some (live.map fun k=>(k,get l' k),obs)
  | false=>none
 | none=>none
def drawB (ops:List Oper) (bf:List (List Nat)) (ks:List (List Nat × List Nat)):Bool:=befB ops bf && apartK (fun i=>(ks.getD i ([],[])).1) (fun i=>(ks.getD i ([],[])).2) bf ops.length
theorem evs_len {P:Program} {n:Nat} {ops:List Oper} {n0:Nat} {ans:List (Nat × Ans)}:∀ {r:List Oper} {i:Nat} {l l':L} {obs:List Prop} {outs:List Out},evs P n ops n0 ans r i l=some (l',obs,outs)→outs.length=r.length
 | [],i,l,l',obs,outs,h=>by
  simp only [evs,Option.some.injEq,Prod.mk.injEq] at h
  obtain ⟨_,_,rfl⟩:=h
  rfl
 | o :: r,i,l,l',obs,outs,h=>by
  simp only [evs] at h
  split at h
  case h_2=>cases h
  split at h
  case h_2=>cases h
  rename_i l1 obs1 outs1 he
  simp only [Option.some.injEq,Prod.mk.injEq] at h
  obtain ⟨_,_,rfl⟩:=h
  simp [evs_len he]
theorem regionK_ok {E:Env} {n0:Nat} {l l':L} {id:Nat} {ops:Array Oper} {ans:List (Nat × Ans)} {bf:List (List Nat)} {ks:List (List Nat × List Nat)} {live:List Nat} {obs:List Prop} (hm:E.P.follows .mixedOrders=true) (h:evrK E.P E.n ops.toList n0 ans ks live l=some (l',obs)) (hd:drawB ops.toList bf ks=true) (hob:∀ p∈obs,p)
  {Q:Exit→Act→World→Prop} (hQ:∀ c a,Inv E (· < n0+8*ops.size) c (get l') a→Q .normal a c.w) {c:Cx} {a:Act} (hI:Inv E (· < n0) c (get l) a):(Code.region id ops true).wp E.P Q a c.w:=by
 unfold evrK at h
 split at h
 case h_2=>cases h
 rename_i l1 obs1 outs he
 split at h
 case h_2=>cases h
 rename_i hk
 simp only [Option.some.injEq,Prod.mk.injEq] at h
 obtain ⟨rfl,rfl⟩:=h
 simp only [drawB,Bool.and_eq_true] at hd
 have hl:=evs_len he
 have hap:qba (Wt ops.toList.toArray fun i=>outs.getD i jQ) (fun i=>(outs.getD i jQ).reads) bf ops.toList.length=true:=by
  refine apart_of (fun i hi x hx=>?_) (fun i hi k hk'=>?_) hd.2
  ·have h1:ops.toList[i]? = some ops.toList[i]:=by simp only [List.getElem?_eq_getElem hi]
   have h2:outs[i]? = some (outs.getD i jQ):=by rw [List.getD_eq_getElem?_getD,List.getElem?_eq_getElem (by omega)];rfl
   refine (qat hk i _ _ h1 h2).1 x ?_
   have:Wt ops.toList.toArray (fun i=>outs.getD i jQ) i=wr ops.toList[i].dst (outs.getD i jQ):=by
    unfold Wt
    rw [List.getElem?_toArray,h1]
    rfl
   rw [this] at hx
   exact hx
  ·have h1:ops.toList[i]? = some ops.toList[i]:=by simp only [List.getElem?_eq_getElem hi]
   have h2:outs[i]? = some (outs.getD i jQ):=by rw [List.getD_eq_getElem?_getD,List.getElem?_eq_getElem (by omega)];rfl
   exact (qat hk i _ _ h1 h2).2 k hk'
 obtain ⟨h1,h2,h3⟩:=qga (g0:=get l) (tab:=fun i=>outs.getD i jQ) he (by simp) (fun j _=>by simp) (by
  funext k
  have:∀ m,wJ (get l) (Wt ops.toList.toArray fun i=>outs.getD i jQ) (fun j=>decide (j<0)) m=get l:=fun m=>by
   induction m with
   | zero=>rfl
   | succ m ih=>simp only [wJ,Nat.not_lt_zero,decide_false,Bool.false_eq_true,if_false];exact ih
  rw [this])
 have hops:ops.toList.toArray=ops:=by simp
 have hlen:ops.toList.length=ops.size:=by simp
 have hstep:∀ i o,ops.toList[i]? = some o→∀ g,(∀ k∈(outs.getD i jQ).reads,g k=wJ (get l) (Wt ops.toList.toArray fun i=>outs.getD i jQ) (fun j=>decide (j<i)) ops.toList.length k)→qgn E ops.toList.toArray i o (outs.getD i jQ) (n0+8*i) g:=by
  intro i o ho g hg
  obtain ⟨h4,h5,h6⟩:=h3 i o (Nat.zero_le _) ho
  exact gplan_ok ho h6 (WG h4 hg) fun p hp=>hob p (h5 p hp)
 have hfin:∀ {c:Cx} {a:Act},Inv E (fun id=>id<n0+8*ops.toList.length) c (wJ (get l) (Wt ops.toList.toArray fun i=>outs.getD i jQ) (fun _=>true) ops.toList.length) a→Q .normal a c.w:=by
  intro c a h
  rw [← h2,hlen] at h
  exact hQ c a (h.less fun k v hk=>get_live k v hk)
 have hs:=any_ops (E:=E) (l:=ops.toList) (g0:=get l) (tab:=fun i=>outs.getD i jQ) (n0:=n0) hd.1 hap hstep (Q:=Q) (fun c a h=>hfin h)
   ops.toList.length (Array.replicate ops.toList.length false) ⟨{ c.w with drawn:=c.w.drawn+1 },c.S,c.own⟩ a (by simp) (by
    rw [YL (g:=fun _=>false) fun i _=>jz _ _]
    exact qar _) (fun j o _ hj=>by
    have hj':(Array.replicate ops.toList.length false).getD j false=true:=hj
    rw [jz] at hj'
    cases hj') (by
    have h0:wJ (get l) (Wt ops.toList.toArray fun i=>outs.getD i jQ) (fun j=>(Array.replicate ops.toList.length false).getD j false) ops.toList.length=get l:=by
     have e:(fun j=>(Array.replicate ops.toList.length false).getD j false)=fun _=>false:=funext fun j=>jz _ j
     rw [e]
     have:∀ m,wJ (get l) (Wt ops.toList.toArray fun i=>outs.getD i jQ) (fun _=>false) m=get l:=fun m=>by
      induction m with
      | zero=>rfl
      | succ m ih=>simp only [wJ,Bool.false_eq_true,if_false];exact ih
     exact this _
    rw [h0]
    exact (hI.drawn _).more fun i hi=>.inl hi)
 rw [hops] at hs
 refine wp_region_any hm ?_
 rw [hlen] at hs
 exact hs
theorem T_regionD {P:Program} {n:Nat} {c0:Cx} {Bor:BorD} {Q:Post} {n0:Nat} {l:L} {rs:List Item} {id:Nat} {ops:Array Oper} (ans:List (Nat × Ans)) (bf:List (List Nat)) (ks:List (List Nat × List Nat)) (live:List Nat) {l':L} {obs:List Prop} (hm:P.follows .mixedOrders=true) (h:evrK P n ops.toList n0 ans ks live l=some (l',obs)) (hd:drawB ops.toList bf ks=true) (hob:∀ p∈obs,p)
  (hT:T P n c0 Bor Q (n0+8*ops.size) l' rs):T P n c0 Bor Q n0 l (.code (.region id ops true) :: rs):=fun _ _ hI =>
 regionK_ok (E:=⟨P,n,c0,Bor⟩) hm h hd hob (fun c a h=>⟨c,rfl,hT c a h⟩) hI
abbrev nv (n:Nat):PV:=iv (n:Int)
abbrev fv (n:FuncId):PV:=.av (.func (.func n) #[] #[])
section
variable {P:Program} {n:Nat} {c0:Cx} {Bor:BorD} {Q:Post} {n0:Nat} {l:L} {rs:List Item}
theorem qk (hm:P.follows .mixedOrders=true) {id:Nat} {ops:Array Oper} {draw:Bool} (ans:List (Nat × Ans)) (l':L) {obs:List Prop} (hob:∀ p∈obs,p) (hT:T P n c0 Bor Q (n0+8*ops.size) l' rs)
  (h:evr P n ops.toList n0 ans draw (l'.map (·.1)) l=some (l',obs):=by kernel_rfl):T P n c0 Bor Q n0 l (.code (.region id ops draw) :: rs) :=
 T_region ans _ (fun _=>hm) h hob hT
theorem wR (hm:P.follows .mixedOrders=true) {id:Nat} {ops:Array Oper} (ans:List (Nat × Ans)) (bf:List (List Nat)) (ks:List (List Nat × List Nat)) (l':L) {obs:List Prop} (hob:∀ p∈obs,p) (hT:T P n c0 Bor Q (n0+8*ops.size) l' rs)
  (h:evrK P n ops.toList n0 ans ks (l'.map (·.1)) l=some (l',obs):=by kernel_rfl) (hd:drawB ops.toList bf ks=true:=by kernel_rfl):T P n c0 Bor Q n0 l (.code (.region id ops true) :: rs) :=
 T_regionD ans bf ks _ hm h hd hob hT
theorem qR {t:Nat} {x y:Code} {b:Bool} (hv:b=true) (h:T P n c0 Bor Q n0 l (.code x :: rs)) (hb:get l (ks t)=some (.pv (.av (.bool b))):=by rfl):T P n c0 Bor Q n0 l (.code (.cond (.tmp t) x y) :: rs):=yK hb hv h
theorem qU {t:Nat} {x y:Code} {b:Bool} (hv:b=false) (h:T P n c0 Bor Q n0 l (.code y :: rs)) (hb:get l (ks t)=some (.pv (.av (.bool b))):=by rfl):T P n c0 Bor Q n0 l (.code (.cond (.tmp t) x y) :: rs):=zk hb hv h
theorem rt {m:Nat} {fn:Func} {r:PV} {H':Hp} (hc0:∀ i x,c0.own i=some x→i<m) (l':L) (σl:List Nat) {cx:Cx} {a:Act} (hI:Inv ⟨P,n,c0,Bor⟩ (· < n0) cx (get l) a)
  (hσ:σl.take m=List.range m:=by rfl) (hnd:vS σl=true:=by rfl) (hb:VK σl.length l'=true:=by kernel_rfl)
  (h:l'.map (fun x=>get l (rkey (sgm n0 σl) x.1))=l'.map (fun x=>rval (sgm n0 σl) x.2):=by kernel_rfl) (hn:σl.length=H'.length:=by rfl)
  (hr:runv (get l') (resP P fn.results.toList fun ps=>.done (resPV ps) [])=some (r,[]):=by kernel_rfl) (hbk:∀ p∈qdo l' 0 H',p:=by exact oz):retQ P fn c0 Bor r H' .ret cx a :=
 zV (.inr rfl) (Wk.ren2 l' m hc0 σl hσ hnd hb h) hn hbk (fun cx a hI=>zL hr cx a hI) hI
abbrev Ren0 (k:Nat) (a:List PV):Prop:=a=qN (qZ [] k) a
end
theorem bt {p:Prop} [Decidable p] (h:p):(!decide p)=false:=by rw [decide_eq_true h];rfl
theorem bf {p:Prop} [Decidable p] (h:¬ p):(!decide p)=true:=by rw [decide_eq_false h];rfl
section
variable {P:Program} {n:Nat} {c0:Cx} {Bor:BorD} {Q:Post} {n0:Nat} {l:L} {rs:List Item}
theorem zP {p:Prop} [Decidable p] (h:p):decide p=true:=decide_eq_true h
theorem zN {p:Prop} [Decidable p] (h:¬ p):decide p=false:=decide_eq_false h
/-! ### a state told by what changes -/
inductive Mk where
 | k1 | k2 | k3 | k4 | k5 | k6 | k7 | k8 | d | n | r
structure Kl (l:L):Type where
structure Kc (m:List Mk) (ch:L):Type where
instance kpe:HXor (Kl []) (Kc [] []) (Kl []):=⟨fun _ _=>⟨⟩⟩
instance kpr (l:L):HXor (Kl l) (Kc [.r] []) (Kl l):=⟨fun _ _=>⟨⟩⟩
instance kpn (l:L) (m:List Mk) (ch l':L) (c:Nat × Option Val) [HXor (Kl l) (Kc m ch) (Kl l')]:HXor (Kl l) (Kc (.n :: m) (c :: ch)) (Kl (c :: l')):=⟨fun _ _=>⟨⟩⟩
instance kpd (l:L) (m:List Mk) (ch l':L) (a:Nat × Option Val) [HXor (Kl l) (Kc m ch) (Kl l')]:HXor (Kl (a :: l)) (Kc (.d :: m) ch) (Kl l'):=⟨fun _ _=>⟨⟩⟩
instance kp1 (l:L) (m:List Mk) (ch l':L) (a0:Nat × Option Val) [HXor (Kl l) (Kc m ch) (Kl l')]:HXor (Kl (a0 :: l)) (Kc (.k1 :: m) ch) (Kl (a0 :: l')):=⟨fun _ _=>⟨⟩⟩
instance kp2 (l:L) (m:List Mk) (ch l':L) (a0 a1:Nat × Option Val) [HXor (Kl l) (Kc m ch) (Kl l')]:HXor (Kl (a0 :: a1 :: l)) (Kc (.k2 :: m) ch) (Kl (a0 :: a1 :: l')):=⟨fun _ _=>⟨⟩⟩
instance kp3 (l:L) (m:List Mk) (ch l':L) (a0 a1 a2:Nat × Option Val) [HXor (Kl l) (Kc m ch) (Kl l')]:HXor (Kl (a0 :: a1 :: a2 :: l)) (Kc (.k3 :: m) ch) (Kl (a0 :: a1 :: a2 :: l')):=⟨fun _ _=>⟨⟩⟩
instance kp4 (l:L) (m:List Mk) (ch l':L) (a0 a1 a2 a3:Nat × Option Val) [HXor (Kl l) (Kc m ch) (Kl l')]:HXor (Kl (a0 :: a1 :: a2 :: a3 :: l)) (Kc (.k4 :: m) ch) (Kl (a0 :: a1 :: a2 :: a3 :: l')):=⟨fun _ _=>⟨⟩⟩
instance kp5 (l:L) (m:List Mk) (ch l':L) (a0 a1 a2 a3 a4:Nat × Option Val) [HXor (Kl l) (Kc m ch) (Kl l')]:HXor (Kl (a0 :: a1 :: a2 :: a3 :: a4 :: l)) (Kc (.k5 :: m) ch) (Kl (a0 :: a1 :: a2 :: a3 :: a4 :: l')):=⟨fun _ _=>⟨⟩⟩
instance kp6 (l:L) (m:List Mk) (ch l':L) (a0 a1 a2 a3 a4 a5:Nat × Option Val) [HXor (Kl l) (Kc m ch) (Kl l')]:HXor (Kl (a0 :: a1 :: a2 :: a3 :: a4 :: a5 :: l)) (Kc (.k6 :: m) ch) (Kl (a0 :: a1 :: a2 :: a3 :: a4 :: a5 :: l')):=⟨fun _ _=>⟨⟩⟩
instance kp7 (l:L) (m:List Mk) (ch l':L) (a0 a1 a2 a3 a4 a5 a6:Nat × Option Val) [HXor (Kl l) (Kc m ch) (Kl l')]:HXor (Kl (a0 :: a1 :: a2 :: a3 :: a4 :: a5 :: a6 :: l)) (Kc (.k7 :: m) ch) (Kl (a0 :: a1 :: a2 :: a3 :: a4 :: a5 :: a6 :: l')):=⟨fun _ _=>⟨⟩⟩
instance kp8 (l:L) (m:List Mk) (ch l':L) (a0 a1 a2 a3 a4 a5 a6 a7:Nat × Option Val) [HXor (Kl l) (Kc m ch) (Kl l')]:HXor (Kl (a0 :: a1 :: a2 :: a3 :: a4 :: a5 :: a6 :: a7 :: l)) (Kc (.k8 :: m) ch) (Kl (a0 :: a1 :: a2 :: a3 :: a4 :: a5 :: a6 :: a7 :: l')):=⟨fun _ _=>⟨⟩⟩
theorem zY (hm:P.follows .mixedOrders=true) {id:Nat} {ops:Array Oper} {draw:Bool} (ans:List (Nat × Ans)) (m:List Mk) (ch:L) {l':L} [HXor (Kl l) (Kc m ch) (Kl l')] {obs:List Prop} (hob:∀ p∈obs,p) (hT:T P n c0 Bor Q (n0+8*ops.size) l' rs)
  (h:evr P n ops.toList n0 ans draw (l'.map (·.1)) l=some (l',obs):=by kernel_rfl):T P n c0 Bor Q n0 l (.code (.region id ops draw) :: rs) :=
 qk hm ans l' hob hT h
theorem QK (hm:P.follows .mixedOrders=true) {id:Nat} {ops:Array Oper} (ans:List (Nat × Ans)) (bf:List (List Nat)) (ks:List (List Nat × List Nat)) (m:List Mk) (ch:L) {l':L} [HXor (Kl l) (Kc m ch) (Kl l')] {obs:List Prop} (hob:∀ p∈obs,p) (hT:T P n c0 Bor Q (n0+8*ops.size) l' rs)
  (h:evrK P n ops.toList n0 ans ks (l'.map (·.1)) l=some (l',obs):=by kernel_rfl) (hd:drawB ops.toList bf ks=true:=by kernel_rfl):T P n c0 Bor Q n0 l (.code (.region id ops true) :: rs) :=
 wR hm ans bf ks l' hob hT h hd
/-! ### what several branches come to -/
theorem lk_mem {α:Type} {k:Nat}:∀ {l:List (Nat × α)} {v:α},lk k l=some v→(k,v)∈l
 | [],_,h=>by simp [lk] at h
 | (j,u) :: l,v,h=>by
  simp only [lk] at h
  split at h
  ·rename_i e
   obtain rfl:=Option.some.inj h
   obtain rfl:=Nat.eq_of_beq_eq_true e
   simp
  ·exact List.mem_cons_of_mem _ (lk_mem h)
theorem qbv {l':L} (hl:l'.map (fun x=>get l x.1)=l'.map (·.2)) {k:Nat} {v:Val} (h:get l' k=some v):get l k=some v:=by
 unfold get at h
 obtain ⟨o,h1,h2⟩:=Option.join_eq_some_iff.1 h |> fun h=>(⟨some v,h,rfl⟩:∃ o,lk k l'=some o∧o=some v)
 have:=List.map_inj_left.1 hl _ (lk_mem h1)
 rw [← h2];exact this
theorem vE {n':Nat} {l':L} (h:T P n c0 Bor Q n' l' rs) (hn:Nat.ble n0 n'=true:=by kernel_rfl) (hl:l'.map (fun x=>get l x.1)=l'.map (·.2):=by kernel_rfl):T P n c0 Bor Q n0 l rs:=fun cx a hI =>
 have lv:∀ {id},vC (get l') id→vC (get l) id:=fun ⟨T,cs,h⟩=>⟨T,cs,qbv hl h⟩
 h cx a { hI with
   ids:=fun id x hx=>Nat.lt_of_lt_of_le (hI.ids id x hx) (Nat.le_of_ble_eq_true hn)
   blk:=fun id T cs h=>hI.blk id T cs (qbv hl h)
   inj:=fun id id' b T T' h1 h2=>hI.inj id id' b T T' (lv h1) (lv h2)
   apart:=fun id b T h1=>hI.apart id b T (lv h1)
   slot:=fun s p h=>hI.slot s p (qbv hl h)
   isv:=fun s x h=>hI.isv s x (qbv hl h) }
theorem T_f1 (n':Nat) (l':L) {x0:Item} (h:T P n c0 Bor Q n' l' rs) (f:T P n c0 Bor Q n' l' rs→T P n c0 Bor Q n0 l (x0 :: rs)):T P n c0 Bor Q n0 l (x0 :: rs):=f h
theorem T_f2 (n':Nat) (l':L) {x0 x1:Item} (h:T P n c0 Bor Q n' l' rs) (f:T P n c0 Bor Q n' l' rs→T P n c0 Bor Q n0 l (x0 :: x1 :: rs)):T P n c0 Bor Q n0 l (x0 :: x1 :: rs):=f h
theorem T_f3 (n':Nat) (l':L) {x0 x1 x2:Item} (h:T P n c0 Bor Q n' l' rs) (f:T P n c0 Bor Q n' l' rs→T P n c0 Bor Q n0 l (x0 :: x1 :: x2 :: rs)):T P n c0 Bor Q n0 l (x0 :: x1 :: x2 :: rs):=f h
end
theorem ik {n:Int} (h : -9223372036854775808≤n∧n≤9223372036854775807):InK .i64 n:=by simp only [InK];omega
def bfr (l:List (Nat × Nat)):List (List Nat):=l.map fun x=>List.range' x.1 x.2
abbrev TX:=List UInt8
theorem tt:true=true:=rfl
theorem ff:false=false:=rfl
theorem oi (n:Int) {l:List Prop} (h : -9223372036854775808≤n∧n≤9223372036854775807) (k:∀ q∈l,q):∀ q∈InK .i64 n :: l,q:=oc (ik h) k
def bfm (l:List (List (Nat × Nat))):List (List Nat):=l.map fun x=>x.flatMap fun y=>List.range' y.1 y.2
def gy (a n:Nat):List (Nat × Ans):=(List.range' a n).map fun i=>(i,.gd true .no)
def gn (a n:Nat):List (Nat × Ans):=(List.range' a n).map fun i=>(i,.gd false .no)
theorem on {p:Prop} {l:List Prop} (n:Nat) (h:p) (k:∀ q∈l,q):∀ q∈List.replicate n p++l,q:=fun q hq=>by
 rcases List.mem_append.1 hq with hq|hq
 ·rw [(List.mem_replicate.1 hq).2];exact h
 ·exact k q hq
abbrev sn:PV:=.av (.slice none 0 0)
abbrev rsA (i:List Nat) (n:Nat) (A:List PV):Prop:=qN (qZ i n) A=qN (qZ i n) A
theorem yD {P:Program} {f:FuncId} {A:List PV} {r:PV} {H':Hp} {l:List Prop} (n:Nat) (h:PC P f A [] r H') (k:∀ q∈l,q):∀ q∈PC P f A [] r H' :: rsA [] n A :: l,q:=oc h (oc rfl k)
theorem oc1 {P:Program} {f:FuncId} {A cs:List PV} {T:TypeId} {r:PV} {H':Hp} {l:List Prop} (i:List Nat) (n:Nat) (h:PC P f A [some (T,cs)] r H') (k:∀ q∈l,q):∀ q∈PC P f A [some (T,cs)] r H' :: rsA i n A :: rsA i n cs :: l,q:=oc h (oc rfl (oc rfl k))
def invS (σ:List Nat) (i:Nat):Nat:=σ.idxOf i
def cutS (σ ss:List Nat) (l:L):L:=ss.map (fun r=>(ks r,rval (invS σ) (get l (ks r))))++(List.range σ.length).map fun j=>(kb j,rval (invS σ) (get l (kb (σ.getD j 0))))
section
variable {P:Program} {n:Nat} {c0:Cx} {Bor:BorD} {Q:Post} {n0:Nat} {l:L} {rs:List Item}
theorem qL (hm:P.follows .mixedOrders=true) {id:Nat} {ops:Array Oper} {draw:Bool} (m:List Mk) (ch:L) {l':L} [HXor (Kl l) (Kc m ch) (Kl l')] (hT:T P n c0 Bor Q (n0+8*ops.size) l' rs)
  (h:evr P n ops.toList n0 [] draw (l'.map (·.1)) l=some (l',[]):=by kernel_rfl):T P n c0 Bor Q n0 l (.code (.region id ops draw) :: rs):=qk hm [] l' oz hT h
theorem yA {m:Nat} {fn:Func} {r:PV} {H':Hp} (hc0:∀ i x,c0.own i=some x→i<m) (ss σl:List Nat)
  (hσ:σl.take m=List.range m:=by rfl) (hnd:vS σl=true:=by rfl) (hb:VK σl.length (cutS σl ss l)=true:=by kernel_rfl)
  (h:(cutS σl ss l).map (fun x=>get l (rkey (sgm n0 σl) x.1))=(cutS σl ss l).map (fun x=>rval (sgm n0 σl) x.2):=by kernel_rfl) (hn:σl.length=H'.length:=by rfl)
  (hr:runv (get (cutS σl ss l)) (resP P fn.results.toList fun ps=>.done (resPV ps) [])=some (r,[]):=by kernel_rfl) (hbk:∀ p∈qdo (cutS σl ss l) 0 H',p:=by exact oz):T P n c0 Bor (retQ P fn c0 Bor r H') n0 l (.code .ret :: rs) :=
 zj fun _ _ hI=>rt hc0 (cutS σl ss l) σl hI hσ hnd hb h hn hr hbk
theorem vK (hm:P.follows .mixedOrders=true) {id:Nat} {ops:Array Oper} {draw:Bool} (pos:Nat) (m:List Mk) (ch:L) {l':L} [HXor (Kl l) (Kc m ch) (Kl l')] {f:FuncId} {A:List PV} {r:PV} {H':Hp} {k:Nat} {obs:List Prop} (hob:∀ p∈PC P f A [] r H' :: rsA [] k A :: obs,p) (hT:T P n c0 Bor Q (n0+8*ops.size) l' rs)
  (h:evr P n ops.toList n0 [(pos,.call [] A [] r H')] draw (l'.map (·.1)) l=some (l',PC P f A [] r H' :: rsA [] k A :: obs):=by kernel_rfl):T P n c0 Bor Q n0 l (.code (.region id ops draw) :: rs):=qk hm _ l' hob hT h
theorem T_k1 (hm:P.follows .mixedOrders=true) {id:Nat} {ops:Array Oper} {draw:Bool} (pos:Nat) (m:List Mk) (ch:L) {l':L} [HXor (Kl l) (Kc m ch) (Kl l')] {f:FuncId} {A cs:List PV} {T':TypeId} {r:PV} {H':Hp} {i:List Nat} {k:Nat} {obs:List Prop} (hob:∀ p∈PC P f A [some (T',cs)] r H' :: rsA i k A :: rsA i k cs :: obs,p) (hT:T P n c0 Bor Q (n0+8*ops.size) l' rs)
  (h:evr P n ops.toList n0 [(pos,.call i A [some (T',cs)] r H')] draw (l'.map (·.1)) l=some (l',PC P f A [some (T',cs)] r H' :: rsA i k A :: rsA i k cs :: obs):=by kernel_rfl):T P n c0 Bor Q n0 l (.code (.region id ops draw) :: rs):=qk hm _ l' hob hT h
theorem ZF (hm:P.follows .mixedOrders=true) {id:Nat} {ops:Array Oper} {draw:Bool} (pos:Nat) (l':L) {f:FuncId} {A:List PV} {r:PV} {H':Hp} {k:Nat} {obs:List Prop} (hob:∀ p∈PC P f A [] r H' :: rsA [] k A :: obs,p) (hT:T P n c0 Bor Q (n0+8*ops.size) l' rs)
  (h:evr P n ops.toList n0 [(pos,.call [] A [] r H')] draw (l'.map (·.1)) l=some (l',PC P f A [] r H' :: rsA [] k A :: obs):=by kernel_rfl):T P n c0 Bor Q n0 l (.code (.region id ops draw) :: rs):=qk hm _ l' hob hT h
theorem T_r1 (hm:P.follows .mixedOrders=true) {id:Nat} {ops:Array Oper} {draw:Bool} (pos:Nat) (l':L) {f:FuncId} {A cs:List PV} {T':TypeId} {r:PV} {H':Hp} {i:List Nat} {k:Nat} {obs:List Prop} (hob:∀ p∈PC P f A [some (T',cs)] r H' :: rsA i k A :: rsA i k cs :: obs,p) (hT:T P n c0 Bor Q (n0+8*ops.size) l' rs)
  (h:evr P n ops.toList n0 [(pos,.call i A [some (T',cs)] r H')] draw (l'.map (·.1)) l=some (l',PC P f A [some (T',cs)] r H' :: rsA i k A :: rsA i k cs :: obs):=by kernel_rfl):T P n c0 Bor Q n0 l (.code (.region id ops draw) :: rs):=qk hm _ l' hob hT h
end
abbrev st (l:List UInt8):ByteArray:=⟨l.toArray⟩
theorem qK (a b:List UInt8):st a++st b=st (a++b):=by
 apply ByteArray.ext
 rw [ByteArray.data_append]
 simp
theorem qcj (l:List UInt8):(st l).toList=l:=by
 rw [ByteArray.toList_eq]
theorem QV (a b:List UInt8):((st a).toList == (st b).toList)=decide (a=b):=by
 rw [qcj,qcj]
 rw [Bool.eq_iff_iff];simp
theorem jB (a b:List UInt8):(!((st a).toList == (st b).toList)) = !decide (a=b):=by rw [QV]
theorem st_cut (l:List UInt8) (i j:Nat):(st l).extract i j=st ((l.drop i).take (j-i)):=by
 apply ByteArray.ext
 rw [ByteArray.data_extract]
 apply Array.ext'
 simp
theorem st_from (l:List UInt8) (i:Nat) (j:Nat) (hj:j=l.length):(st l).extract i j=st (l.drop i):=by
 rw [st_cut,List.take_of_length_le (by simp;omega)]
abbrev r3 (s:List UInt8) (x:Nat) (k:Int):List PV:=[sv (st s),nv x,iv k]
abbrev r3n (s:List UInt8) (x k:Nat):List PV:=[sv (st s),nv x,nv k]
abbrev r5 (s:List UInt8) (x:Nat) (e f k:Int):List PV:=[sv (st s),nv x,iv e,iv f,iv k]
abbrev r5n (s:List UInt8) (x:Nat) (e f:Int) (k:Nat):List PV:=[sv (st s),nv x,iv e,iv f,nv k]
abbrev r5b (s:List UInt8) (x:Nat) (e:Int) (f:Nat) (k:Int):List PV:=[sv (st s),nv x,iv e,nv f,iv k]
abbrev r5m (s:List UInt8) (x:Nat) (e:Int) (f k:Nat):List PV:=[sv (st s),nv x,iv e,nv f,nv k]
abbrev se:PV:=sv (st [])
end Go.Proofs.YtmlnilkbolcknaaGreatDoor.Pm
namespace Go.Proofs.YtmlnilkbolcknaaGreatDoor.Pi
def nat7 (l:Int):Int:=if l=0 then 0 else if l=1 then 2 else if l=2 then 4 else if l=3 then 5 else if l=4 then 7 else if l=5 then 9 else 11
theorem nat7_range (l:Int):0≤nat7 l∧nat7 l≤11:=by unfold nat7;omega
def rightB (l a o:Int):Bool:=decide (0≤l∧l≤6 ∧ -3≤a∧a≤3 ∧ -12≤o∧o≤12)
theorem rightB_iff {l a o:Int}:rightB l a o=true↔0≤l∧l≤6 ∧ -3≤a∧a≤3 ∧ -12≤o∧o≤12:=by simp [rightB]
def withinB (s h:Int):Bool:=decide (-200≤s∧s≤200 ∧ -4096≤h∧h≤4096)
theorem withinB_iff {s h:Int}:withinB s h=true ↔ -200≤s∧s≤200 ∧ -4096≤h∧h≤4096:=by simp [withinB]
def steps (l o:Int):Int:=7*o+l
def halves (l a o:Int):Int:=12*o+nat7 l+a
def key (l a o:Int):Int × Int:=if rightB l a o then (halves l a o+12,0) else (0,2)
def at_ (s h:Int):Int × Int × Int × Int :=
 if rightB (s % 7) (h-(12*(s / 7)+nat7 (s % 7))) (s / 7) then (s % 7,h-(12*(s / 7)+nat7 (s % 7)),s / 7,0) else (0,0,0,3)
def move (l a o s h:Int):Int × Int × Int × Int :=
 if rightB l a o then (if withinB s h then at_ (steps l o+s) (halves l a o+h) else (0,0,0,3)) else (0,0,0,2)
def sum (s h s' h':Int):Int × Int × Int :=
 if withinB s h && withinB s' h' && withinB (s+s') (h+h') then (s+s',h+h',0) else (0,0,3)
theorem at_range (s h:Int):rightB (at_ s h).1 (at_ s h).2.1 (at_ s h).2.2.1=true∧(0≤(at_ s h).2.2.2∧(at_ s h).2.2.2≤3):=by
 unfold at_
 split
 ·rename_i h;exact ⟨h,by simp⟩
 ·simp [rightB]

theorem qds {l a o s h:Int} (h1:rightB l a o=true) (h2:withinB s h=true):move l a o s h=at_ (steps l o+s) (halves l a o+h):=by
 unfold move;rw [if_pos h1,if_pos h2]
theorem move_right (l a o s h:Int):rightB (move l a o s h).1 (move l a o s h).2.1 (move l a o s h).2.2.1=true:=by
 unfold move
 split
 ·split
  ·exact (at_range _ _).1
  ·rfl
 ·rfl
theorem bounds {l a o:Int} (h:rightB l a o=true):(-84≤steps l o∧steps l o≤90)∧(-147≤halves l a o∧halves l a o≤158):=by
 have:=rightB_iff.1 h
 have:=nat7_range l
 unfold steps halves
 omega
theorem one {l a o l' a' o':Int} (h1:rightB l a o=true) (h2:rightB l' a' o'=true) (hs:steps l o=steps l' o') (hh:halves l a o=halves l' a' o'):l=l'∧a=a'∧o=o':=by
 have:=rightB_iff.1 h1
 have:=rightB_iff.1 h2
 unfold steps at hs
 unfold halves at hh
 have e1:o=o':=by omega
 have e2:l=l':=by omega
 subst e1 e2
 omega

/-! TWICE MIRRORED -/
/-! INTERVALS MOVE PITCHES -/
def white (t:Int):Int:=12*(t / 7)+nat7 (t % 7)
def up (l:Int):Int:=if l=2∨l=6 then 1 else 2
theorem up_range (l:Int):1≤up l∧up l≤2:=by unfold up;split <;> omega
theorem qef (t:Int):white (t+1)=white t+up (t % 7):=by
 have h:t % 7=0∨t % 7=1∨t % 7=2∨t % 7=3∨t % 7=4∨t % 7=5∨t % 7=6:=by omega
 unfold white
 rcases h with h|h|h|h|h|h|h
 ·rw [show (t+1) % 7=1 by omega,show (t+1) / 7=t / 7 by omega,h];(have e0:nat7 0=0:=rfl);(have e1:nat7 1=2:=rfl);(have e2:nat7 2=4:=rfl);(have e3:nat7 3=5:=rfl);(have e4:nat7 4=7:=rfl);(have e5:nat7 5=9:=rfl);(have e6:nat7 6=11:=rfl);(have u:up 0=2∧up 1=2∧up 2=1∧up 3=2∧up 4=2∧up 5=2∧up 6=1:=by decide);omega
 ·rw [show (t+1) % 7=2 by omega,show (t+1) / 7=t / 7 by omega,h];(have e0:nat7 0=0:=rfl);(have e1:nat7 1=2:=rfl);(have e2:nat7 2=4:=rfl);(have e3:nat7 3=5:=rfl);(have e4:nat7 4=7:=rfl);(have e5:nat7 5=9:=rfl);(have e6:nat7 6=11:=rfl);(have u:up 0=2∧up 1=2∧up 2=1∧up 3=2∧up 4=2∧up 5=2∧up 6=1:=by decide);omega
 ·rw [show (t+1) % 7=3 by omega,show (t+1) / 7=t / 7 by omega,h];(have e0:nat7 0=0:=rfl);(have e1:nat7 1=2:=rfl);(have e2:nat7 2=4:=rfl);(have e3:nat7 3=5:=rfl);(have e4:nat7 4=7:=rfl);(have e5:nat7 5=9:=rfl);(have e6:nat7 6=11:=rfl);(have u:up 0=2∧up 1=2∧up 2=1∧up 3=2∧up 4=2∧up 5=2∧up 6=1:=by decide);omega
 ·rw [show (t+1) % 7=4 by omega,show (t+1) / 7=t / 7 by omega,h];(have e0:nat7 0=0:=rfl);(have e1:nat7 1=2:=rfl);(have e2:nat7 2=4:=rfl);(have e3:nat7 3=5:=rfl);(have e4:nat7 4=7:=rfl);(have e5:nat7 5=9:=rfl);(have e6:nat7 6=11:=rfl);(have u:up 0=2∧up 1=2∧up 2=1∧up 3=2∧up 4=2∧up 5=2∧up 6=1:=by decide);omega
 ·rw [show (t+1) % 7=5 by omega,show (t+1) / 7=t / 7 by omega,h];(have e0:nat7 0=0:=rfl);(have e1:nat7 1=2:=rfl);(have e2:nat7 2=4:=rfl);(have e3:nat7 3=5:=rfl);(have e4:nat7 4=7:=rfl);(have e5:nat7 5=9:=rfl);(have e6:nat7 6=11:=rfl);(have u:up 0=2∧up 1=2∧up 2=1∧up 3=2∧up 4=2∧up 5=2∧up 6=1:=by decide);omega
 ·rw [show (t+1) % 7=6 by omega,show (t+1) / 7=t / 7 by omega,h];(have e0:nat7 0=0:=rfl);(have e1:nat7 1=2:=rfl);(have e2:nat7 2=4:=rfl);(have e3:nat7 3=5:=rfl);(have e4:nat7 4=7:=rfl);(have e5:nat7 5=9:=rfl);(have e6:nat7 6=11:=rfl);(have u:up 0=2∧up 1=2∧up 2=1∧up 3=2∧up 4=2∧up 5=2∧up 6=1:=by decide);omega
 ·rw [show (t+1) % 7=0 by omega,show (t+1) / 7=t / 7+1 by omega,h];(have e0:nat7 0=0:=rfl);(have e1:nat7 1=2:=rfl);(have e2:nat7 2=4:=rfl);(have e3:nat7 3=5:=rfl);(have e4:nat7 4=7:=rfl);(have e5:nat7 5=9:=rfl);(have e6:nat7 6=11:=rfl);(have u:up 0=2∧up 1=2∧up 2=1∧up 3=2∧up 4=2∧up 5=2∧up 6=1:=by decide);omega
theorem white_pred (t:Int):white (t-1)=white t-up ((t-1) % 7):=by
 have h:=qef (t-1)
 rw [show t-1+1=t by omega] at h
 omega
theorem white_bd (t:Int) (h : -1000≤t∧t≤1000) : -2000≤white t∧white t≤2000:=by
 have:=nat7_range (t % 7)
 unfold white
 omega
theorem white_steps {l o:Int} (h1:0≤l) (h2:l≤6):white (steps l o)=12*o+nat7 l:=by
 unfold white steps
 rw [show (7*o+l) / 7=o by omega,show (7*o+l) % 7=l by omega]
theorem qim {l a o:Int} (h:rightB l a o=true):white (steps l o)+a=halves l a o:=by
 have:=rightB_iff.1 h
 rw [white_steps this.1 this.2.1];unfold halves;omega
theorem at_white (s h:Int):at_ s h=if rightB (s % 7) (h-white s) (s / 7) then (s % 7,h-white s,s / 7,0) else (0,0,0,3):=rfl
end Go.Proofs.YtmlnilkbolcknaaGreatDoor.Pi
namespace Go.Proofs.YtmlnilkbolcknaaGreatDoor.Pm
open Go Go.Proofs.YtmlnilkbolcknaaGreatDoor.Pi
def letB:List UInt8:=[67,68,69,70,71,65,66]
def VJ (a:Int):List UInt8 :=
 if a=1 then [226,153,175] else if a=2 then [240,157,132,170] else if a=3 then [240,157,132,170,226,153,175]
 else if a = -1 then [226,153,173] else if a = -2 then [240,157,132,171] else if a = -3 then [240,157,132,171,226,153,173] else []
def vv (l a o:Int):List UInt8 × Int:=if rightB l a o=true then ((letB.drop l.toNat).take 1++VJ a++Lib.itoa o,0) else ([],2)
def qeo (r:Int):Int × Bool :=
 if r=9839∨r=35 then (1,true) else if r=119082∨r=120 then (2,true) else if r=9837∨r=98 then (-1,true) else if r=119083 then (-2,true) else (0,false)
def digs:List UInt8:=[48,49,50,51,52,53,54,55,56,57]
def body (s:List UInt8):List UInt8:=if Lib.hasPrefix s [45]=true then s.drop 1 else s
def noNum (m:Bool) (t:List UInt8):Prop:=t=[]∨4<t.length∨((t.getD 0 0).toNat=48∧(1<t.length∨m=true))∨Lib.trimS t digs≠[]
instance (m:Bool) (t:List UInt8):Decidable (noNum m t):=by unfold noNum;infer_instance
def QQ (l:List UInt8):Nat:=(Lib.decodeGo (st l)).1
def vL (l:List UInt8):Nat:=(Lib.decodeGo (st l)).2
def signsR (l:List UInt8) (a:Int) (n:Nat):Bool × Int × Nat :=
 if _h:(qeo (QQ l)).2=true∧1≤vL l∧1≤l.length then
  if (a+(qeo (QQ l)).1)*(qeo (QQ l)).1<0∨3<max (a+(qeo (QQ l)).1) (0-(a+(qeo (QQ l)).1)) then (false,a+(qeo (QQ l)).1,n)
  else signsR (l.drop (vL l)) (a+(qeo (QQ l)).1) (n+vL l)
 else (true,a,n)
termination_by l.length
decreasing_by rw [List.length_drop];omega
def qay (s:List UInt8):Bool × Int × Nat:=if Lib.hasPrefix (s.drop 1) [226,153,174]=true then (true,0,4) else signsR (s.drop 1) 0 1
/-! ### decoding -/
theorem Zk {l:List UInt8} (h:l≠[]):1≤vL l:=by
 have hs:(st l).size≠0:=by
  intro e
  exact h (List.length_eq_zero_iff.1 e)
 unfold vL Lib.decodeGo
 rw [if_neg hs]
 unfold Utf8.decode
 dsimp only
 repeat' split
 all_goals first|decide|(show 1≤_;omega)
theorem qki (l:List UInt8):vL l≤l.length:=by
 by_cases h:l=[]
 ·subst h;exact Nat.le_refl 0
 have hs:(st l).size≠0:=by
  intro e
  exact h (List.length_eq_zero_iff.1 e)
 have hl:(st l).size=l.length:=rfl
 unfold vL Lib.decodeGo
 rw [if_neg hs]
 unfold Utf8.decode
 dsimp only
 repeat' split
 all_goals simp only [Bool.and_eq_true,decide_eq_true_eq] at *
 all_goals omega
theorem qac {p:UInt8→Bool}:∀ {l:List UInt8},l.dropWhile p=[]→∀ b∈l,p b=true
 | [],_,b,hb=>by simp at hb
 | a :: l,h,b,hb=>by
  by_cases ha:p a=true
  ·rw [List.dropWhile_cons_of_pos ha] at h
   rcases List.mem_cons.1 hb with rfl|hb
   ·exact ha
   ·exact qac h b hb
  ·rw [List.dropWhile_cons_of_neg ha] at h
   cases h
theorem Ww {p:UInt8→Bool}:∀ {l:List UInt8},∀ b∈l.takeWhile p,p b=true
 | [],b,hb=>by simp at hb
 | a :: l,b,hb=>by
  by_cases ha:p a=true
  ·rw [List.takeWhile_cons_of_pos ha] at hb
   rcases List.mem_cons.1 hb with rfl|hb
   ·exact ha
   ·exact Ww b hb
  ·rw [List.takeWhile_cons_of_neg ha] at hb
   cases hb
theorem vM {l a o:Int} {S:List UInt8} (h:rightB l a o=true) (hs:VJ a=S):vv l a o=((letB.drop l.toNat).take 1++S++Lib.itoa o,0):=by unfold vv;rw [if_pos h,hs]
theorem qhi {l a o:Int} (h:¬ rightB l a o=true):vv l a o=([],2):=if_neg h
theorem jK {l:Int} (h:0≤l):(st letB).extract (l:Int).toNat (l+1:Int).toNat=st ((letB.drop l.toNat).take 1):=by
 rw [st_cut,show (l+1:Int).toNat-(l:Int).toNat=1 from by omega]
theorem qaq (l:Int):((letB.drop l.toNat).take 1).length≤1:=by rw [List.length_take];omega
theorem jE {o:Int} (h0 : -1000≤o) (h1:o≤1000):(Lib.itoa o).length≤21:=Lib.itoa_length_le o (by omega) (by omega)
section
end
def qW (s:Int):Bool:=decide (s % 7=0∨s % 7=3∨s % 7=4)
def vq (s h:Int):Int:=h-12*(s / 7)-nat7 (s % 7)
def wI (p:Bool) (m:Int):List UInt8 :=
 if 0<m then Lib.repeatL [65] (min m 7).toNat else if m=0 then (if p=true then [80] else [77]) else if p=true then Lib.repeatL [100] (min (0-m) 7).toNat
 else if m = -1 then [109] else Lib.repeatL [100] (min (0-m-1) 7).toNat
def YZ (mn:List UInt8) (s h:Int):List UInt8 × Int :=
 if 6<(wI (qW s) (vq s h)).length then ([],3) else (mn++wI (qW s) (vq s h)++Lib.itoa (s+1),0)
def qX (s h:Int):List UInt8 × Int :=
 if withinB s h=true then (if s<0∨(s=0∧h<0) then YZ [45] (0-s) (0-h) else YZ [] s h) else ([],3)
def checked (s:List UInt8) (j:Int × Int):(Int × Int) × Int:=if (qX j.1 j.2).2=0∧(qX j.1 j.2).1=s then (j,0) else ((0,0),2)
theorem vG (c:UInt8):∀ n,(Lib.repeatL [c] n).length=n
 | 0=>rfl
 | n+1=>by
  have:=vG c n
  show ([c]++Lib.repeatL [c] n).length=n+1
  rw [List.length_append,this];simp;omega
theorem qual_len (p:Bool) (m:Int):(wI p m).length≤7:=by
 unfold wI
 repeat' split
 all_goals first|(rw [vG];omega)|(show 1≤7;decide)
theorem vU {mn:List UInt8} {s h:Int} {q:List UInt8} (hq:wI (qW s) (vq s h)=q) (hl:(6:Int)<(q.length:Int)):YZ mn s h=([],3):=by
 unfold YZ;rw [hq,if_pos (by omega)]
theorem yU {mn:List UInt8} {s h:Int} {q:List UInt8} (hq:wI (qW s) (vq s h)=q) (hl:¬ (6:Int)<(q.length:Int)):YZ mn s h=(mn++q++Lib.itoa (s+1),0):=by
 unfold YZ;rw [hq,if_neg (by omega)]
theorem qfo {s h:Int} (hw:¬ withinB s h=true):qX s h=([],3):=if_neg hw
theorem yY {s h:Int} {r:List UInt8 × Int} (hw:withinB s h=true) (hn:s<0∨(s=0∧h<0)) (hr:YZ [45] (0-s) (0-h)=r):qX s h=r:=by unfold qX;rw [if_pos hw,if_pos hn,hr]
theorem yP {s h:Int} {r:List UInt8 × Int} (hw:withinB s h=true) (hn:¬ (s<0∨(s=0∧h<0))) (hr:YZ [] s h=r):qX s h=r:=by unfold qX;rw [if_pos hw,if_neg hn,hr]
section
variable {p:Bool} {m:Int}
theorem QA (h:0<m):wI p m=Lib.repeatL [65] (min m 7).toNat:=if_pos h
theorem VQ (h:m=0) (hp:p=true):wI p m=[80]:=by subst h;unfold wI;rw [if_neg (by decide),if_pos rfl,if_pos hp]
theorem qez (h:m=0) (hp:¬ p=true):wI p m=[77]:=by subst h;unfold wI;rw [if_neg (by decide),if_pos rfl,if_neg hp]
theorem ZQ (h0:¬ 0<m) (h:¬ m=0) (hp:p=true):wI p m=Lib.repeatL [100] (min (0-m) 7).toNat:=by unfold wI;rw [if_neg h0,if_neg h,if_pos hp]
theorem qey (h:m = -1) (hp:¬ p=true):wI p m=[109]:=by subst h;unfold wI;rw [if_neg (by decide),if_neg (by decide),if_neg hp,if_pos rfl]
theorem QB (h0:¬ 0<m) (h:¬ m=0) (hp:¬ p=true) (h1:¬ m = -1):wI p m=Lib.repeatL [100] (min (0-m-1) 7).toNat:=by unfold wI;rw [if_neg h0,if_neg h,if_neg hp,if_neg h1]
end
section
end
section
end
/-! ### decoding -/
theorem st_get (l:List UInt8) (k:Nat):(st l).get! k=l.getD k 0:=by
 show (l.toArray)[k]! = l.getD k 0
 rw [Array.getElem!_eq_getD,List.getD_eq_getElem?_getD,Array.getD_eq_getD_getElem?]
 simp
 rfl
/-! ### numbers -/
/-! ### intervals -/
/-! ### digits -/
theorem itoa_min {n:Int} (h:n<0):([45]:TX)++Lib.itoa (0-n)=Lib.itoa n:=by
 obtain ⟨u,rfl⟩:∃ u:Nat,n = -(u:Int):=⟨(-n).toNat,by omega⟩
 rw [Lib.itoa_neg u (by omega),show 0 - -(u:Int)=(u:Int) from by omega,Lib.itoa_nonneg]
 rfl
theorem itoa_dig {n:Int} (h0:0≤n) (h:n<10):Lib.itoa n=[UInt8.ofNat (48+n).toNat]:=by
 obtain ⟨u,rfl⟩:∃ u:Nat,n=(u:Int):=⟨n.toNat,by omega⟩
 rw [Lib.itoa_nonneg,Lib.decDigits_one (by omega)]
 rfl
theorem itoa_app {n:Int} (h:¬ n<10):Lib.itoa (n.tdiv 10)++Lib.itoa (n.tmod 10)=Lib.itoa n:=by
 obtain ⟨u,rfl⟩:∃ u:Nat,n=(u:Int):=⟨n.toNat,by omega⟩
 have e1:(u:Int).tdiv 10=((u / 10:Nat):Int):=rfl
 have e2:(u:Int).tmod 10=((u % 10:Nat):Int):=rfl
 rw [e1,e2,Lib.itoa_nonneg,Lib.itoa_nonneg,Lib.itoa_nonneg]
 rw [Lib.decDigits.eq_def u,dif_neg (by omega),Lib.decDigits_one (show u % 10<10 from Nat.mod_lt _ (by decide))]
theorem quo_bd {n:Int} (h:¬ n<10):0≤n.tdiv 10∧n.tdiv 10<n∧0≤n.tmod 10∧n.tmod 10<10:=by
 obtain ⟨u,rfl⟩:∃ u:Nat,n=(u:Int):=⟨n.toNat,by omega⟩
 have e1:(u:Int).tdiv 10=((u / 10:Nat):Int):=rfl
 have e2:(u:Int).tmod 10=((u % 10:Nat):Int):=rfl
 omega
theorem bytes_one {x:Int} (h0:0≤x) (h1:x<256):([.av (.int .u8 x)]:List PV)=ZN (st [UInt8.ofNat x.toNat]):=by
 obtain ⟨u,rfl⟩:∃ u:Nat,x=(u:Int):=⟨x.toNat,by omega⟩
 show _=[PV.av (.int .u8 ((UInt8.ofNat u).toNat:Int))]
 rw [UInt8.toNat_ofNat_of_lt' (by show u<256;omega)]
theorem rep_snoc (c:UInt8):∀ k,Lib.repeatL [c] k++[c]=Lib.repeatL [c] (k+1)
 | 0=>rfl
 | k+1=>by
  show [c]++Lib.repeatL [c] k++[c]=[c]++Lib.repeatL [c] (k+1)
  rw [List.append_assoc,rep_snoc c k]

/-! ### beginnings -/
/-! ### numbers,digit by digit -/
theorem get_mem {s:List UInt8} {k:Nat} (h:k<s.length):s.getD k 0∈s:=by
 rw [List.getD_eq_getElem?_getD,List.getElem?_eq_getElem h];exact List.getElem_mem h
section
end
/-! ### names of intervals -/
theorem qfp (s h:Int):h-white s=vq s h:=by unfold white vq;omega
theorem qbm {s:Int} (h:s % 7=0∨s % 7=3∨s % 7=4):qW s=true:=decide_eq_true h
theorem perf_no {s:Int} (h:¬ (s % 7=0∨s % 7=3∨s % 7=4)):¬ qW s=true:=by rw [show qW s=false from decide_eq_false h];decide
section
variable {p:Bool} {m:Int}
theorem q_up (h:0<m) (h1:m≤6):wI p m=Lib.repeatL [65] m.toNat:=by rw [QA h,show min m 7=m from by omega]
theorem q_dn (h:m<0) (h1 : -6≤m) (hp:p=true):wI p m=Lib.repeatL [100] (0-m).toNat:=by rw [ZQ (by omega) (by omega) hp,show min (0-m) 7=0-m from by omega]
theorem q_dn2 (h:m < -1) (h1 : -7≤m) (hp:¬ p=true):wI p m=Lib.repeatL [100] (0-m-1).toNat:=by rw [QB (by omega) (by omega) hp (by omega),show min (0-m-1) 7=0-m-1 from by omega]
theorem q_far (h:6<m∨(p=true∧m < -6)∨(¬ p=true∧m < -7)):(6:Int)<((wI p m).length:Int):=by
 rcases h with h|⟨hp,h⟩|⟨hp,h⟩
 ·rw [QA (by omega),vG];omega
 ·rw [ZQ (by omega) (by omega) hp,vG];omega
 ·rw [QB (by omega) (by omega) hp (by omega),vG];omega
end
theorem rep_ne {c:UInt8} {k:Nat} (h:1≤k):¬ Lib.repeatL [c] k=[]:=fun e=>by
 have:=vG c k
 rw [e] at this;simp at this;omega
theorem name_ok0 {s h:Int} {q:List UInt8} (hw:withinB s h=true) (hn:¬ (s<0∨(s=0∧h<0))) (hq:wI (qW s) (vq s h)=q) (hl:q.length≤6):qX s h=(q++Lib.itoa (s+1),0) :=
 yP hw hn (yU hq (by omega))
theorem qee {s h:Int} (hw:withinB s h=true):withinB (0-s) (0-h)=true:=by
 rw [withinB_iff] at hw ⊢;omega
theorem qdf {s h:Int} (hw:withinB s h=true) (hn:s<0∨(s=0∧h<0)) (h1:(qX (0-s) (0-h)).2=0):qX s h=([45]++(qX (0-s) (0-h)).1,0):=by
 have e:=yP (qee hw) (by omega:¬ (0-s<0∨(0-s=0∧0-h<0))) rfl
 rw [e] at h1 ⊢
 rw [yY hw hn rfl]
 unfold YZ at h1 ⊢
 split
 ·rename_i c;rw [if_pos c] at h1;exact absurd h1 (by decide)
 ·rfl
theorem qdg {s h:Int} (hw:withinB s h=true) (hn:s<0∨(s=0∧h<0)) (h1:¬ (qX (0-s) (0-h)).2=0):qX s h=([],(qX (0-s) (0-h)).2):=by
 have e:=yP (qee hw) (by omega:¬ (0-s<0∨(0-s=0∧0-h<0))) rfl
 rw [e] at h1 ⊢
 rw [yY hw hn rfl]
 unfold YZ at h1 ⊢
 split
 ·rfl
 ·rename_i c;rw [if_neg c] at h1;exact absurd rfl h1
theorem qfn (s h:Int):(qX s h).1.length≤100:=by
 by_cases hw:Pi.withinB s h=true
 ·have hb:=Pi.withinB_iff.1 hw
  have key:∀ mn x y,mn.length≤1 → -1≤x→x≤500→(YZ mn x y).1.length≤100:=fun mn x y h1 h2 h3=>by
   unfold YZ
   split
   ·decide
   ·have h4:=qual_len (qW x) (vq x y)
    have h5:=jE (o:=x+1) (by omega) (by omega)
    simp only [List.length_append]
    omega
  by_cases hn:s<0∨(s=0∧h<0)
  ·rw [yY hw hn rfl];exact key _ _ _ (by decide) (by omega) (by omega)
  ·rw [yP hw hn rfl];exact key _ _ _ (by decide) (by omega) (by omega)
 ·rw [qfo hw];decide
abbrev Pt:=Int × Int × Int
abbrev Cl:=Int × Int
def ptC (p:Pt):List PV:=[iv p.1,iv p.2.1,iv p.2.2]
def zG (l:List Pt):List PV:=l.flatMap ptC
def zU:Pt:=(0,0,0)
def rb (p:Pt):Bool:=rightB p.1 p.2.1 p.2.2
def cl (p:Pt):Cl:=(p.1,p.2.1)
/-! ### the notes of a chord -/
/-! ### what chord it is -/
/-! ### classes -/
/-! ### signs -/
section
end
/-! ### letters -/
/-! ### names -/
abbrev qQ:=List UInt8
inductive It where
 | mk (k s:Int) (ps:List Pt) (b:Int × Int) (ly:qQ) (ks:List It)
def iK:It→Int | .mk k _ _ _ _ _=>k
def iS:It→Int | .mk _ s _ _ _ _=>s
def iP:It→List Pt | .mk _ _ ps _ _ _=>ps
def iB:It→Int × Int | .mk _ _ _ b _ _=>b
def iL:It→qQ | .mk _ _ _ _ ly _=>ly
def iC:It→List It | .mk _ _ _ _ _ ks=>ks
abbrev qB:It:=.mk 0 0 [] (0,0) [] []
mutual
def ic:It→List PV
 | .mk _ _ _ _ _ ks=>qO ks
def qO:List It→List PV
 | []=>[]
 | x :: l=>iv (iK x) :: iv (iS x) :: .ssl (zG (iP x)) 0 (iP x).length :: iv (iB x).1 :: iv (iB x).2 :: sv (st (iL x)) :: .ssl (ic x) 0 (iC x).length :: qO l
end
def gI (x:It):List PV:=[iv (iK x),iv (iS x),.ssl (zG (iP x)) 0 (iP x).length,iv (iB x).1,iv (iB x).2,sv (st (iL x)),.ssl (qO (iC x)) 0 (iC x).length]
theorem ic_ics (x:It):ic x=qO (iC x):=by cases x with|mk k s ps b ly ks=>rw [ic];rfl
theorem Zz:∀ l:List It,qO l=l.flatMap gI
 | []=>by simp [qO]
 | x :: l=>by rw [qO,Zz l,List.flatMap_cons,ic_ics];rfl
theorem YN (l:List It) (k j m:Nat) (hk:k<l.length) (hj:j+m≤7):k*7+j+m≤(qO l).length∧((qO l).drop (k*7+j)).take m=((gI (l.getD k qB)).drop j).take m:=by
 rw [Zz]
 exact yG gI 7 (fun _=>rfl) qB l k j m hk hj
abbrev ZT (n:Int):Prop := -9223372036854775808≤n∧n≤9223372036854775807
mutual
def QP:It→Prop
 | .mk _ _ ps b ly ks=>(ZT b.1∧ZT b.2)∧ps.length≤5864062014634∧ly.length≤140737488351232∧ks.length≤1466015503658∧wy ks
def wy:List It→Prop
 | []=>True
 | x :: l=>QP x∧wy l
end
theorem jI (x:It):QP x↔((ZT (iB x).1∧ZT (iB x).2)∧(iP x).length≤5864062014634∧(iL x).length≤140737488351232∧(iC x).length≤1466015503658∧wy (iC x)):=by
 cases x with|mk k s ps b ly ks=>rw [QP];rfl
theorem jM:∀ {l:List It} {i:Nat},wy l→i<l.length→QP (l.getD i qB)
 | [],i,_,h=>absurd h (Nat.not_lt_zero i)
 | x :: l,0,h,_=>by rw [wy] at h;exact h.1
 | x :: l,i+1,h,hi=>by
  rw [wy] at h
  have:=jM (i:=i) h.2 (by simpa using hi)
  simpa using this
theorem qab {l:List It} {i:Nat} (h:i<l.length):SizeOf.sizeOf (l.getD i qB)<SizeOf.sizeOf l:=by
 rw [List.getD_eq_getElem?_getD,List.getElem?_eq_getElem h]
 exact List.sizeOf_lt_of_mem (List.getElem_mem h)
theorem kid_lt {x:It} {i:Nat} (h:i<(iC x).length):SizeOf.sizeOf ((iC x).getD i qB)<SizeOf.sizeOf x:=by
 cases x with
 | mk k s ps b ly ks =>
  simp only [iC] at h ⊢
  rw [List.getD_eq_getElem?_getD,List.getElem?_eq_getElem h]
  have:=List.sizeOf_lt_of_mem (List.getElem_mem h)
  simp only [Option.getD_some,It.mk.sizeOf_spec]
  omega
theorem wq (x:It):SizeOf.sizeOf (iC x)<SizeOf.sizeOf x:=by
 cases x with|mk k s ps b ly ks=>simp only [iC,It.mk.sizeOf_spec];omega
abbrev Br:=Int × Int × List It
def brC (b:Br):List PV:=[iv b.1,iv b.2.1,.ssl (qO b.2.2) 0 b.2.2.length]
def vF (l:List Br):List PV:=l.flatMap brC
abbrev zB:Br:=(0,0,[])
abbrev Vo:=qQ × List Br
def voC (v:Vo):List PV:=[sv (st v.1),.ssl (vF v.2) 0 v.2.length]
def yJ (l:List Vo):List PV:=l.flatMap voC
abbrev qD:Vo:=([],[])
/-! ### names and lyrics -/
def abc:List UInt8:=[97,98,99,100,101,102,103,104,105,106,107,108,109,110,111,112,113,114,115,116,117,118,119,120,121,122]
theorem qei {t cs:List UInt8}:Lib.trimS t cs=[]↔∀ b∈t,b∈cs:=by
 unfold Lib.trimS Lib.trimLeftS Lib.trimRightS
 constructor
 ·intro h
  replace h:=qac h
  intro b hb
  have hb':b∈t.reverse:=by simpa using hb
  rw [← List.takeWhile_append_dropWhile (p:=fun x=>cs.contains x) (l:=t.reverse),List.mem_append] at hb'
  rcases hb' with hb'|hb'
  ·have:=Ww b hb'
   simpa using this
  ·have:=h b (by simpa using hb')
   simpa using this
 ·intro h
  have key:∀ l:List UInt8,(∀ b∈l,b∈cs)→l.dropWhile (cs.contains ·)=[]:=by
   intro l hl
   induction l with
   | nil=>rfl
   | cons a l ih=>rw [List.dropWhile_cons_of_pos (by simpa using hl a (by simp))];exact ih fun b hb=>hl b (by simp [hb])
  rw [key t.reverse fun b hb=>h b (by simpa using hb)]
  rfl
theorem abc_ascii:∀ (j:Nat) b,abc[j]? = some b→b.toNat<128:=by
 intro j b h
 have:∀ b∈abc,b.toNat<128:=by decide
 exact this b (List.mem_of_getElem? h)
def wV (s:qQ):Bool:=decide (s≠[]∧s.length≤32∧∀ b∈s,b∈abc)
def wS (r l:Int):Bool:=decide (32≤r∧r≠34∧r≠127∧(r≠65533∨1<l))
def vN (s:qQ):Bool :=
 if _h:1≤vL s∧1≤s.length then wS (QQ s) (vL s) && vN (s.drop (vL s)) else true
termination_by s.length
decreasing_by rw [List.length_drop];omega
theorem qdm:vN []=true:=by rw [vN,dif_neg (fun c=>by simp at c)]
theorem Qz {s:qQ} (h:s≠[]):vN s=(wS (QQ s) (vL s) && vN (s.drop (vL s))):=by
 rw [vN,dif_pos ⟨Zk h,List.length_pos_iff.2 h⟩]
def ZX (s:qQ):Nat:=Lib.runeCount (st s)
def vj (s:qQ):Bool:=decide (1≤ZX s∧ZX s≤100) && vN s

/-! ### what is wrong -/
abbrev bz (x:It):Bool:=decide ((iB x).1=0) && decide ((iB x).2=0)
def vR (x:It):Bool :=
 if (iP x).length=0 then false else if 16<(iP x).length then false else if 0<(iC x).length then false
 else if bz x=true then (if (iP x).all rb=true then (if iL x=[] then true else vj (iL x)) else false) else false
def vJ (x:It):Bool:=if (iP x).length=0 then (if (iC x).length=0 then (if iL x=[] then bz x else false) else false) else false
def yL (x:It):Bool :=
 if (iC x).length=0 then false else if 0<(iP x).length then false
 else if iL x=[] then (if iK x=4 then (if bz x=true then decide ((qX (iB x).1 (iB x).2).2=0) else false) else decide ((qX (iB x).1 (iB x).2).2=0)) else false
theorem QS {l:List Pt} (h:∀ i,i<l.length→rb (l.getD i zU)=true):l.all rb=true:=by
 rw [List.all_eq_true]
 intro p hp
 obtain ⟨i,hi,e⟩:=List.mem_iff_getElem.1 hp
 have:=h i hi
 rw [List.getD_eq_getElem?_getD,List.getElem?_eq_getElem hi,Option.getD_some,e] at this
 exact this
theorem qfm {l:List Pt} {i:Nat} (hi:i<l.length) (h:¬ rb (l.getD i zU)=true):¬ l.all rb=true:=fun c=>h (by
 rw [List.getD_eq_getElem?_getD,List.getElem?_eq_getElem hi,Option.getD_some]
 exact List.all_eq_true.1 c _ (List.getElem_mem hi))
theorem itb {X:Bool × Int} {n:Nat} (h:0<n):X=(decide (X.1=true∧0<n),X.2):=Prod.ext (by simp [h]) rfl
mutual
def vz:It→Int→Int→Bool × Int
 | .mk k s ps b ly ks,lv,n =>
  if n-1<0∨31<lv∨s<1∨65536<s then (false,n-1)
  else if k=1 then (vR (.mk k s ps b ly ks),n-1)
  else if k=2∨k=3 then (vJ (.mk k s ps b ly ks),n-1)
  else if k=4∨k=5 then
   (if yL (.mk k s ps b ly ks)=true then wF ks (lv+1) (n-1) else (false,n-1))
  else (false,n-1)
def wF:List It→Int→Int→Bool × Int
 | [],_,n=>(true,n)
 | x :: l,lv,n=>if (vz x lv n).1=true then wF l lv (vz x lv n).2 else (false,(vz x lv n).2)
end
theorem yv (x:It) (lv n:Int):vz x lv n =
  if n-1<0∨31<lv∨iS x<1∨65536<iS x then (false,n-1)
  else if iK x=1 then (vR x,n-1)
  else if iK x=2∨iK x=3 then (vJ x,n-1)
  else if iK x=4∨iK x=5 then
   (if yL x=true then wF (iC x) (lv+1) (n-1) else (false,n-1))
  else (false,n-1):=by
 cases x with|mk k s ps b ly ks=>rw [vz];rfl
theorem itL_at {l:List It} {i:Nat} {lv n:Int} (h:i<l.length):wF (l.drop i) lv n=if (vz (l.getD i qB) lv n).1=true then wF (l.drop (i+1)) lv (vz (l.getD i qB) lv n).2 else (false,(vz (l.getD i qB) lv n).2):=by
 rw [List.drop_eq_getElem_cons h,List.getD_eq_getElem?_getD,List.getElem?_eq_getElem h,wF];rfl
mutual
theorem qdw:∀ (x:It) (lv n:Int),0≤n→(vz x lv n).2<n ∧ -1≤(vz x lv n).2∧((vz x lv n).1=true→0≤(vz x lv n).2)
 | .mk k s ps b ly ks,lv,n,hn=>by
  rw [vz]
  split
  ·exact ⟨by show n-1<n;omega,by show -1≤n-1;omega,fun h=>by simp at h⟩
  rename_i h1
  split
  ·exact ⟨by show n-1<n;omega,by show -1≤n-1;omega,fun _=>by show 0≤n-1;omega⟩
  split
  ·exact ⟨by show n-1<n;omega,by show -1≤n-1;omega,fun _=>by show 0≤n-1;omega⟩
  split
  ·split
   ·have:=WQ ks (lv+1) (n-1) (by omega)
    exact ⟨by omega,this.2.1,this.2.2⟩
   ·exact ⟨by show n-1<n;omega,by show -1≤n-1;omega,fun h=>by simp at h⟩
  ·exact ⟨by show n-1<n;omega,by show -1≤n-1;omega,fun h=>by simp at h⟩
theorem WQ:∀ (l:List It) (lv n:Int),0≤n→(wF l lv n).2≤n ∧ -1≤(wF l lv n).2∧((wF l lv n).1=true→0≤(wF l lv n).2)
 | [],lv,n,hn=>by rw [wF];exact ⟨Int.le_refl _,by show -1≤n;omega,fun _=>hn⟩
 | x :: l,lv,n,hn=>by
  have h1:=qdw x lv n hn
  rw [wF]
  split
  ·rename_i h2
   have:=WQ l lv (vz x lv n).2 (h1.2.2 h2)
   exact ⟨by omega,this.2.1,this.2.2⟩
  ·exact ⟨by show (vz x lv n).2≤n;omega,h1.2.1,fun h=>by simp at h⟩
end
def wK (b:Br):Int:=if b.1<1∨65536<b.1∨b.2.1<1∨65536<b.2.1 then 3 else if (wF b.2.2 1 4095).1=true∧0<b.2.2.length then 0 else 2
def QX:List Br→Int
 | []=>0
 | b :: l=>if wK b=0 then QX l else wK b
def zx (v:Vo):Int:=if wV v.1=true then (if 1024<v.2.length then 5 else QX v.2) else 7
def wN:List Vo→Int
 | []=>0
 | v :: l=>if zx v=0 then wN l else zx v
def qw (l:List Vo):Int:=if 64<l.length then 5 else wN l
def qaw (b:Br):Prop:=ZT b.1∧ZT b.2.1∧b.2.2.length≤1466015503658∧wy b.2.2
def fitVo (v:Vo):Prop:=v.1.length≤140737488351232∧v.2.length≤140737488351232∧∀ i,i<v.2.length→qaw (v.2.getD i zB)
def qca (l:List Vo):Prop:=l.length≤140737488351232∧∀ i,i<l.length→fitVo (l.getD i qD)
theorem wD {l:List Br} {i:Nat} (h:i<l.length):QX (l.drop i)=if wK (l.getD i zB)=0 then QX (l.drop (i+1)) else wK (l.getD i zB):=by
 rw [List.drop_eq_getElem_cons h,List.getD_eq_getElem?_getD,List.getElem?_eq_getElem h,QX];rfl
theorem yZ {l:List Vo} {i:Nat} (h:i<l.length):wN (l.drop i)=if zx (l.getD i qD)=0 then wN (l.drop (i+1)) else zx (l.getD i qD):=by
 rw [List.drop_eq_getElem_cons h,List.getD_eq_getElem?_getD,List.getElem?_eq_getElem h,wN];rfl
def ZV:qQ→Nat
 | []=>0
 | b :: l=>if b.toNat=32∨b.toNat=10 then ZV l+1 else 0
def Wz (s:qQ) (a:Nat):Nat:=a+ZV (s.drop a)
theorem skip_le:∀ l:qQ,ZV l≤l.length
 | []=>Nat.le_refl _
 | b :: l=>by
  have:=skip_le l
  unfold ZV
  split <;> simp <;> omega
theorem qhb:∀ l:qQ,ZV (l.drop (ZV l))=0
 | []=>rfl
 | b :: l=>by
  by_cases h:b.toNat=32∨b.toNat=10
  ·have e:ZV (b :: l)=ZV l+1:=by rw [ZV,if_pos h]
   rw [e,List.drop_succ_cons];exact qhb l
  ·have e:ZV (b :: l)=0:=by rw [ZV,if_neg h]
   rw [e,List.drop_zero,e]
theorem gap_le {s:qQ} {a:Nat} (h:a≤s.length):Wz s a≤s.length:=by
 have:=skip_le (s.drop a)
 rw [List.length_drop] at this
 unfold Wz
 omega
theorem drop_getD {s:qQ} {a:Nat} (h:a<s.length):s.drop a=s.getD a 0 :: s.drop (a+1):=by
 rw [List.drop_eq_getElem_cons h,List.getD_eq_getElem?_getD,List.getElem?_eq_getElem h];rfl
def sgn:qQ:=[32,10,124,47,60,62,126,91,93,42,34]
def wordF (s:qQ) (a:Nat):qQ:=(s.drop (Wz s a)).takeWhile fun b=>!sgn.contains b
def Vj (s:qQ) (a:Nat) (c:Int):Bool:=decide (Wz s a<s.length∧(((s.getD (Wz s a) 0).toNat:Nat):Int)=c)
theorem fair_nil:wS (QQ []) (vL [])=false:=rfl
theorem fair_ne {l:qQ} (h:wS (QQ l) (vL l)=true):1≤vL l∧1≤l.length:=by
 have hl:l≠[]:=fun e=>by subst e;rw [fair_nil] at h;cases h
 exact ⟨Zk hl,List.length_pos_iff.2 hl⟩
def vow:qQ:=[118,111,105,99,101]
theorem dcd_N {l:qQ} (h:l≠[]):(QQ l,vL l)=Lib.decodeN l.length (l.getD 0 0).toNat (l.getD 1 0).toNat (l.getD 2 0).toNat (l.getD 3 0).toNat:=by
 have hs:(st l).size≠0:=fun e=>h (List.length_eq_zero_iff.1 e)
 unfold QQ vL Lib.decodeGo
 rw [if_neg hs,Lib.decode_at]
 simp only [st_get]
 rfl
theorem decN_cases (n a b c d:Nat):Lib.decodeN n a b c d=(65533,1)∨(a<128∧Lib.decodeN n a b c d=(a,1)) ∨
  ((Lib.decodeN n a b c d).2=2∧∀ n',2≤n'→∀ c' d',Lib.decodeN n' a b c' d'=Lib.decodeN n a b c d) ∨
  ((Lib.decodeN n a b c d).2=3∧∀ n',3≤n'→∀ d',Lib.decodeN n' a b c d'=Lib.decodeN n a b c d) ∨
  ((Lib.decodeN n a b c d).2=4∧∀ n',4≤n'→Lib.decodeN n' a b c d=Lib.decodeN n a b c d):=by
 by_cases h0:a<128
 ·exact .inr (.inl ⟨h0,by unfold Lib.decodeN;rw [if_pos h0]⟩)
 by_cases h1:a / 32=6∧(1<n∧b / 64=2)
 ·have e:∀ n',2≤n'→∀ c' d',Lib.decodeN n' a b c' d'=if a % 32*64+b % 64 ≥ 128 then (a % 32*64+b % 64,2) else (65533,1):=fun n' hn c' d'=>by
   unfold Lib.decodeN
   rw [if_neg h0,if_pos ⟨h1.1,by omega,h1.2.2⟩]
  rw [e n (by omega) c d]
  by_cases h2:a % 32*64+b % 64 ≥ 128
  ·rw [if_pos h2] at e ⊢
   exact .inr (.inr (.inl ⟨rfl,e⟩))
  ·rw [if_neg h2]
   exact .inl rfl
 by_cases h3:a / 16=14∧(1<n∧b / 64=2)∧(2<n∧c / 64=2)
 ·have e:∃ (q:Prop) (_:Decidable q) (m:Nat),∀ n',3≤n'→∀ d',Lib.decodeN n' a b c d'=if q then (m,3) else (65533,1):=⟨_,_,_,fun n' hn d'=>by
   unfold Lib.decodeN
   rw [if_neg h0,if_neg (show ¬ (a / 32=6∧(1<n'∧b / 64=2)) from by omega),if_pos (show a / 16=14∧(1<n'∧b / 64=2)∧(2<n'∧c / 64=2) from ⟨h3.1,⟨by omega,h3.2.1.2⟩,by omega,h3.2.2.2⟩)]⟩
  obtain ⟨q,_,m,e⟩:=e
  by_cases hq:q
  ·simp only [if_pos hq] at e
   refine .inr (.inr (.inr (.inl ⟨by rw [e n (by omega) d],fun n' hn d'=>by rw [e n' hn,e n (by omega)]⟩)))
  ·simp only [if_neg hq] at e
   exact .inl (e n (by omega) d)
 by_cases h5:a / 8=30∧(1<n∧b / 64=2)∧(2<n∧c / 64=2)∧(3<n∧d / 64=2)
 ·have e:∃ (q:Prop) (_:Decidable q) (m:Nat),∀ n',4≤n'→Lib.decodeN n' a b c d=if q then (m,4) else (65533,1):=⟨_,_,_,fun n' hn=>by
   unfold Lib.decodeN
   rw [if_neg h0,if_neg (show ¬ (a / 32=6∧(1<n'∧b / 64=2)) from by omega),if_neg (show ¬ (a / 16=14∧(1<n'∧b / 64=2)∧(2<n'∧c / 64=2)) from by omega),if_pos (show a / 8=30∧(1<n'∧b / 64=2)∧(2<n'∧c / 64=2)∧(3<n'∧d / 64=2) from ⟨h5.1,⟨by omega,h5.2.1.2⟩,⟨by omega,h5.2.2.1.2⟩,by omega,h5.2.2.2.2⟩)]⟩
  obtain ⟨q,_,m,e⟩:=e
  by_cases hq:q
  ·simp only [if_pos hq] at e
   refine .inr (.inr (.inr (.inr ⟨by rw [e n (by omega)],fun n' hn=>by rw [e n' hn,e n (by omega)]⟩)))
  ·simp only [if_neg hq] at e
   exact .inl (e n (by omega))
 ·left
  unfold Lib.decodeN
  rw [if_neg h0,if_neg h1,if_neg h3,if_neg h5]
def YR (l:qQ):Nat:=if _h:1≤vL l∧1≤l.length then 1+YR (l.drop (vL l)) else 0
termination_by l.length
decreasing_by rw [List.length_drop];omega
theorem qgd:YR []=0:=by rw [YR,dif_neg (fun c=>by simp at c)]
theorem qcy {l:qQ} (h:l≠[]):YR l=1+YR (l.drop (vL l)):=by
 rw [YR,dif_pos ⟨Zk h,List.length_pos_iff.2 h⟩]
theorem dec_at {l:qQ} {p:Nat} (h:p<l.length):Utf8.decode (st l) p=(QQ (l.drop p),vL (l.drop p)):=by
 have hne:l.drop p≠[]:=fun e=>by have:=congrArg List.length e;rw [List.length_drop] at this;simp at this;omega
 rw [dcd_N hne,Lib.decode_at,List.length_drop]
 simp only [st_get]
 have hg:∀ k,(l.drop p).getD k 0=l.getD (p+k) 0:=fun k=>by rw [List.getD_eq_getElem?_getD,List.getElem?_drop,List.getD_eq_getElem?_getD]
 simp only [hg]
 rfl
theorem cnt_from {l:qQ}:∀ (f p:Nat),l.length-p≤f→Lib.runeCountFrom (st l) f p=YR (l.drop p)
 | 0,p,h=>by rw [List.drop_eq_nil_of_le (by omega),qgd];rfl
 | f+1,p,h=>by
  unfold Lib.runeCountFrom
  by_cases hp:p<l.length
  ·have hne:l.drop p≠[]:=fun e=>by have:=congrArg List.length e;rw [List.length_drop] at this;simp at this;omega
   have:=Zk hne
   rw [if_pos (show p<(st l).size from hp),dec_at hp,cnt_from f _ (by show l.length-(p+vL (l.drop p))≤f;omega),qcy hne,List.drop_drop]
  ·rw [if_neg (show ¬ p<(st l).size from hp),List.drop_eq_nil_of_le (by omega),qgd]
theorem qhf (l:qQ):ZX l=YR l:=by
 unfold ZX Lib.runeCount
 rw [cnt_from _ 0 (by show l.length-0≤l.length;omega),List.drop_zero]

/-! ### lyrics -/
/-! ### numbers -/
/-! ### where things end -/
/-! ### the text of a piece -/
def qI (n:Int):qQ:=if n=1 then [] else 42 :: Lib.itoa n
def lyT (t:qQ):qQ:=if t=[] then [] else 32 :: 34 :: (t++[34])
def wY (p:Pt):qQ:=(vv p.1 p.2.1 p.2.2).1
def ptsR:List Pt→qQ
 | []=>[]
 | p :: l=>32 :: (wY p++ptsR l)
def zC:List Pt→qQ
 | []=>[]
 | p :: l=>wY p++ptsR l
theorem qcn (p:Pt) (l:List Pt):zC (p :: l)=wY p++ptsR l:=rfl
theorem ptsT_one (p:Pt):zC [p]=wY p:=List.append_nil _
def Qw (ps:List Pt):qQ:=if 1<ps.length then 60 :: (zC ps++[62]) else zC ps
def upT (k:Int) (b:Int × Int):qQ:=if k=5 then [117,112,32]++((qX b.1 b.2).1++[32]) else []
mutual
def zQ:It→qQ
 | .mk k s ps b ly ks=>(if k=2 then [45] else if k=3 then [126] else if k=1 then Qw ps else upT k b++(91 :: (qq ks++[93])))++(qI s++lyT ly)
def qq:List It→qQ
 | []=>[]
 | x :: l=>zQ x++itsR l
def itsR:List It→qQ
 | []=>[]
 | x :: l=>32 :: (zQ x++itsR l)
end
def brT (b:Br):qQ:=[124,32]++(Lib.itoa b.1++(47 :: (Lib.itoa b.2.1++(32 :: (qq b.2.2++[10])))))
def zX (l:List Br):qQ:=l.flatMap brT
def voT (v:Vo):qQ:=vow++(32 :: (v.1++(10 :: zX v.2)))
def zw (l:List Vo):qQ:=l.flatMap voT
theorem itT_eq (x:It):zQ x=(if iK x=2 then [45] else if iK x=3 then [126] else if iK x=1 then Qw (iP x) else upT (iK x) (iB x)++(91 :: (qq (iC x)++[93])))++(qI (iS x)++lyT (iL x)):=by
 cases x with|mk k s ps b ly ks=>rw [zQ];rfl

/-! ### gaps -/
def nx (t:qQ):qQ:=t.drop (ZV t)
theorem nx_no {b:UInt8} {t:qQ} (h:b≠32∧b≠10):nx (b :: t)=b :: t:=by
 have hb:¬ (b.toNat=32∨b.toNat=10):=by
  rintro (c|c)
  ·exact h.1 (UInt8.toNat_inj.1 (c.trans rfl))
  ·exact h.2 (UInt8.toNat_inj.1 (c.trans rfl))
 unfold nx
 rw [ZV,if_neg hb,List.drop_zero]
theorem nx_nx (t:qQ):nx (nx t)=nx t:=by
 unfold nx
 rw [qhb,List.drop_zero]
theorem gap_drop (s:qQ) (a:Nat):s.drop (Wz s a)=nx (s.drop a):=by unfold Wz nx;rw [List.drop_drop]
structure G (s:qQ) (a:Nat) (t:qQ):Prop where
 eq:s.drop (Wz s a)=t
 le:Wz s a≤s.length
theorem G.of {s t:qQ} {a:Nat} (h:s.drop a=t) (ha:a≤s.length):G s a (nx t):=⟨by rw [gap_drop,h],gap_le ha⟩
theorem G.nx {s t:qQ} {a:Nat} (h:G s a t):Pm.nx t=t:=by rw [← h.eq,gap_drop,nx_nx]
theorem G.adv {s p r:qQ} {a:Nat} (h:G s a (p++r)):s.drop (Wz s a+p.length)=r∧Wz s a+p.length≤s.length:=by
 have e:=h.eq
 have hl:=congrArg List.length e
 rw [List.length_drop,List.length_append] at hl
 have:=h.le
 refine ⟨?_,by omega⟩
 rw [← List.drop_drop,e,List.drop_left]
theorem G.on {s p r:qQ} {a:Nat} (h:G s a (p++r)):G s (Wz s a+p.length) (Pm.nx r):=.of h.adv.1 h.adv.2
theorem G.one {s r:qQ} {b:UInt8} {a:Nat} (h:G s a (b :: r)):G s (Wz s a+1) (Pm.nx r):=G.on (p:=[b]) h
theorem G.lt {s r:qQ} {b:UInt8} {a:Nat} (h:G s a (b :: r)):Wz s a<s.length:=by
 have:=(G.adv (p:=[b]) (r:=r) h).2
 simp only [List.length_singleton] at this
 omega
theorem G.end {s:qQ} {a:Nat} (h:G s a []):Wz s a=s.length:=by
 have:=congrArg List.length h.eq
 rw [List.length_drop,List.length_nil] at this
 have:=h.le
 omega
theorem G.at {s r:qQ} {b:UInt8} {a:Nat} (h:G s a (b :: r)):s.getD (Wz s a) 0=b:=by
 have e:=h.eq
 rw [drop_getD h.lt] at e
 exact (List.cons.inj e).1
theorem G.yes {s r:qQ} {b:UInt8} {a:Nat} {c:Int} (h:G s a (b :: r)) (hc:(b.toNat:Int)=c):Vj s a c=true:=by
 unfold Vj
 rw [h.at]
 exact decide_eq_true ⟨h.lt,hc⟩
theorem G.no {s r:qQ} {b:UInt8} {a:Nat} {c:Int} (h:G s a (b :: r)) (hc:¬ (b.toNat:Int)=c):¬ Vj s a c=true:=by
 unfold Vj
 rw [h.at]
 exact fun q=>hc (of_decide_eq_true q).2
theorem G.no0 {s:qQ} {a:Nat} {c:Int} (h:G s a []):¬ Vj s a c=true:=by
 unfold Vj
 rw [h.end]
 exact fun q=>absurd (of_decide_eq_true q).1 (Nat.lt_irrefl _)
theorem G.word {s t:qQ} {a:Nat} (h:G s a t):wordF s a=t.takeWhile fun b=>!sgn.contains b:=by
 unfold wordF
 rw [h.eq]

/-! ### words -/
def SgS:qQ→Prop
 | []=>True
 | b :: _=>b∈sgn
theorem tw_app {w r:qQ} (hw:∀ b∈w,b ∉ sgn) (hr:SgS r):(w++r).takeWhile (fun b=>!sgn.contains b)=w:=by
 induction w with
 | nil =>
  cases r with
  | nil=>rfl
  | cons c r =>
   rw [List.nil_append,List.takeWhile_cons]
   have hr':c∈sgn:=hr
   have:sgn.contains c=true:=by simpa using hr'
   simp only [this,Bool.not_true,Bool.false_eq_true,if_false]
 | cons b w ih =>
  rw [List.cons_append,List.takeWhile_cons]
  have:sgn.contains b=false:=by simpa using hw b (by simp)
  simp only [this,Bool.not_false,if_true]
  rw [ih fun c hc=>hw c (by simp [hc])]
theorem G.wd {s w r:qQ} {a:Nat} (h:G s a (w++r)) (hw:∀ b∈w,b ∉ sgn) (hr:SgS r):wordF s a=w:=by rw [h.word,tw_app hw hr]
theorem SgS.app {t r:qQ} (ht:SgS t) (hr:SgS r):SgS (t++r):=by
 cases t with
 | nil=>exact hr
 | cons b t=>exact ht
/-! ### numbers -/
/-! ### pitches -/
end Go.Proofs.YtmlnilkbolcknaaGreatDoor.Pm
namespace Go.Proofs.YtmlnilkbolcknaaGreatDoor.Pm
open Go
open Go.Proofs.YtmlnilkbolcknaaGreatDoor.Pi
def NxS (r:qQ):Prop:=SgS r∧(nx r=[]∨∃ c t,nx r=c :: t∧c≠42∧c≠34)
theorem u8_ne {b c:UInt8} {z:Int} (h:b≠c) (hc:(c.toNat:Int)=z):¬ (b.toNat:Int)=z:=fun e=>h (UInt8.toNat_inj.1 (by omega))
theorem NxS.no {s r:qQ} {a:Nat} (h:G s a (nx r)) (hr:NxS r):¬ Vj s a 42=true∧¬ Vj s a 34=true:=by
 rcases hr.2 with e|⟨c,t,e,h1,h2⟩
 ·rw [e] at h
  exact ⟨h.no0,h.no0⟩
 ·rw [e] at h
  exact ⟨h.no (u8_ne h1 rfl),h.no (u8_ne h2 rfl)⟩
/-! ### what items begin with -/
theorem YF {x:It} (h:vR x=true):1≤(iP x).length∧(iP x).length≤16∧iC x=[]∧iB x=(0,0)∧(iP x).all rb=true∧(iL x=[]∨vj (iL x)=true):=by
 unfold vR at h
 split at h
 ·cases h
 split at h
 ·cases h
 split at h
 ·cases h
 rename_i c1 c2 c3
 split at h
 ·rename_i c4
  split at h
  ·rename_i c5
   simp only [bz,Bool.and_eq_true,decide_eq_true_eq] at c4
   refine ⟨by omega,by omega,List.length_eq_zero_iff.1 (by omega),Prod.ext c4.1 c4.2,c5,?_⟩
   split at h
   ·rename_i c6;exact .inl c6
   ·exact .inr h
  ·cases h
 ·cases h
theorem YA {x:It} (h:vJ x=true):iP x=[]∧iC x=[]∧iL x=[]∧iB x=(0,0):=by
 unfold vJ at h
 split at h
 ·split at h
  ·split at h
   ·rename_i c1 c2 c3
    simp only [bz,Bool.and_eq_true,decide_eq_true_eq] at h
    exact ⟨List.length_eq_zero_iff.1 c1,List.length_eq_zero_iff.1 c2,c3,Prod.ext h.1 h.2⟩
   ·cases h
  ·cases h
 ·cases h
theorem Zj {x:It} (h:yL x=true):iC x≠[]∧iP x=[]∧iL x=[]∧(iK x=4→iB x=(0,0))∧(qX (iB x).1 (iB x).2).2=0:=by
 unfold yL at h
 split at h
 ·cases h
 split at h
 ·cases h
 rename_i c1 c2
 split at h
 ·rename_i c3
  refine ⟨fun e=>c1 (by rw [e];rfl),List.length_eq_zero_iff.1 (by omega),c3,?_⟩
  split at h
  ·split at h
   ·rename_i c5
    simp only [bz,Bool.and_eq_true,decide_eq_true_eq] at c5
    exact ⟨fun _=>Prod.ext c5.1 c5.2,of_decide_eq_true h⟩
   ·cases h
  ·rename_i c4
   exact ⟨fun e=>absurd e c4,of_decide_eq_true h⟩
 ·cases h
structure ItG (x:It) (lv:Int) (k:Int):Prop where
 k1:1≤k
 lvb:lv≤31
 s1:1≤iS x
 s2:iS x≤65536
 kind:(iK x=1∧vR x=true∧(vz x lv k).2=k-1)∨((iK x=2∨iK x=3)∧vJ x=true∧(vz x lv k).2=k-1)∨((iK x=4∨iK x=5)∧yL x=true∧vz x lv k=wF (iC x) (lv+1) (k-1))
theorem YM {x:It} {lv k:Int} (h:(vz x lv k).1=true):ItG x lv k:=by
 rw [yv] at h
 have e:=yv x lv k
 split at h
 ·cases h
 rename_i c
 rw [if_neg c] at e
 refine ⟨by omega,by omega,by omega,by omega,?_⟩
 split at h
 ·rename_i c1
  rw [if_pos c1] at e
  exact .inl ⟨c1,h,by rw [e]⟩
 rename_i c1
 rw [if_neg c1] at e
 split at h
 ·rename_i c2
  rw [if_pos c2] at e
  exact .inr (.inl ⟨c2,h,by rw [e]⟩)
 rename_i c2
 rw [if_neg c2] at e
 split at h
 ·rename_i c3
  rw [if_pos c3] at e
  split at h
  ·rename_i c4
   rw [if_pos c4] at e
   exact .inr (.inr ⟨c3,c4,e⟩)
  ·cases h
 ·cases h
/-! ### items -/
theorem Zq {x:It} {l:List It} {lv n:Int} (h:(wF (x :: l) lv n).1=true):(vz x lv n).1=true∧(wF l lv (vz x lv n).2).1=true∧wF (x :: l) lv n=wF l lv (vz x lv n).2:=by
 rw [wF] at h ⊢
 split at h
 ·rename_i c
  rw [if_pos c]
  exact ⟨c,h,rfl⟩
 ·cases h
def EnV (r:qQ):Prop:=r=[]∨∃ t,r=vow++(32 :: t)
def EnB (r:qQ):Prop:=EnV r∨∃ t,r=124 :: t
theorem EnB.nx {r:qQ} (h:EnB r):Pm.nx r=r∧(r=[]∨∃ c t,r=c :: t∧c≠42∧c≠34):=by
 rcases h with (rfl|⟨t,rfl⟩)|⟨t,rfl⟩
 ·exact ⟨rfl,.inl rfl⟩
 ·exact ⟨nx_no (b:=118) (by decide),.inr ⟨118,_,rfl,by decide,by decide⟩⟩
 ·exact ⟨nx_no (by decide),.inr ⟨124,t,rfl,by decide,by decide⟩⟩
theorem qkp {b:Br} (h:wK b=0):(1≤b.1∧b.1≤65536)∧(1≤b.2.1∧b.2.1≤65536)∧(wF b.2.2 1 4095).1=true∧b.2.2≠[]:=by
 unfold wK at h
 split at h
 ·cases h
 ·rename_i c
  split at h
  ·rename_i c2
   exact ⟨by omega,by omega,c2.1,List.length_pos_iff.1 c2.2⟩
  ·cases h
theorem qif:∀ {l:List Br},QX l=0→∀ b∈l,wK b=0
 | b :: l,h,c,hc=>by
  rw [QX] at h
  split at h
  ·rename_i c1
   rcases List.mem_cons.1 hc with rfl|hc
   ·exact c1
   ·exact qif h c hc
  ·rename_i c1
   exact absurd h c1
theorem qeg {v:Vo} (h:zx v=0):wV v.1=true∧v.2.length≤1024∧∀ b∈v.2,wK b=0:=by
 unfold zx at h
 split at h
 ·rename_i c
  split at h
  ·cases h
  ·exact ⟨c,by omega,qif h⟩
 ·cases h
theorem qdb:∀ {l:List Vo},wN l=0→∀ v∈l,zx v=0
 | v :: l,h,c,hc=>by
  rw [wN] at h
  split at h
  ·rename_i c1
   rcases List.mem_cons.1 hc with rfl|hc
   ·exact c1
   ·exact qdb h c hc
  ·rename_i c1
   exact absurd h c1
theorem qfe {l:List Vo} (h:qw l=0):l.length≤64∧∀ v∈l,zx v=0:=by
 unfold qw at h
 split at h
 ·cases h
 ·exact ⟨by omega,qdb h⟩
def yx (l:List Vo):qQ × Int:=if qw l=0 then (if 65536<(zw l).length then ([],4) else (zw l,0)) else ([],qw l)
end Go.Proofs.YtmlnilkbolcknaaGreatDoor.Pm
namespace Go.Proofs.YtmlnilkbolcknaaGreatDoor.Pm
open Go Go.Proofs.YtmlnilkbolcknaaGreatDoor.Pi
theorem qbx {α:Type} {l:List α} {d:α} {i:Nat} (h:i<l.length):l.getD i d∈l:=by
 rw [List.getD_eq_getElem?_getD,List.getElem?_eq_getElem h]
 exact List.getElem_mem h
end Go.Proofs.YtmlnilkbolcknaaGreatDoor.Pm
namespace Go.Proofs.YtmlnilkbolcknaaGreatDoor.Pm
open Go Go.Proofs.YtmlnilkbolcknaaGreatDoor.Pi
theorem YS (x:It):bz x=true↔iB x=(0,0):=by
 simp only [bz,Bool.and_eq_true,decide_eq_true_eq]
 exact ⟨fun h=>Prod.ext h.1 h.2,fun h=>by rw [h];exact ⟨rfl,rfl⟩⟩
theorem note_mk {x:It} (h1:1≤(iP x).length) (h2:(iP x).length≤16) (h3:iC x=[]) (h4:iB x=(0,0)) (h5:(iP x).all rb=true) (h6:iL x=[]∨vj (iL x)=true):vR x=true:=by
 unfold vR
 rw [if_neg (by omega),if_neg (by omega),if_neg (by rw [h3];decide),if_pos ((YS x).2 h4),if_pos h5]
 split
 ·rfl
 ·rename_i c
  exact h6.resolve_left c
theorem rest_mk {x:It} (h1:iP x=[]) (h2:iC x=[]) (h3:iL x=[]) (h4:iB x=(0,0)):vJ x=true:=by
 unfold vJ
 rw [if_pos (by rw [h1];rfl),if_pos (by rw [h2];rfl),if_pos h3]
 exact (YS x).2 h4
theorem group_mk {x:It} (h1:iC x≠[]) (h2:iP x=[]) (h3:iL x=[]) (h4:iK x=4→iB x=(0,0)) (h5:(qX (iB x).1 (iB x).2).2=0):yL x=true:=by
 unfold yL
 have:1≤(iC x).length:=List.length_pos_iff.2 h1
 rw [if_neg (by omega),if_neg (by rw [h2];decide),if_pos h3]
 split
 ·rename_i c
  rw [if_pos ((YS x).2 (h4 c))]
  exact decide_eq_true h5
 ·exact decide_eq_true h5
def yH (x:It):Bool :=
 if iS x<1∨65536<iS x∨iK x<1∨5<iK x then false
 else if ¬ (iK x=1↔0<(iP x).length)∨16<(iP x).length then false
 else if (iP x).all rb=true then
  (if ¬ (4≤iK x↔0<(iC x).length) then false
   else if ¬ iK x=5∧¬ bz x=true then false
   else if (qX (iB x).1 (iB x).2).2=0 then decide (iL x=[]∨(iK x=1∧vj (iL x)=true))
   else false)
 else false
theorem fair_iff (x:It):yH x=true↔((1≤iS x∧iS x≤65536)∧((iK x=1∧vR x=true)∨((iK x=2∨iK x=3)∧vJ x=true)∨((iK x=4∨iK x=5)∧yL x=true))):=by
 constructor
 ·intro h
  unfold yH at h
  split at h
  ·cases h
  rename_i c1
  split at h
  ·cases h
  rename_i c2
  split at h
  case isFalse=>cases h
  rename_i c3
  split at h
  ·cases h
  rename_i c4
  split at h
  ·cases h
  rename_i c5
  split at h
  case isFalse=>cases h
  rename_i c6
  have c7:=of_decide_eq_true h
  have d2:(iK x=1↔0<(iP x).length)∧(iP x).length≤16:=⟨Classical.byContradiction fun q=>c2 (.inl q),by omega⟩
  have d4:(4≤iK x↔0<(iC x).length):=Classical.byContradiction c4
  have d5:iK x=5∨bz x=true:=by
   by_cases q:iK x=5
   ·exact .inl q
   ·exact .inr (Classical.byContradiction fun r=>c5 ⟨q,r⟩)
  refine ⟨by omega,?_⟩
  by_cases k1:iK x=1
  ·left
   refine ⟨k1,note_mk (d2.1.1 k1) d2.2 (List.length_eq_zero_iff.1 ?_) ((YS x).1 (d5.resolve_left (by omega))) c3 (c7.imp id And.right)⟩
   have:¬ 0<(iC x).length:=fun q=>by have:=d4.2 q;omega
   omega
  ·have hp:iP x=[]:=List.length_eq_zero_iff.1 (by have:¬ 0<(iP x).length:=fun q=>k1 (d2.1.2 q);omega)
   have hl:iL x=[]:=c7.resolve_right fun q=>k1 q.1
   right
   by_cases k4:4≤iK x
   ·right
    exact ⟨by omega,group_mk (List.length_pos_iff.1 (d4.1 k4)) hp hl (fun q=>(YS x).1 (d5.resolve_left (by omega))) c6⟩
   ·left
    refine ⟨by omega,rest_mk hp (List.length_eq_zero_iff.1 ?_) hl ((YS x).1 (d5.resolve_left (by omega)))⟩
    have:¬ 0<(iC x).length:=fun q=>by have:=d4.2 q;omega
    omega
 ·rintro ⟨hs,h⟩
  have n0:(qX 0 0).2=0:=by decide
  unfold yH
  rcases h with ⟨k,h⟩|⟨k,h⟩|⟨k,h⟩
  ·obtain ⟨p1,p2,p3,p4,p5,p6⟩:=YF h
   rw [if_neg (by omega),if_neg (fun q=>by rcases q with q|q;exact q ⟨fun _=>by omega,fun _=>k⟩;omega),if_pos p5,if_neg (fun q=>q ⟨fun r=>by omega,fun r=>by rw [p3] at r;exact absurd r (Nat.lt_irrefl _)⟩),if_neg (fun q=>q.2 ((YS x).2 p4)),if_pos (by rw [p4];exact n0)]
   exact decide_eq_true (p6.imp id fun q=>⟨k,q⟩)
  ·obtain ⟨p1,p2,p3,p4⟩:=YA h
   rw [if_neg (by omega),if_neg (fun q=>by rcases q with q|q;exact q ⟨fun _=>by omega,fun r=>by rw [p1] at r;exact absurd r (Nat.lt_irrefl _)⟩;rw [p1] at q;exact absurd q (by decide)),if_pos (by rw [p1];rfl),if_neg (fun q=>q ⟨fun r=>by omega,fun r=>by rw [p2] at r;exact absurd r (Nat.lt_irrefl _)⟩),if_neg (fun q=>q.2 ((YS x).2 p4)),if_pos (by rw [p4];exact n0)]
   exact decide_eq_true (.inl p3)
  ·obtain ⟨p1,p2,p3,p4,p5⟩:=Zj h
   have hc:=List.length_pos_iff.2 p1
   rw [if_neg (by omega),if_neg (fun q=>by rcases q with q|q;exact q ⟨fun _=>by omega,fun r=>by rw [p2] at r;exact absurd r (Nat.lt_irrefl _)⟩;rw [p2] at q;exact absurd q (by decide)),if_pos (by rw [p2];rfl),if_neg (fun q=>q ⟨fun r=>hc,fun r=>by omega⟩),if_neg (fun q=>q.2 ((YS x).2 (p4 (by have:=q.1;omega)))),if_pos p5]
   exact decide_eq_true (.inl p3)
mutual
def cnI:It→Nat
 | .mk _ _ _ _ _ ks=>jT ks+1
def jT:List It→Nat
 | []=>0
 | x :: l=>cnI x+jT l
end
mutual
def dpI:It→Int→Int
 | .mk _ _ _ _ _ ks,lv=>if ks.length=0 then lv else dpL ks (lv+1)
def dpL:List It→Int→Int
 | [],lv=>lv
 | x :: l,lv=>if dpI x lv<dpL l lv then dpL l lv else dpI x lv
end
mutual
def fuI:It→Bool
 | .mk k s ps b ly ks=>yH (.mk k s ps b ly ks) && fuL ks
def fuL:List It→Bool
 | []=>true
 | x :: l=>fuI x && fuL l
end
mutual
def lkI:It→Int→Int × Int × Bool→Int × Int × Bool
 | .mk k s ps b ly ks,lv,t=>if ks.length=0 then (t.1+1,t.2.1,t.2.2 && yH (.mk k s ps b ly ks)) else
   (t.1+1+(lkF ks (lv+1) (0,lv+1,decide (0<ks.length))).1,if t.2.1<(lkF ks (lv+1) (0,lv+1,decide (0<ks.length))).2.1 then (lkF ks (lv+1) (0,lv+1,decide (0<ks.length))).2.1 else t.2.1,
    t.2.2 && yH (.mk k s ps b ly ks) && (lkF ks (lv+1) (0,lv+1,decide (0<ks.length))).2.2)
def lkF:List It→Int→Int × Int × Bool→Int × Int × Bool
 | [],_,t=>t
 | x :: l,lv,t=>lkF l lv (lkI x lv t)
end
def yq (l:List It) (lv:Int):Int × Int × Bool:=lkF l lv (0,lv,decide (0<l.length))
theorem VU (x:It) (lv:Int) (t:Int × Int × Bool):lkI x lv t=if (iC x).length=0 then (t.1+1,t.2.1,t.2.2 && yH x) else
   (t.1+1+(yq (iC x) (lv+1)).1,if t.2.1<(yq (iC x) (lv+1)).2.1 then (yq (iC x) (lv+1)).2.1 else t.2.1,t.2.2 && yH x && (yq (iC x) (lv+1)).2.2):=by
 cases x with|mk k s ps b ly ks=>rw [lkI];rfl
theorem VV {l:List It} {i:Nat} {lv:Int} {t:Int × Int × Bool} (h:i<l.length):lkF (l.drop i) lv t=lkF (l.drop (i+1)) lv (lkI (l.getD i qB) lv t):=by
 rw [List.drop_eq_getElem_cons h,List.getD_eq_getElem?_getD,List.getElem?_eq_getElem h,lkF];rfl
theorem qkk (x:It):cnI x=jT (iC x)+1:=by cases x with|mk k s ps b ly ks=>rw [cnI];rfl
theorem cnL_at {l:List It} {i:Nat} (h:i<l.length):jT (l.drop i)=cnI (l.getD i qB)+jT (l.drop (i+1)):=by
 rw [List.drop_eq_getElem_cons h,List.getD_eq_getElem?_getD,List.getElem?_eq_getElem h,jT];rfl
theorem len_cn:∀ l:List It,l.length≤jT l
 | []=>Nat.zero_le _
 | x :: l=>by rw [jT,qkk,List.length_cons];have:=len_cn l;omega
mutual
theorem qkg:∀ (x:It) (lv:Int),lv≤dpI x lv
 | .mk k s ps b ly ks,lv=>by
  rw [dpI]
  split
  ·exact Int.le_refl _
  ·have:=qcw ks (lv+1)
   omega
theorem qcw:∀ (l:List It) (lv:Int),lv≤dpL l lv
 | [],lv=>by rw [dpL];exact Int.le_refl _
 | x :: l,lv=>by
  have h1:=qkg x lv
  have h2:=qcw l lv
  rw [dpL]
  split <;> omega
end
mutual
theorem lkI_is:∀ (x:It) (lv n d:Int) (ok:Bool),lv≤d→lkI x lv (n,d,ok)=(n+(cnI x:Int),if d<dpI x lv then dpI x lv else d,ok && fuI x)
 | .mk k s ps b ly ks,lv,n,d,ok,hd=>by
  rw [lkI,cnI,dpI,fuI]
  split
  ·rename_i c
   have:ks=[]:=List.length_eq_zero_iff.1 c
   subst this
   rw [if_neg (show ¬ d<lv by omega),fuL,Bool.and_true]
   rfl
  ·rename_i c
   have hl:=lkF_is ks (lv+1) 0 (lv+1) (decide (0<ks.length)) (Int.le_refl _)
   have hg:=qcw ks (lv+1)
   rw [hl]
   have h1:(if lv+1<dpL ks (lv+1) then dpL ks (lv+1) else lv+1)=dpL ks (lv+1):=by split <;> omega
   rw [h1,decide_eq_true (show 0<ks.length by omega),Bool.true_and,Bool.and_assoc]
   refine Prod.ext ?_ rfl
   show n+1+(0+(jT ks:Int))=n+((jT ks+1:Nat):Int)
   omega
theorem lkF_is:∀ (l:List It) (lv n d:Int) (ok:Bool),lv≤d→lkF l lv (n,d,ok)=(n+(jT l:Int),if d<dpL l lv then dpL l lv else d,ok && fuL l)
 | [],lv,n,d,ok,hd=>by
  rw [lkF,jT,dpL,fuL,if_neg (show ¬ d<lv by omega),Bool.and_true]
  exact Prod.ext (by show n=n+((0:Nat):Int);omega) rfl
 | x :: l,lv,n,d,ok,hd=>by
  have h1:=lkI_is x lv n d ok hd
  have hg:=qkg x lv
  have hg2:=qcw l lv
  rw [lkF,h1]
  have h2:=lkF_is l lv (n+(cnI x:Int)) (if d<dpI x lv then dpI x lv else d) (ok && fuI x) (by split <;> omega)
  rw [h2,jT,dpL,fuL,Bool.and_assoc]
  refine Prod.ext (by show n+_+_=n+((cnI x+jT l:Nat):Int);omega) (Prod.ext ?_ rfl)
  show (if (if d<dpI x lv then dpI x lv else d)<dpL l lv then dpL l lv else (if d<dpI x lv then dpI x lv else d))=(if d<(if dpI x lv<dpL l lv then dpL l lv else dpI x lv) then (if dpI x lv<dpL l lv then dpL l lv else dpI x lv) else d)
  repeat' split
  all_goals omega
end
theorem lkL_is {l:List It} (lv:Int):yq l lv=(((jT l:Nat):Int),dpL l lv,decide (0<l.length) && fuL l):=by
 have hg:=qcw l lv
 unfold yq
 rw [lkF_is l lv 0 lv _ (Int.le_refl _)]
 have h1:(if lv<dpL l lv then dpL l lv else lv)=dpL l lv:=by split <;> omega
 rw [h1]
 exact Prod.ext (by show 0+_=_;omega) rfl
mutual
theorem itS_iff:∀ (x:It) (lv n:Int),((vz x lv n).1=true↔(fuI x=true∧(cnI x:Int)≤n∧dpI x lv≤31))∧((vz x lv n).1=true→(vz x lv n).2=n-(cnI x:Int))
 | .mk k s ps b ly ks,lv,n=>by
  have fwd:(vz (.mk k s ps b ly ks) lv n).1=true→(fuI (.mk k s ps b ly ks)=true∧(cnI (.mk k s ps b ly ks):Int)≤n∧dpI (.mk k s ps b ly ks) lv≤31)∧(vz (.mk k s ps b ly ks) lv n).2=n-(cnI (.mk k s ps b ly ks):Int):=by
   intro h
   obtain ⟨k1,hlv,s1,s2,hk⟩:=YM h
   rw [fuI,cnI,dpI,Bool.and_eq_true,fair_iff]
   rcases hk with ⟨c,q,e⟩|⟨c,q,e⟩|⟨c,q,e⟩
   ·obtain rfl:ks=[]:=(YF q).2.2.1
    rw [e,if_pos (show ([]:List It).length=0 from rfl),fuL,jT]
    exact ⟨⟨⟨⟨⟨s1,s2⟩,.inl ⟨c,q⟩⟩,rfl⟩,by omega⟩,by omega⟩
   ·obtain rfl:ks=[]:=(YA q).2.1
    rw [e,if_pos (show ([]:List It).length=0 from rfl),fuL,jT]
    exact ⟨⟨⟨⟨⟨s1,s2⟩,.inr (.inl ⟨c,q⟩)⟩,rfl⟩,by omega⟩,by omega⟩
   ·have hne:ks≠[]:=(Zj q).1
    have hl:=qbu ks (lv+1) (n-1) (.inl hne)
    rw [e] at h ⊢
    have e2:(wF (iC (.mk k s ps b ly ks)) (lv+1) (n-1)).1=true:=h
    have e3:(wF ks (lv+1) (n-1)).1=true:=h
    obtain ⟨h1,h2,h3⟩:=hl.1.1 e3
    have h4:=hl.2 e3
    have hz:¬ ks.length=0:=fun z=>hne (List.length_eq_zero_iff.1 z)
    rw [if_neg hz]
    refine ⟨⟨⟨⟨⟨s1,s2⟩,.inr (.inr ⟨c,q⟩)⟩,h1⟩,by omega,h3⟩,?_⟩
    show (wF ks (lv+1) (n-1)).2=_
    rw [h4]
    omega
  refine ⟨⟨fun h=>(fwd h).1,fun h=>?_⟩,fun h=>(fwd h).2⟩
  have hg:=qkg (.mk k s ps b ly ks) lv
  obtain ⟨h1,h2,h3⟩:=h
  rw [fuI,Bool.and_eq_true,fair_iff] at h1
  obtain ⟨⟨hs,hk⟩,hf⟩:=h1
  rw [cnI] at h2
  have hs:1≤s∧s≤65536:=hs
  rw [vz,if_neg (by omega)]
  rcases hk with ⟨c,q⟩|⟨c,q⟩|⟨c,q⟩
  ·have c:k=1:=c
   rw [if_pos c]
   exact q
  ·have c:k=2∨k=3:=c
   rw [if_neg (by omega),if_pos c]
   exact q
  ·have c:k=4∨k=5:=c
   have hne:ks≠[]:=(Zj q).1
   have hz:¬ ks.length=0:=fun z=>hne (List.length_eq_zero_iff.1 z)
   rw [dpI,if_neg hz] at h3
   rw [if_neg (by omega),if_neg (by omega),if_pos c,if_pos q]
   exact (qbu ks (lv+1) (n-1) (.inl hne)).1.2 ⟨hf,by omega,h3⟩
theorem qbu:∀ (l:List It) (lv n:Int),(l≠[]∨(0≤n∧lv≤31))→((wF l lv n).1=true↔(fuL l=true∧(jT l:Int)≤n∧dpL l lv≤31))∧((wF l lv n).1=true→(wF l lv n).2=n-(jT l:Int))
 | [],lv,n,h=>by
  have h:=h.resolve_left (fun q=>q rfl)
  rw [wF,fuL,jT,dpL]
  exact ⟨⟨fun _=>⟨rfl,by omega,h.2⟩,fun _=>rfl⟩,fun _=>by show n=n-((0:Nat):Int);omega⟩
 | x :: l,lv,n,_=>by
  have hx:=itS_iff x lv n
  have hg1:=qkg x lv
  have hg2:=qcw l lv
  have hc:=qkk x
  rw [wF,fuL,jT,dpL,Bool.and_eq_true]
  by_cases c:(vz x lv n).1=true
  ·rw [if_pos c]
   obtain ⟨h1,h2,h3⟩:=hx.1.1 c
   have h4:=hx.2 c
   have hl:=qbu l lv (vz x lv n).2 (.inr (by omega))
   refine ⟨⟨fun h=>?_,fun h=>hl.1.2 ⟨h.1.2,by omega,by have:=h.2.2;split at this <;> omega⟩⟩,fun h=>?_⟩
   ·obtain ⟨k1,k2,k3⟩:=hl.1.1 h
    exact ⟨⟨h1,k1⟩,by omega,by split <;> omega⟩
   ·rw [hl.2 h,h4];omega
  ·rw [if_neg c]
   refine ⟨⟨fun h=>absurd h (by simp),fun h=>absurd (hx.1.2 ⟨h.1.1,by omega,by have:=h.2.2;split at this <;> omega⟩) c⟩,fun h=>absurd h (by simp)⟩
end
theorem qdz {b:Br} (h:¬ (b.1<1∨65536<b.1∨b.2.1<1∨65536<b.2.1)):wK b=if (yq b.2.2 1).2.2=false∨4095<(yq b.2.2 1).1∨31<(yq b.2.2 1).2.1 then 2 else 0:=by
 unfold wK
 rw [if_neg h,lkL_is]
 dsimp only
 by_cases hne:0<b.2.2.length
 ·have hl:=(qbu b.2.2 1 4095 (.inl (List.length_pos_iff.1 hne))).1
  rw [decide_eq_true hne,Bool.true_and]
  by_cases c:(wF b.2.2 1 4095).1=true
  ·obtain ⟨h1,h2,h3⟩:=hl.1 c
   rw [if_pos ⟨c,hne⟩,if_neg (by rw [h1];rintro (q|q|q);cases q;omega;omega)]
  ·rw [if_neg (fun q=>c q.1),if_pos]
   by_cases h1:fuL b.2.2=true
   ·by_cases h2:(jT b.2.2:Int)≤4095
    ·exact .inr (.inr (by have:¬ dpL b.2.2 1≤31:=fun q=>c (hl.2 ⟨h1,h2,q⟩);omega))
    ·exact .inr (.inl (by omega))
   ·exact .inl (by simpa using h1)
 ·rw [if_neg (fun q=>hne q.2),decide_eq_false hne,Bool.false_and,if_pos (.inl rfl)]
end Go.Proofs.YtmlnilkbolcknaaGreatDoor.Pm
namespace Go.Proofs.YtmlnilkbolcknaaGreatDoor
open Go.RowKit
theorem jH {k:IntKind} {a b:Int} (h:a=b):Ending.returned (.int k a) = .returned (.int k b):=by rw [h]
theorem yO {a b:Bool} (h:a=b):Ending.returned (.bool a) = .returned (.bool b):=by rw [h]
theorem jV {W w1:World} (hb:Below W.heap.size W w1) :
  (∀ b o,b<W.heap.size→w1.cell? ⟨b,o,none⟩=W.cell? ⟨b,o,none⟩)∧(∀ b o,b<W.heap.size→w1.frozen? ⟨b,o,none⟩=W.frozen? ⟨b,o,none⟩) :=
 ⟨fun b o h=>hb.cell (p:=⟨b,o,none⟩) h,fun b o h=>hb.frozen (p:=⟨b,o,none⟩) h⟩
theorem qz {B:Nat} {a w:World} (h:Below B a w) (n:Nat):Below B a (w.drewN n):=⟨h.os,h.tape,h.output,h.size,h.block⟩
theorem zD {a w w':World} (h:Below w.heap.size w w') (k:Below a.heap.size a w):Below a.heap.size a w':=k.trans (h.mono k.size)
theorem zJ {a w:World} (k:Below a.heap.size a w) (o:Obj):Below a.heap.size a (w.alloc o):=k.alloc k.size o
theorem qcz {W w':World} {a:Addr} {v:Value} (h:W.cell? a=some v) (hb:Below W.heap.size W w'):w'.cell? a=some v :=
 (hb.cell (World.block_lt_of_cell? W _ h)).trans h
theorem qak {P:Program} {f:FuncId} {args:Array Value} {w:World} {n:Nat} {v:Value}
  (h:Calls P f args (w.drewN n) fun e w'=>e = .returned v∧w.drewN n=w'):Calls P f args (w.drewN n) fun e w''=>e = .returned v∧∃ m,w''=w.drewN m :=
 h.mono fun _ _ ⟨he,hm⟩=>⟨he,n,hm.symm⟩
open Go
def badR (c:Nat) (s:ByteArray):Prop:=c<32∨c=34∨c=127∨(c=65533∧¬ s.toList=[239,191,189])
instance (c:Nat) (s:ByteArray):Decidable (badR c s):=by unfold badR;infer_instance
def Yx (s:ByteArray):Bool:=decide (0<s.size∧¬ badR (Utf8.decode s 0).1 s∧(Utf8.decode s 0).2=s.size)
theorem wid_pos (s:ByteArray) (pos:Nat) (h:pos<s.size):1≤(Utf8.decode s pos).2:=by
 by_cases ha:(s[pos]'h).toNat<128
 ·rw [decode_ascii s pos h ha]
  exact Nat.le_refl _
 ·exact (decode_high s pos h (by omega)).2
def OneR (s:ByteArray) (pos k:Nat):Prop:=(k=0∧pos=0)∨(1≤k∧0<s.size∧¬ badR (Utf8.decode s 0).1 s∧((k=1∧pos=(Utf8.decode s 0).2)∨(Utf8.decode s 0).2<s.size∧2≤k))
theorem one_stop {s:ByteArray} {pos k:Nat} (h:OneR s pos k) (hp:pos<s.size) (hb:badR (Utf8.decode s pos).1 s):Yx s=false:=by
 unfold Yx
 rcases h with ⟨_,h0⟩|⟨_,_,_,⟨_,h0⟩|⟨h0,_⟩⟩
 ·subst h0
  exact decide_eq_false fun c=>c.2.1 hb
 ·exact decide_eq_false fun c=>by omega
 ·exact decide_eq_false fun c=>by omega
theorem one_next {s:ByteArray} {pos k:Nat} (h:OneR s pos k) (hp:pos<s.size) (hb:¬ badR (Utf8.decode s pos).1 s):OneR s (pos+(Utf8.decode s pos).2) (k+1):=by
 have hw:=wid_pos s pos hp
 right
 rcases h with ⟨h1,h0⟩|⟨h1,h2,h3,⟨h4,h5⟩|⟨h4,h5⟩⟩
 ·subst h0;subst h1
  exact ⟨by omega,hp,hb,.inl ⟨rfl,by omega⟩⟩
 ·exact ⟨by omega,h2,h3,.inr ⟨by omega,by omega⟩⟩
 ·exact ⟨by omega,h2,h3,.inr ⟨h4,by omega⟩⟩
theorem dec_fit (s:ByteArray) (pos:Nat) (h:pos<s.size):pos+(Utf8.decode s pos).2≤s.size:=by
 simp only [Utf8.decode]
 repeat' split
 all_goals simp_all
 all_goals omega
theorem one_end {s:ByteArray} {pos k:Nat} (h:OneR s pos k) (hp:¬ pos<s.size):(((k:Int) == 1)=Yx s):=by
 unfold Yx
 rcases h with ⟨h1,h0⟩|⟨h1,h2,h3,⟨h4,h5⟩|⟨h4,h5⟩⟩
 ·subst h1
  exact (decide_eq_false fun c=>by omega).symm
 ·subst h4
  have:=dec_fit s 0 h2
  exact (decide_eq_true ⟨h2,h3,by omega⟩).symm
 ·rw [decide_eq_false fun c=>by omega]
  simp
  omega
theorem qgh (w:World) (s:ByteArray) (pos:Nat):Below w.heap.size w (w.iter s pos):=(Below.refl _ _).alloc (Nat.le_refl _) _
set_option maxRecDepth 1000000 in
theorem one_walk (s:ByteArray) (hz:s.size≤9223372036854775807) (w:World) :
  Calls Tryz.prog 143 #[.string s] w fun e w'=>e = .returned (.bool (Yx s))∧Below w.heap.size w w':=by
 go_enter Tryz.func143,Tryz.ntmps143
 go_wp2
 go_loopw [3] (fun n w'=>∃ (pos k:Nat),w'=w.iter s pos∧n = .int .i64 k∧k≤pos∧OneR s pos k) (fun _ w'=>s.size-w'.iterPos w.heap.size)
 case atStart=>exact ⟨0,0,rfl,rfl,Nat.le_refl _,.inl ⟨rfl,rfl⟩⟩
 case round =>
  obtain ⟨pos,k,rfl,rfl,hk,hr⟩:=hrel
  by_cases hp:pos<s.size
  ·obtain ⟨c,hc⟩:∃ c,(Utf8.decode s pos).1=c:=⟨_,rfl⟩
   have hnx:∀ ty,(Instr.next (.pointer (some ⟨w.heap.size,0,none⟩)) true ty).run Tryz.prog (w.iter s pos)=_:=fun ty=>run_next_any w s pos ty hp
   simp only [hc] at hnx
   have hwd:=wid_pos s pos hp
   obtain ⟨d,hd⟩:∃ d,(s.toList == [239,191,189])=d:=⟨_,rfl⟩
   have hD:s.toList=[239,191,189]↔d=true:=by rw [← hd];simp
   by_cases hbad:badR c s
   ·have hst:=Lib.hid (one_stop hr hp (by rw [hc];exact hbad))
    have H:=Lib.hid hbad
    clear hbad
    go_wp2
    all_goals first
     | (go_ret;exact ⟨yO hst.out.symm,qgh w s _⟩)
     | (exfalso;have hb:=H.out;unfold badR at hb;rw [hD] at hb;simp_all;omega)
     | (exfalso;have hb:=H.out;unfold badR at hb;rw [hD] at hb;simp_all)
   ·have hst:=one_next hr hp (by rw [hc];exact hbad)
    have H:=Lib.hid hbad
    clear hbad
    go_wp2
    all_goals first
     | (go_roundw;(case rel=>exact ⟨_,k+1,rfl,rfl,by omega,hst⟩);(case measure=>simp;omega))
     | (exfalso;have hb:=H.out;unfold badR at hb;rw [hD] at hb;simp_all;omega)
     | (exfalso;have hb:=H.out;unfold badR at hb;rw [hD] at hb;simp_all)
  ·have hnx:∀ ty,(Instr.next (.pointer (some ⟨w.heap.size,0,none⟩)) true ty).run Tryz.prog (w.iter s pos)=_:=fun ty=>run_next_end w s pos ty hp
   go_wp2
   go_ret
   exact ⟨yO (one_end hr hp),qgh w s _⟩
end Go.Proofs.YtmlnilkbolcknaaGreatDoor
namespace Go.Proofs.YtmlnilkbolcknaaGreatDoor.Pm
open Go Go.Proofs.YtmlnilkbolcknaaGreatDoor.Pi
/-! ### ZX -/
def VB (l:qQ) (i:Nat):Nat:=(l.getD i 0).toNat
theorem bat_lt (l:qQ) (i:Nat):VB l i<256:=(l.getD i 0).toNat_lt
theorem ZM (l:qQ) (i:Nat):((st l).get! i).toNat=VB l i:=by
 unfold VB
 show (l.toArray[i]!).toNat=_
 rw [List.getD_eq_getElem?_getD]
 by_cases h:i<l.length
 ·simp [h]
 ·have h':l.length≤i:=by omega
  simp [h']
  rfl
theorem dec_N (l:qQ) (h:l≠[]):Lib.decodeGo (st l)=Lib.decodeN l.length (VB l 0) (VB l 1) (VB l 2) (VB l 3):=by
 have hs:(st l).size≠0:=fun e=>h (List.length_eq_zero_iff.1 e)
 unfold Lib.decodeGo
 rw [if_neg hs,Lib.decode_at,ZM,ZM,ZM,ZM]
 rfl
theorem dec_N' (l:qQ):Utf8.decode (st l) 0=Lib.decodeN l.length (VB l 0) (VB l 1) (VB l 2) (VB l 3):=by
 rw [Lib.decode_at,ZM,ZM,ZM,ZM]
 rfl
theorem ZD (l:qQ) {n i:Nat} (h:i<n):VB (l.take n) i=VB l i:=by
 unfold VB
 rw [List.getD_eq_getElem?_getD,List.getD_eq_getElem?_getD,List.getElem?_take_of_lt h]
def wB (l:qQ):Nat:=if wS (QQ l) (vL l)=true then vL l else 0
theorem list3 {t:qQ} (h:t.length=3):t=[239,191,189]↔VB t 0=239∧VB t 1=191∧VB t 2=189:=by
 match t,h with
 | [a,b,c],_ =>
  simp only [VB,List.getD_cons_zero,List.getD_cons_succ,List.cons.injEq,and_true]
  constructor
  ·rintro ⟨rfl,rfl,rfl⟩;decide
  ·rintro ⟨h1,h2,h3⟩
   exact ⟨UInt8.toNat_inj.1 h1,UInt8.toNat_inj.1 h2,UInt8.toNat_inj.1 h3⟩
theorem qhz (n b0 b1 b2 b3:Nat):1≤(Lib.decodeN n b0 b1 b2 b3).2∧(Lib.decodeN n b0 b1 b2 b3).2≤4:=by
 unfold Lib.decodeN
 repeat' split
 all_goals (constructor <;> (dsimp only;omega))
theorem decN_short {n m b0 b1 b2 b3 c1 c2 c3:Nat} (hn:1≤n) (hnm:n≤m) (h1:1<n→c1=b1) (h2:2<n→c2=b2) (h3:3<n→c3=b3) :
  (n<(Lib.decodeN m b0 b1 b2 b3).2→Lib.decodeN n b0 c1 c2 c3=(65533,1))∧((Lib.decodeN m b0 b1 b2 b3).2≤n→Lib.decodeN n b0 c1 c2 c3=Lib.decodeN m b0 b1 b2 b3):=by
 have e1:1<n→1<m:=by omega
 have e2:2<n→2<m:=by omega
 have e3:3<n→3<m:=by omega
 have hw:=qhz m b0 b1 b2 b3
 rcases Nat.lt_or_ge 1 n with g1|g1
 ·have k1:=h1 g1
  subst k1
  have f1:=e1 g1
  rcases Nat.lt_or_ge 2 n with g2|g2
  ·have k2:=h2 g2
   subst k2
   have f2:=e2 g2
   rcases Nat.lt_or_ge 3 n with g3|g3
   ·have k3:=h3 g3
    subst k3
    have f3:=e3 g3
    refine ⟨fun h=>by omega,fun _=>?_⟩
    unfold Lib.decodeN
    simp only [g1,g2,g3,f1,f2,f3,true_and]
   ·have g3':¬ 3<n:=by omega
    unfold Lib.decodeN at hw ⊢
    simp only [g1,g2,g3',f1,f2,true_and,false_and,and_false,if_false] at hw ⊢
    constructor <;> intro h
    ·repeat' split at h
     all_goals first
      | (exfalso;dsimp only at h;omega)
      | ((repeat' split);(all_goals first | rfl | (exfalso;omega)))
    ·repeat' split at h
     all_goals first
      | (exfalso;dsimp only at h;omega)
      | ((repeat' split);(all_goals first | rfl | (exfalso;omega)))
  ·have g2':¬ 2<n:=by omega
   have g3':¬ 3<n:=by omega
   unfold Lib.decodeN at hw ⊢
   simp only [g1,g2',g3',f1,true_and,false_and,and_false,if_false] at hw ⊢
   constructor <;> intro h
   ·repeat' split at h
    all_goals first
     | (exfalso;dsimp only at h;omega)
     | ((repeat' split);(all_goals first | rfl | (exfalso;omega)))
   ·repeat' split at h
    all_goals first
     | (exfalso;dsimp only at h;omega)
     | ((repeat' split);(all_goals first | rfl | (exfalso;omega)))
 ·have g1':¬ 1<n:=by omega
  have g2':¬ 2<n:=by omega
  have g3':¬ 3<n:=by omega
  unfold Lib.decodeN at hw ⊢
  simp only [g1',g2',g3',false_and,and_false,if_false] at hw ⊢
  constructor <;> intro h
  ·repeat' split at h
   all_goals first
    | (exfalso;dsimp only at h;omega)
    | ((repeat' split);(all_goals first | rfl | (exfalso;omega)))
  ·repeat' split at h
   all_goals first
    | (exfalso;dsimp only at h;omega)
    | ((repeat' split);(all_goals first | rfl | (exfalso;omega)))
theorem decN_fffd {m b0 b1 b2 b3 w:Nat} (h0:b0<256) (h1:b1<256) (h2:b2<256) (h:Lib.decodeN m b0 b1 b2 b3=(65533,w)) (hw:1<w):w=3∧b0=239∧b1=191∧b2=189:=by
 unfold Lib.decodeN at h
 repeat' split at h
 all_goals (simp only [Prod.mk.injEq] at h;omega)
theorem qci (t:qQ):(st t).toList=t:=qcj t
theorem one_take {l:qQ} {n:Nat} (h1:1≤n) (h2:n≤l.length):Yx (st (l.take n))=decide (wS (QQ l) (vL l)=true∧vL l=n):=by
 have hl:l≠[]:=fun e=>by subst e;simp at h2;omega
 have ht:(l.take n).length=n:=by rw [List.length_take];omega
 have hsz:(st (l.take n)).size=n:=ht
 have hd:=dec_N l hl
 have hs:=decN_short (b0:=VB l 0) (b1:=VB l 1) (b2:=VB l 2) (b3:=VB l 3) (c1:=VB (l.take n) 1) (c2:=VB (l.take n) 2) (c3:=VB (l.take n) 3) h1 h2 (fun h=>ZD l h) (fun h=>ZD l h) (fun h=>ZD l h)
 have hdt:Utf8.decode (st (l.take n)) 0=Lib.decodeN n (VB l 0) (VB (l.take n) 1) (VB (l.take n) 2) (VB (l.take n) 3):=by
  rw [dec_N',ht,ZD l (show 0<n by omega)]
 have hf:¬ (st (l.take n)).toList=[239,191,189]→Yx (st (l.take n))=true→(Utf8.decode (st (l.take n)) 0).1≠65533:=fun h3 h4 h5=>by
  have:=of_decide_eq_true h4
  exact this.2.1 (.inr (.inr (.inr ⟨h5,h3⟩)))
 unfold QQ vL
 rw [hd]
 by_cases hlt:n<(Lib.decodeN l.length (VB l 0) (VB l 1) (VB l 2) (VB l 3)).2
 ·have he:=hs.1 hlt
  rw [decide_eq_false (fun c=>by omega)]
  refine decide_eq_false fun c=>?_
  rw [hdt,he] at c
  have h3:n=1:=by have:=c.2.2;rw [hsz] at this;omega
  refine c.2.1 (.inr (.inr (.inr ⟨rfl,fun e=>?_⟩)))
  rw [qci] at e
  rw [e] at ht
  simp at ht
  omega
 ·have he:=hs.2 (by omega)
  unfold Yx
  rw [hdt,he,hsz,Bool.eq_iff_iff,decide_eq_true_eq,decide_eq_true_eq]
  obtain ⟨⟨r,w⟩,hrw⟩:∃ q,Lib.decodeN l.length (VB l 0) (VB l 1) (VB l 2) (VB l 3)=q:=⟨_,rfl⟩
  rw [hrw] at hlt ⊢
  dsimp only at hlt ⊢
  by_cases hwn:w=n
  ·have key:badR r (st (l.take n))↔¬ wS (r:Int) (w:Int)=true:=by
    have e:(r=65533∧¬ (st (l.take n)).toList=[239,191,189])↔(r=65533∧¬ 1<w):=by
     constructor
     ·rintro ⟨h3,h4⟩
      refine ⟨h3,fun h5=>h4 ?_⟩
      subst h3
      obtain ⟨h6,h7,h8,h9⟩:=decN_fffd (bat_lt l 0) (bat_lt l 1) (bat_lt l 2) hrw h5
      rw [qci,list3 (by omega),ZD l (by omega),ZD l (by omega),ZD l (by omega)]
      exact ⟨h7,h8,h9⟩
     ·rintro ⟨h3,h4⟩
      refine ⟨h3,fun h5=>?_⟩
      rw [qci] at h5
      rw [h5] at ht
      simp at ht
      omega
    unfold badR wS
    rw [e,decide_eq_true_eq]
    omega
   constructor
   ·rintro ⟨_,h3,h4⟩
    exact ⟨Classical.byContradiction fun h5=>h3 (key.2 h5),h4⟩
   ·rintro ⟨h3,h4⟩
    exact ⟨by omega,fun h5=>key.1 h5 h3,h4⟩
  ·constructor
   ·rintro ⟨_,_,h4⟩;exact absurd h4 hwn
   ·rintro ⟨_,h4⟩;exact absurd h4 hwn
theorem rune_yes {l:qQ} {n:Nat} (h1:1≤n) (h2:n≤l.length) (h:Yx (st (l.take n))=true):wB l=n:=by
 rw [one_take h1 h2] at h
 have:=of_decide_eq_true h
 unfold wB
 rw [if_pos this.1]
 exact this.2
theorem qia (l:qQ):vL l≤4:=by
 by_cases h:l=[]
 ·subst h;show 0≤4;omega
 ·unfold vL
  rw [dec_N l h]
  exact (qhz ..).2
theorem rune_no {l:qQ} (h:∀ n,1≤n→n≤4→n≤l.length→Yx (st (l.take n))=false):wB l=0:=by
 unfold wB
 split
 ·rename_i c
  have h1:=fair_ne c
  have h2:=qki l
  have h3:=h (vL l) h1.1 (qia l) h2
  rw [one_take h1.1 h2,decide_eq_true ⟨c,rfl⟩] at h3
  cases h3
 ·rfl
theorem rune_le (l:qQ):wB l≤l.length∧wB l≤4:=by
 unfold wB
 split
 ·exact ⟨qki l,qia l⟩
 ·omega
/-! ### words -/
/-! ### numbers -/
end Go.Proofs.YtmlnilkbolcknaaGreatDoor.Pm
namespace Go.Proofs.YtmlnilkbolcknaaGreatDoor
open Go
section
variable {P:Program} {ops:Array Oper} {md:Region.Mode} {C:World→Prop}

def qed (P:Program) (md:Region.Mode) (ops:Array Oper) (C:World→Prop) (n:Nat) (L:Array Bool→Act→Prop):Nat→Array Bool→Act→Prop
 | 0,listed,a=>L listed a
 | f+1,listed,a=>Region.ready md ops listed≠[]∧∀ i∈Region.ready md ops listed,i<n∧qOp P ops C i (qed P md ops C n L f (listed.setIfInBounds i true)) a

theorem VG {n g:Nat} {L:Array Bool→Act→Prop} {Q':Exit→Act→World→Prop} (hL:∀ listed a w,C w→L listed a→wpAny P md ops Q' g listed a w) :
  ∀ (f:Nat) (listed:Array Bool) (a:Act) (w:World),C w→qed P md ops C n L f listed a→wpAny P md ops Q' (f+g) listed a w
 | 0,_,_,_,hw,h=>by rw [Nat.zero_add];exact hL _ _ _ hw h
 | f+1,_,_,_,hw,h=>by
  rw [show f+1+g=(f+g)+1 by omega]
  exact ⟨fun h0=>absurd h0 h.1,fun i hi=>wpOp_of_qOp hw (fun a' w' hw' h'=>VG hL f _ a' w' hw' h') (h.2 i hi).2⟩

theorem qil {n i:Nat} {oi:Oper} {v:Value} {L:Array Bool→Act→Prop} (hi:ops[i]? = some oi) (hsel:∀ (j:Nat) (o:Oper) cs b,ops[j]? = some o→o.op≠.select cs b)
  (hs:Region.sinkB md ops n=true) (hc:Region.chainB md ops n=true) (hn:n<ops.size) (hin:i<n)
  (hdone:∀ listed a,L listed a→∀ j∈Region.ready md ops listed,n≤j) :
  ∀ (f:Nat) (listed:Array Bool) (a:Act),HeadInv md ops n listed →
   (∀ j oj,ops[j]? = some oj→j≠i→listed.getD j true=false→(∀ e∈oj.after,Region.binds md e=true→e.on≠i)→oi.apart ops oj=true) →
   i∈Region.ready md ops listed→YieldsIn P ops C oi v a →
   qed P md ops C n L f (listed.setIfInBounds i true) (a.put oi.dst v)→qed P md ops C n L (f+1) listed a:=by
 intro f
 induction f with
 | zero =>
  intro listed a inv _ hr hy H
  have hun:=(mem_ready.1 hr).1
  refine ⟨fun h=>(by rw [h] at hr;cases hr),fun j hj=>?_⟩
  have hjn:j<n:=by
   rcases Nat.lt_or_ge j n with h|h
   ·exact h
   ·exact absurd hj (tail_waits hs hc hn inv _ i rfl hin hun j h)
  refine ⟨hjn,?_⟩
  by_cases hji:j=i
  ·subst hji;exact hy.qOp hi H
  ·have:=hdone _ _ H j (ready_mono hj hji)
   omega
 | succ f ih =>
  intro listed a inv hfree hr hy H
  have hun:=(mem_ready.1 hr).1
  refine ⟨fun h=>(by rw [h] at hr;cases hr),fun j hj=>?_⟩
  have hjn:j<n:=by
   rcases Nat.lt_or_ge j n with h|h
   ·exact h
   ·exact absurd hj (tail_waits hs hc hn inv _ i rfl hin hun j h)
  refine ⟨hjn,?_⟩
  by_cases hji:j=i
  ·subst hji;exact hy.qOp hi H
  ·have h1:=(H.2 j (ready_mono hj hji)).2
   obtain ⟨hjun,oj,hoj,hall⟩:=mem_ready.1 hj
   have hnot:∀ e∈oj.after,Region.binds md e=true→e.on≠i:=fun e he hb heq=>by
    have h1:=hall e he hb
    rw [heq,getD_both hun] at h1
    cases h1
   have h2:=qOp_put hoj (hfree j oj hoj hji hjun hnot) (fun cs b=>hsel i oi cs b hi) (fun cs b=>hsel j oj cs b hoj) hy h1
   have hfree':∀ k ok,ops[k]? = some ok→k≠i→(listed.setIfInBounds j true).getD k true=false →
     (∀ e∈ok.after,Region.binds md e=true→e.on≠i)→oi.apart ops ok=true:=fun k ok hk hki hun hno=>by
    refine hfree k ok hk hki ?_ hno
    by_cases hjk:j=k
    ·subst hjk;exact hjun
    ·rw [getD_set_ne true hjk] at hun;exact hun
   refine qOp_mono (fun a' h3=>ih (listed.setIfInBounds j true) a' (inv.set hj hjn) hfree' (ready_mono hr (Ne.symm hji)) h3.1 ?_) h2
   rw [Array.setIfInBounds_comm _ _ hji]
   exact h3.2

theorem qec {n g:Nat} {Lq:Act→Prop} (hsel:Region.noSelect ops=true) (hs:Region.sinkB md ops n=true) (hc:Region.chainB md ops n=true) (hn:n<ops.size) :
  ∀ (l:List Oper) (k:Nat) (listed:Array Bool) (a:Act),(∀ j,j<l.length→l[j]? = ops[k+j]?)→k+l.length=n→HeadInv md ops n listed →
  Region.lexHead md ops g l.length k listed=true→wpQuiet P ops C Lq l a →
  qed P md ops C n (fun listed' a'=>Region.seqB md ops g n listed'=true∧Lq a') l.length listed a
 | [],k,_,_,_,hk,_,hB,h=>by
  have:k=n:=by simpa using hk
  subst this
  exact ⟨by simpa [Region.lexHead] using hB,h⟩
 | o :: l,k,listed,a,hl,hk,inv,hB,h=>by
  have h0:ops[k]? = some o:=by simpa using (hl 0 (by simp)).symm
  simp only [List.length_cons,Region.lexHead,Bool.and_eq_true] at hB
  obtain ⟨⟨hr,hf⟩,hB'⟩:=hB
  have hkn:k<n:=by simp only [List.length_cons] at hk;omega
  have hr':k∈Region.ready md ops listed:=by simpa using hr
  have hst:qOp P ops C k (wpQuiet P ops C Lq l) a:=by unfold qOp;simp only [h0];exact h
  obtain ⟨v,hy,hK⟩:=yieldsIn_of_qOp h0 hst
  exact qil h0 (Region.noSelect_spec hsel) hs hc hn hkn (fun listed' a' hL=>seqB_ready hL.1) l.length listed a inv (Region.free_spec h0 hf) hr' hy
   (qec hsel hs hc hn l (k+1) _ _ (fun j hj=>by have:=hl (j+1) (by simp;omega);simpa [Nat.add_assoc,Nat.add_comm 1 j] using this) (by simp only [List.length_cons] at hk;omega) (inv.set hr' hkn) hB' hK)

theorem VF {id:Nat} {Q:Exit→Act→World→Prop} {a:Act} {w:World} {l:List Oper} (C:World→Prop) (n:Nat) (hm:P.follows .mixedOrders=true) (hB:Region.lexTailB .any l.toArray n=true)
  (hC:C { w with drawn:=w.drawn+1 })
  (h:wpQuiet P l.toArray C (fun a'=>∀ w',C w'→wpList P l.toArray Q (l.drop n) a' w') (l.take n) a):(Code.region id l.toArray true).wp P Q a w:=by
 simp only [Region.lexTailB,Bool.and_eq_true,decide_eq_true_eq] at hB
 obtain ⟨⟨⟨⟨hsel,hn⟩,hs⟩,hc⟩,hlex⟩:=hB
 have hn':n<l.length:=by simpa using hn
 have htl:(l.take n).length=n:=by simp;omega
 have hdl:(l.drop n).length=l.toArray.size-n:=by simp
 have inv0:HeadInv .any l.toArray n (Array.replicate l.toArray.size false) :=
  ⟨by simp,fun j oj _ hl=>(by rw [getD_replicate_false] at hl;cases hl),fun t _ ht=>getD_in (by simpa using ht) (getD_replicate_false _ _)⟩
 have H:=qec (md:=.any) (g:=l.toArray.size-n) hsel hs hc hn (l.take n) 0 _ a (fun j hj=>by
  have hj':j<n:=by rw [htl] at hj;exact hj
  simp [hj']) (by simpa using htl) inv0 (by rw [htl];exact hlex) h
 refine wp_region_any hm ?_
 have:=VG (Q':=Q) (g:=l.toArray.size-n) (fun listed a' w' hw' hL=>by
  have:=wpAny_of_seq (md:=.any) (Q':=Q) (l.drop n) n listed a' w' (fun j=>by simp [List.getElem?_drop]) (by rw [hdl];exact hL.1) (hL.2 w' hw')
  rwa [hdl] at this) _ _ _ _ hC H
 rw [htl,show n+(l.toArray.size-n)=l.toArray.size by omega] at this
 exact this

end

structure Ext (w:World) where
 u:World
 h:RowKit.Below w.heap.size w u
instance Ext.some_ (w:World):Nonempty (Ext w):=⟨⟨w,RowKit.Below.refl _ _⟩⟩
theorem Ext.cells (w:World):∀ (d:Ext w) (b o:Nat),b<w.heap.size→d.u.cell? ⟨b,o,none⟩=w.cell? ⟨b,o,none⟩:=fun d b o h=>d.h.cell (p:=⟨b,o,none⟩) h

section
variable {P:Program}
theorem qaf {id:Nat} {Q:Exit→Act→World→Prop} {a:Act} {w:World} {l:List Oper} (n:Nat) (hm:P.follows .mixedOrders=true) (hB:Region.lexTailB .any l.toArray n=true)
  (h:wpQuiet P l.toArray (fun w'=>∃ d:Ext w,w'=d.u) (fun a'=>∀ w',(∃ d:Ext w,w'=d.u)→wpList P l.toArray Q (l.drop n) a' w') (l.take n) a) :
  (Code.region id l.toArray true).wp P Q a w :=
 VF (fun w'=>∃ d:Ext w,w'=d.u) n hm hB ⟨⟨{ w with drawn:=w.drawn+1 },rfl,rfl,rfl,Nat.le_refl _,fun _ _=>rfl⟩,rfl⟩ h
theorem qgo {id:Nat} {Q:Exit→Act→World→Prop} {a:Act} {w:World} {l:List Oper} (hm:P.follows .mixedOrders=true) (hB:Region.lexB .any l.toArray=true)
  (h:wpQuiet P l.toArray (fun w'=>∃ d:Ext w,w'=d.u) (fun a'=>∀ w',(∃ d:Ext w,w'=d.u)→Q .normal a' w') l a) :
  (Code.region id l.toArray true).wp P Q a w :=
 wp_region_quiet (C:=fun w'=>∃ d:Ext w,w'=d.u) hm hB ⟨⟨{ w with drawn:=w.drawn+1 },rfl,rfl,rfl,Nat.le_refl _,fun _ _=>rfl⟩,rfl⟩ (by simpa using h)
theorem ext_call {f:FuncId} {args:Array Value} {w:World} {d:Ext w} {v:Value} (h:Calls P f args d.u fun e w'=>e = .returned v∧RowKit.Below d.u.heap.size d.u w') :
  Calls P f args d.u fun e w''=>e = .returned v∧∃ d':Ext w,w''=d'.u :=
 h.mono fun _ w' ⟨he,hb⟩=>⟨he,⟨w',d.h.trans (hb.mono d.h.size)⟩,rfl⟩
theorem ext_same {f:FuncId} {args:Array Value} {w:World} {d:Ext w} {v:Value} (h:Calls P f args d.u fun e w'=>e = .returned v∧d.u=w') :
  Calls P f args d.u fun e w''=>e = .returned v∧∃ d':Ext w,w''=d'.u :=
 h.mono fun _ _ ⟨he,hb⟩=>⟨he,d,hb.symm⟩
end
end Go.Proofs.YtmlnilkbolcknaaGreatDoor
namespace Go.Proofs.YtmlnilkbolcknaaGreatDoor.Pi
open Go.RowKit
def I64 (n:Int):Prop := -9223372036854775808≤n∧n≤9223372036854775807
set_option maxHeartbeats 1000000 in
theorem qde (l:Int) (w:World) :
  Calls Tryz.prog 123 #[.int .i64 l] w fun e w'=>e = .returned (.int .i64 (nat7 l))∧w=w':=by
 have h:l=0∨l=1∨l=2∨l=3∨l=4∨l=5∨(¬ l=0∧¬ l=1∧¬ l=2∧¬ l=3∧¬ l=4∧¬ l=5):=by omega
 rcases h with rfl|rfl|rfl|rfl|rfl|rfl|⟨h0,h1,h2,h3,h4,h5⟩
 all_goals
  go_enter Tryz.func123,Tryz.ntmps123
  go_wp2
  go_ret
  exact ⟨jH (by unfold nat7;omega),rfl⟩

set_option maxHeartbeats 1000000 in
theorem right_any (l a o:Int) (w:World) :
  Calls Tryz.prog 89 #[.agg #[.int .i64 l,.int .i64 a,.int .i64 o]] w fun e w'=>e = .returned (.bool (rightB l a o))∧Below w.heap.size w w':=by
 by_cases h1:0≤l
 ·by_cases h2:l<7
  ·by_cases h3 : -3≤a
   ·by_cases h4:a≤3
    ·by_cases h5 : -12≤o
     ·go_enter Tryz.func89,Tryz.ntmps89
      go_wp2
      go_ret
      refine ⟨yO ?_,(by repeat (first|exact Below.refl _ _|assumption|refine qz ?_ _|refine Below.drew ?_|refine zJ ?_ _|refine Below.setCell ?_ (by first|omega|(simp <;> omega)) _|refine zD (by assumption) ?_))⟩
      rw [Bool.eq_iff_iff,rightB_iff];simp;omega
     ·go_enter Tryz.func89,Tryz.ntmps89
      go_wp2
      go_ret
      refine ⟨yO ?_,(by repeat (first|exact Below.refl _ _|assumption|refine qz ?_ _|refine Below.drew ?_|refine zJ ?_ _|refine Below.setCell ?_ (by first|omega|(simp <;> omega)) _|refine zD (by assumption) ?_))⟩
      rw [eq_comm,← Bool.not_eq_true,rightB_iff];omega
    ·go_enter Tryz.func89,Tryz.ntmps89
     go_wp2
     go_ret
     refine ⟨yO ?_,(by repeat (first|exact Below.refl _ _|assumption|refine qz ?_ _|refine Below.drew ?_|refine zJ ?_ _|refine Below.setCell ?_ (by first|omega|(simp <;> omega)) _|refine zD (by assumption) ?_))⟩
     rw [eq_comm,← Bool.not_eq_true,rightB_iff];omega
   ·go_enter Tryz.func89,Tryz.ntmps89
    go_wp2
    go_ret
    refine ⟨yO ?_,(by repeat (first|exact Below.refl _ _|assumption|refine qz ?_ _|refine Below.drew ?_|refine zJ ?_ _|refine Below.setCell ?_ (by first|omega|(simp <;> omega)) _|refine zD (by assumption) ?_))⟩
    rw [eq_comm,← Bool.not_eq_true,rightB_iff];omega
  ·go_enter Tryz.func89,Tryz.ntmps89
   go_wp2
   go_ret
   refine ⟨yO ?_,(by repeat (first|exact Below.refl _ _|assumption|refine qz ?_ _|refine Below.drew ?_|refine zJ ?_ _|refine Below.setCell ?_ (by first|omega|(simp <;> omega)) _|refine zD (by assumption) ?_))⟩
   rw [eq_comm,← Bool.not_eq_true,rightB_iff];omega
 ·go_enter Tryz.func89,Tryz.ntmps89
  go_wp2
  go_ret
  refine ⟨yO ?_,(by repeat (first|exact Below.refl _ _|assumption|refine qz ?_ _|refine Below.drew ?_|refine zJ ?_ _|refine Below.setCell ?_ (by first|omega|(simp <;> omega)) _|refine zD (by assumption) ?_))⟩
  rw [eq_comm,← Bool.not_eq_true,rightB_iff];omega

set_option maxHeartbeats 1000000 in
theorem steps_any (l a o:Int) (w:World) (h:rightB l a o=true) :
  Calls Tryz.prog 154 #[.agg #[.int .i64 l,.int .i64 a,.int .i64 o]] w fun e w'=>e = .returned (.int .i64 (steps l o))∧Below w.heap.size w w':=by
 have hr:=rightB_iff.1 h
 go_enter Tryz.func154,Tryz.ntmps154
 go_wp2
 go_ret
 exact ⟨jH rfl,(by repeat (first|exact Below.refl _ _|assumption|refine qz ?_ _|refine Below.drew ?_|refine zJ ?_ _|refine Below.setCell ?_ (by first|omega|(simp <;> omega)) _|refine zD (by assumption) ?_))⟩

theorem nat7_lo (l:Int):0≤nat7 l:=(nat7_range l).1
theorem nat7_hi (l:Int):nat7 l≤11:=(nat7_range l).2

set_option maxHeartbeats 1000000 in
theorem halves_any (l a o:Int) (w:World) (ha : -1000000≤a∧a≤1000000) (ho : -1000000≤o∧o≤1000000) :
  Calls Tryz.prog 155 #[.agg #[.int .i64 l,.int .i64 a,.int .i64 o]] w fun e w'=>e = .returned (.int .i64 (halves l a o))∧Below w.heap.size w w':=by
 have h1:=nat7_lo l
 have h2:=nat7_hi l
 go_enter Tryz.func155,Tryz.ntmps155
 go_wp2
 go_quiet ((go_at_call 123;exact qak (qde l _)))
 go_wp2
 go_ret
 exact ⟨jH rfl,(by repeat (first|exact Below.refl _ _|assumption|refine qz ?_ _|refine Below.drew ?_|refine zJ ?_ _|refine Below.setCell ?_ (by first|omega|(simp <;> omega)) _|refine zD (by assumption) ?_))⟩


end Go.Proofs.YtmlnilkbolcknaaGreatDoor.Pi
namespace Go.Proofs.YtmlnilkbolcknaaGreatDoor.Pm
open Go Go.Proofs.YtmlnilkbolcknaaGreatDoor.Pi
theorem qhh (p:Pt):∀ l:List Pt,zC (l++[p])=if l=[] then wY p else zC l++[32]++wY p
 | []=>by rw [List.nil_append,ptsT_one,if_pos rfl]
 | q :: l=>by
  have hR:∀ l:List Pt,ptsR (l++[p])=ptsR l++[32]++wY p:=by
   intro l
   induction l with
   | nil=>show 32 :: (wY p++[])=_;rw [List.append_nil];rfl
   | cons a l ih=>show 32 :: (wY a++ptsR (l++[p]))=32 :: (wY a++ptsR l)++[32]++wY p;rw [ih];simp
  rw [if_neg (by simp),List.cons_append,qcn,hR,qcn]
  simp
theorem WE {α:Type} {l:List α} {d:α} {i:Nat} (h:i<l.length):l.take (i+1)=l.take i++[l.getD i d]:=by
 rw [List.take_succ_eq_append_getElem h,List.getD_eq_getElem?_getD,List.getElem?_eq_getElem h]
 rfl
theorem qbb {α:Type} {l:List α} {i:Nat} (h:i<l.length):l.take i=[]↔i=0:=by
 rw [List.take_eq_nil_iff]
 constructor
 ·rintro (h1|h1)
  ·exact h1
  ·rw [h1] at h;simp at h
 ·exact .inl
theorem ZY {l:List Pt} {i:Nat} (h:i<l.length):zC (l.take (i+1))=if i=0 then wY (l.getD i zU) else zC (l.take i)++[32]++wY (l.getD i zU):=by
 rw [WE (d:=zU) h,qhh]
 by_cases h0:i=0
 ·rw [if_pos h0,if_pos ((qbb h).2 h0)]
 ·rw [if_neg h0,if_neg (fun c=>h0 ((qbb h).1 c))]
theorem WP (x:It) (l:List It):qq (x :: l)=zQ x++itsR l:=by rw [qq]
theorem QF:qq []=[]:=by rw [qq]
theorem qhu (p:It):∀ l:List It,qq (l++[p])=if l=[] then zQ p else qq l++[32]++zQ p
 | []=>by rw [List.nil_append,WP,itsR,List.append_nil,if_pos rfl]
 | q :: l=>by
  have hR:∀ l:List It,itsR (l++[p])=itsR l++[32]++zQ p:=by
   intro l
   induction l with
   | nil=>rw [List.nil_append,itsR,itsR,itsR,List.append_nil];rfl
   | cons a l ih=>rw [List.cons_append,itsR,itsR,ih];simp
  rw [if_neg (by simp),List.cons_append,WP,hR,WP]
  simp
theorem qbt {l:List It} {i:Nat} (h:i<l.length):qq (l.take (i+1))=if i=0 then zQ (l.getD i qB) else qq (l.take i)++[32]++zQ (l.getD i qB):=by
 rw [WE (d:=qB) h,qhu]
 by_cases h0:i=0
 ·rw [if_pos h0,if_pos ((qbb h).2 h0)]
 ·rw [if_neg h0,if_neg (fun c=>h0 ((qbb h).1 c))]
theorem qdx {α:Type} {F:List α→qQ} (hF:∀ l x,(F l).length≤(F (l++[x])).length) (l:List α) (i:Nat):(F (l.take i)).length≤(F l).length:=by
 have key:∀ (m:List α) (l:List α),(F l).length≤(F (l++m)).length:=by
  intro m
  induction m with
  | nil=>intro l;rw [List.append_nil];exact Nat.le_refl _
  | cons a m ih =>
   intro l
   have:=ih (l++[a])
   rw [List.append_assoc] at this
   exact Nat.le_trans (hF l a) this
 have:=key (l.drop i) (l.take i)
 rwa [List.take_append_drop] at this
theorem qfc (l:List Pt) (i:Nat):(zC (l.take i)).length≤(zC l).length:=qdx (F:=zC) (fun l x=>by
 rw [qhh]
 split
 ·rename_i h;subst h;exact Nat.zero_le _
 ·rw [List.length_append,List.length_append];omega) l i
theorem qjz (l:List It) (i:Nat):(qq (l.take i)).length≤(qq l).length:=qdx (F:=qq) (fun l x=>by
 rw [qhu]
 split
 ·rename_i h;subst h;rw [QF];exact Nat.zero_le _
 ·rw [List.length_append,List.length_append];omega) l i
theorem qfb {l:List Pt} {i:Nat} (h:i<l.length):(zC (l.take i)).length+(if i=0 then 0 else 1)+(wY (l.getD i zU)).length≤(zC l).length∧(i=0→(zC (l.take i)).length=0):=by
 have h1:=qfc l (i+1)
 rw [ZY h] at h1
 by_cases h0:i=0
 ·subst h0
  rw [if_pos rfl] at h1 ⊢
  exact ⟨by rw [List.take_zero];show 0+0+_≤_;omega,fun _=>rfl⟩
 ·rw [if_neg h0] at h1 ⊢
  rw [List.length_append,List.length_append,List.length_singleton] at h1
  exact ⟨by omega,fun c=>absurd c h0⟩
theorem its_room {l:List It} {i:Nat} (h:i<l.length):(qq (l.take i)).length+(if i=0 then 0 else 1)+(zQ (l.getD i qB)).length≤(qq l).length∧(i=0→(qq (l.take i)).length=0):=by
 have h1:=qjz l (i+1)
 rw [qbt h] at h1
 by_cases h0:i=0
 ·subst h0
  rw [if_pos rfl] at h1 ⊢
  exact ⟨by rw [List.take_zero,QF];show 0+0+_≤_;omega,fun _=>by rw [List.take_zero,QF];rfl⟩
 ·rw [if_neg h0] at h1 ⊢
  rw [List.length_append,List.length_append,List.length_singleton] at h1
  exact ⟨by omega,fun c=>absurd c h0⟩
theorem ch_len (l:List Pt):(Qw l).length=(zC l).length+(if 1<l.length then 2 else 0):=by
 unfold Qw
 split
 ·rw [List.length_cons,List.length_append,List.length_singleton]
 ·rfl
def qE (x:It):qQ:=if iK x=2 then [45] else if iK x=3 then [126] else if iK x=1 then Qw (iP x) else upT (iK x) (iB x)++(91 :: (qq (iC x)++[93]))
theorem yV (x:It):zQ x=qE x++(qI (iS x)++lyT (iL x)):=itT_eq x
theorem it_len (x:It):(zQ x).length=(qE x).length+((qI (iS x)).length+(lyT (iL x)).length):=by rw [yV,List.length_append,List.length_append]
def prI (x:It):Prop:=∃ lv n,(vz x lv n).1=true
def prL (l:List It):Prop:=∀ i,i<l.length→prI (l.getD i qB)
theorem qjl:∀ {l:List It} {lv n:Int},(wF l lv n).1=true→prL l
 | [],lv,n,_=>fun i h=>absurd h (Nat.not_lt_zero _)
 | x :: l,lv,n,h=>fun i hi=>by
  obtain ⟨h1,h2,_⟩:=Zq h
  cases i with
  | zero=>exact ⟨lv,n,h1⟩
  | succ i=>simpa using qjl h2 i (by simpa using hi)
theorem pr_item {x:It} (h:prI x):(1≤iS x∧iS x≤65536)∧prL (iC x)∧(iK x=5→(qX (iB x).1 (iB x).2).2=0)∧(1≤iK x∧iK x≤5):=by
 obtain ⟨lv,n,h⟩:=h
 obtain ⟨k1,_,s1,s2,hk⟩:=YM h
 refine ⟨⟨s1,s2⟩,?_⟩
 rcases hk with ⟨c,h1,_⟩|⟨c,h1,_⟩|⟨c,h1,h2⟩
 ·rw [(YF h1).2.2.1]
  exact ⟨fun i h=>absurd h (Nat.not_lt_zero _),fun e=>by omega,by omega⟩
 ·rw [(YA h1).2.1]
  exact ⟨fun i h=>absurd h (Nat.not_lt_zero _),fun e=>by omega,by omega⟩
 ·rw [h2] at h
  exact ⟨qjl h,fun _=>(Zj h1).2.2.2.2,by omega⟩
theorem dec2_4 (l:qQ):vL l≤4:=by
 by_cases h:l=[]
 ·subst h;decide
 ·have e:vL l=_:=congrArg Prod.snd (dcd_N h)
  rw [e]
  rcases decN_cases l.length (l.getD 0 0).toNat (l.getD 1 0).toNat (l.getD 2 0).toNat (l.getD 3 0).toNat with q|⟨_,q⟩|⟨q,_⟩|⟨q,_⟩|⟨q,_⟩ <;> rw [q]
  ·decide
  ·show 1≤4;decide
  ·decide
  ·decide
  ·decide
theorem cnt_len:∀ (m:Nat) (l:qQ),l.length≤m→l.length≤4*YR l
 | 0,l,h=>by omega
 | m+1,l,h=>by
  by_cases h0:l=[]
  ·subst h0;exact Nat.zero_le _
  ·have h1:=dec2_4 l
   have h2:=Zk h0
   have:=cnt_len m (l.drop (vL l)) (by rw [List.length_drop];omega)
   rw [qcy h0]
   rw [List.length_drop] at this
   omega
theorem ly_len {t:qQ} (h:t=[]∨vj t=true):(lyT t).length≤403:=by
 unfold lyT
 split
 ·exact Nat.zero_le _
 ·rename_i c
  have h1:=h.resolve_left c
  unfold vj at h1
  rw [Bool.and_eq_true,decide_eq_true_eq,qhf] at h1
  have:=cnt_len _ t (Nat.le_refl _)
  simp only [List.length_cons,List.length_append,List.length_nil]
  omega
theorem star_len {n:Int} (h1:1≤n) (h2:n≤65536):(qI n).length≤22:=by
 unfold qI
 split
 ·exact Nat.zero_le _
 ·have:=Lib.itoa_length_le n (by omega) (by omega)
  simp only [List.length_cons]
  omega
theorem pt_len {p:Pt} (h:rb p=true):(wY p).length≤40:=by
 have h':rightB p.1 p.2.1 p.2.2=true:=h
 obtain ⟨r1,r2,r3,r4,r5,r6⟩:=rightB_iff.1 h'
 have e:wY p=(letB.drop p.1.toNat).take 1++VJ p.2.1++Lib.itoa p.2.2:=by unfold wY vv;rw [if_pos h']
 have hs:∀ k:Fin 7,(VJ ((k.1:Int)-3)).length≤16:=by decide
 have hs':=hs ⟨(p.2.1+3).toNat,by omega⟩
 rw [show (((p.2.1+3).toNat:Nat):Int)-3=p.2.1 by omega] at hs'
 have hl:=qaq p.1
 have hi:=jE (o:=p.2.2) (by omega) (by omega)
 rw [e]
 simp only [List.length_append]
 omega
theorem ptt_len:∀ {l:List Pt},l.all rb=true→(zC l).length≤41*l.length
 | [],_=>Nat.zero_le _
 | p :: l,h=>by
  have hR:∀ {l:List Pt},l.all rb=true→(ptsR l).length≤41*l.length:=by
   intro l
   induction l with
   | nil=>intro _;exact Nat.zero_le _
   | cons q l ih =>
    intro h
    rw [List.all_cons,Bool.and_eq_true] at h
    have:=ih h.2
    have:=pt_len h.1
    show (32 :: (wY q++ptsR l)).length≤_
    simp only [List.length_cons,List.length_append]
    omega
  rw [List.all_cons,Bool.and_eq_true] at h
  have:=hR h.2
  have:=pt_len h.1
  rw [qcn]
  simp only [List.length_cons,List.length_append]
  omega
theorem up_len (k:Int) (b:Int × Int):(upT k b).length≤104:=by
 unfold upT
 split
 ·have:=qfn b.1 b.2
  simp only [List.length_cons,List.length_append,List.length_nil]
  omega
 ·exact Nat.zero_le _
mutual
theorem it_small:∀ (x:It) (lv n:Int),(vz x lv n).1=true→(((zQ x).length:Nat):Int)+1≤1300*(n-(vz x lv n).2)
 | .mk kd sh ps b ly ks,lv,n,h=>by
  have g:=YM h
  obtain ⟨k1,hlv,s1,s2,hk⟩:=g
  have h1:=it_len (.mk kd sh ps b ly ks)
  have h2:=star_len s1 s2
  rcases hk with ⟨c,q,e⟩|⟨c,q,e⟩|⟨c,q,e⟩
  ·obtain ⟨p1,p2,p3,p4,p5,p6⟩:=YF q
   have h3:=ly_len p6
   have h4:=ptt_len p5
   have h5:=ch_len (iP (.mk kd sh ps b ly ks))
   have hM:qE (.mk kd sh ps b ly ks)=Qw (iP (.mk kd sh ps b ly ks)):=by unfold qE;rw [if_neg (by omega),if_neg (by omega),if_pos c]
   rw [hM] at h1
   rw [e]
   split at h5 <;> omega
  ·obtain ⟨p1,p2,p3,p4⟩:=YA q
   have h3:=ly_len (.inl p3)
   have hM:(qE (.mk kd sh ps b ly ks)).length=1:=by
    unfold qE
    rcases c with c|c
    ·rw [if_pos c];rfl
    ·rw [if_neg (by omega),if_pos c];rfl
   rw [e]
   omega
  ·obtain ⟨p1,p2,p3,p4,p5⟩:=Zj q
   have h3:=ly_len (.inl p3)
   have hM:qE (.mk kd sh ps b ly ks)=upT kd b++(91 :: (qq ks++[93])):=by
    have c':kd=4∨kd=5:=c
    unfold qE
    rw [if_neg (by show ¬ kd=2;omega),if_neg (by show ¬ kd=3;omega),if_neg (by show ¬ kd=1;omega)]
    rfl
   have h4:=up_len kd b
   rw [e] at h ⊢
   have h5:=qhs ks (lv+1) (n-1) h
   rw [hM] at h1
   simp only [List.length_cons,List.length_append,List.length_nil] at h1
   show _≤1300*(n-(wF ks (lv+1) (n-1)).2)
   omega
theorem qhs:∀ (l:List It) (lv n:Int),(wF l lv n).1=true→(((qq l).length:Nat):Int)≤1300*(n-(wF l lv n).2)
 | [],lv,n,_=>by
  rw [QF,wF]
  show (0:Int)≤1300*(n-n)
  omega
 | x :: l,lv,n,h=>by
  obtain ⟨h1,h2,h3⟩:=Zq h
  have i1:=it_small x lv n h1
  have i2:=qhv l lv (vz x lv n).2 h2
  rw [WP,h3]
  simp only [List.length_append]
  omega
theorem qhv:∀ (l:List It) (lv n:Int),(wF l lv n).1=true→(((itsR l).length:Nat):Int)≤1300*(n-(wF l lv n).2)
 | [],lv,n,_=>by
  rw [itsR,wF]
  show (0:Int)≤1300*(n-n)
  omega
 | x :: l,lv,n,h=>by
  obtain ⟨h1,h2,h3⟩:=Zq h
  have i1:=it_small x lv n h1
  have i2:=qhv l lv (vz x lv n).2 h2
  rw [itsR,h3]
  simp only [List.length_cons,List.length_append]
  omega
end
theorem qgg (b:Br):brT b=[124,32]++Lib.itoa b.1++[47]++Lib.itoa b.2.1++[32]++qq b.2.2++[10]:=by unfold brT;simp
theorem qeh (v:Vo):voT v=[118,111,105,99,101,32]++v.1++[10]++zX v.2:=by unfold voT vow;simp
theorem br_len {b:Br} (h:wK b=0):(brT b).length≤5400000:=by
 obtain ⟨⟨b1,b2⟩,⟨b3,b4⟩,b5,b6⟩:=qkp h
 have h1:=Lib.itoa_length_le b.1 (by omega) (by omega)
 have h2:=Lib.itoa_length_le b.2.1 (by omega) (by omega)
 have h3:=qhs b.2.2 1 4095 b5
 have h4:=WQ b.2.2 1 4095 (by omega)
 rw [qgg]
 simp only [List.length_append,List.length_cons,List.length_nil]
 omega
theorem qid:∀ {l:List Br},(∀ b∈l,wK b=0)→(zX l).length≤5400000*l.length
 | [],_=>Nat.zero_le _
 | b :: l,h=>by
  have h1:=br_len (h b (by simp))
  have h2:=qid (l:=l) fun c hc=>h c (by simp [hc])
  have e:zX (b :: l)=brT b++zX l:=by unfold zX;rw [List.flatMap_cons]
  rw [e,List.length_append,List.length_cons]
  omega
theorem vo_len {v:Vo} (h:zx v=0):(voT v).length≤5600000000:=by
 obtain ⟨v1,v2,v3⟩:=qeg h
 have h1:=qid v3
 have h2:=(of_decide_eq_true v1).2.1
 rw [qeh]
 simp only [List.length_append,List.length_cons,List.length_nil]
 omega
theorem pc_small:∀ {l:List Vo},(∀ v∈l,zx v=0)→(zw l).length≤5600000000*l.length
 | [],_=>Nat.zero_le _
 | v :: l,h=>by
  have h1:=vo_len (h v (by simp))
  have h2:=pc_small (l:=l) fun c hc=>h c (by simp [hc])
  have e:zw (v :: l)=voT v++zw l:=by unfold zw;rw [List.flatMap_cons]
  rw [e,List.length_append,List.length_cons]
  omega
theorem pc_bound {l:List Vo} (h:qw l=0):(zw l).length≤140737488355328:=by
 obtain ⟨h1,h2⟩:=qfe h
 have:=pc_small h2
 omega
theorem qin {l:List Vo} {i:Nat} (h:i<l.length):zw (l.take (i+1))=zw (l.take i)++voT (l.getD i qD):=by
 rw [WE (d:=qD) h]
 unfold zw
 rw [List.flatMap_append,List.flatMap_cons,List.flatMap_nil,List.append_nil]
theorem qkn {l:List Br} {i:Nat} (h:i<l.length):zX (l.take (i+1))=zX (l.take i)++brT (l.getD i zB):=by
 rw [WE (d:=zB) h]
 unfold zX
 rw [List.flatMap_append,List.flatMap_cons,List.flatMap_nil,List.append_nil]
theorem pc_le (l:List Vo) (i:Nat):(zw (l.take i)).length≤(zw l).length:=qdx (F:=zw) (fun l x=>by unfold zw;rw [List.flatMap_append,List.length_append];omega) l i
theorem brs_le (l:List Br) (i:Nat):(zX (l.take i)).length≤(zX l).length:=qdx (F:=zX) (fun l x=>by unfold zX;rw [List.flatMap_append,List.length_append];omega) l i
theorem vo_room {l:List Vo} {i:Nat} (h:i<l.length):(zw (l.take i)).length+(voT (l.getD i qD)).length≤(zw l).length:=by
 have:=pc_le l (i+1)
 rwa [qin h,List.length_append] at this
theorem br_room {l:List Br} {i:Nat} (h:i<l.length):(zX (l.take i)).length+(brT (l.getD i zB)).length≤(zX l).length:=by
 have:=brs_le l (i+1)
 rwa [qkn h,List.length_append] at this
theorem pc_full {l:List Vo} (h:l≠[]):zw l≠[]:=by
 cases l with
 | nil=>exact absurd rfl h
 | cons v l=>unfold zw;rw [List.flatMap_cons];unfold voT;exact fun e=>by cases e
theorem rune_good {l:qQ} (h:¬ wB l=0):wS (QQ l) (vL l)=true∧wB l=vL l:=by
 unfold wB at h ⊢
 split at h
 ·rename_i c;rw [if_pos c];exact ⟨c,rfl⟩
 ·exact absurd rfl h
theorem rune_bad {l:qQ} (h:wB l=0):¬ wS (QQ l) (vL l)=true:=fun c=>by
 have:=fair_ne c
 unfold wB at h
 rw [if_pos c] at h
 omega
theorem sung_is (s:qQ):vj s=(decide (1≤YR s∧YR s≤100) && vN s):=by unfold vj;rw [qhf]
theorem drop_ne {s:qQ} {b:Nat} (h:b<s.length):s.drop b≠[]:=fun e=>by
 have:=congrArg List.length e
 rw [List.length_drop] at this
 simp at this
 omega
theorem sung_step {s:qQ} {b n:Nat} (hb:b<s.length) (hF:vN (s.drop b)=vN s) (hC:n+YR (s.drop b)=YR s) (hr:¬ wB (s.drop b)=0) :
  vN (s.drop (b+wB (s.drop b)))=vN s∧n+1+YR (s.drop (b+wB (s.drop b)))=YR s:=by
 obtain ⟨h1,h2⟩:=rune_good hr
 have hne:=drop_ne hb
 rw [Qz hne,h1,Bool.true_and,List.drop_drop] at hF
 rw [qcy hne,List.drop_drop] at hC
 rw [h2]
 exact ⟨hF,by omega⟩
theorem sung_stop {s:qQ} {b:Nat} (hb:b<s.length) (hF:vN (s.drop b)=vN s) (hr:wB (s.drop b)=0):vj s=false:=by
 have h1:=rune_bad hr
 rw [Qz (drop_ne hb)] at hF
 have h2:wS (QQ (s.drop b)) (vL (s.drop b))=false:=by simpa using h1
 rw [h2,Bool.false_and] at hF
 rw [sung_is,← hF,Bool.and_false]
theorem sung_end {s:qQ} {b n:Nat} (hb:¬ b<s.length) (hF:vN (s.drop b)=vN s) (hC:n+YR (s.drop b)=YR s):vj s=decide (1≤n∧n≤100):=by
 rw [List.drop_eq_nil_of_le (by omega)] at hF hC
 rw [qdm] at hF
 rw [qgd] at hC
 rw [sung_is,← hF,Bool.and_true,← hC]
 rfl
mutual
def wdI:It→Prop
 | .mk _ _ ps _ _ ks=>(∀ i,i<ps.length→Pi.I64 (ps.getD i zU).2.1)∧wdL ks
def wdL:List It→Prop
 | []=>True
 | x :: l=>wdI x∧wdL l
end
theorem qcg (x:It):wdI x↔((∀ i,i<(iP x).length→Pi.I64 ((iP x).getD i zU).2.1)∧wdL (iC x)):=by
 cases x with|mk k s ps b ly ks=>rw [wdI];rfl
theorem wd_at:∀ {l:List It} {i:Nat},wdL l→i<l.length→wdI (l.getD i qB)
 | [],_,_,h=>absurd h (Nat.not_lt_zero _)
 | x :: l,0,h,_=>by rw [wdL] at h;exact h.1
 | x :: l,i+1,h,hi=>by
  rw [wdL] at h
  have:=wd_at (l:=l) (i:=i) h.2 (by simpa using hi)
  simpa using this
theorem cn_el {l:List It} {i:Nat} (h:i<l.length):cnI (l.getD i qB)≤jT l:=by
 have:∀ (l:List It) (i:Nat),i<l.length→cnI (l.getD i qB)≤jT l:=by
  intro l
  induction l with
  | nil=>intro i h;exact absurd h (Nat.not_lt_zero _)
  | cons x l ih =>
   intro i h
   rw [jT]
   cases i with
   | zero=>exact Nat.le_add_right _ _
   | succ i=>have:=ih i (by simpa using h);simp only [List.getD_cons_succ];omega
 exact this l i h
def zM (l:List It) (i:Nat):qQ:=if i=0 then [] else qq (l.take i)++[32]
def preP (l:List Pt) (i:Nat):qQ:=if i=0 then [] else zC (l.take i)++[32]
theorem preT_0 {l:List It} {i:Nat} (h:i=0):qq (l.take i)=zM l i:=by subst h;rw [List.take_zero,QF];rfl
theorem preT_p {l:List It} {i:Nat} (h:¬ i=0):qq (l.take i)++[32]=zM l i:=(if_neg h).symm
theorem preP_0 {l:List Pt} {i:Nat} (h:i=0):zC (l.take i)=preP l i:=by subst h;rfl
theorem preP_p {l:List Pt} {i:Nat} (h:¬ i=0):zC (l.take i)++[32]=preP l i:=(if_neg h).symm
theorem qht {l:List It} {i:Nat} (h:i<l.length):qq (l.take (i+1))=zM l i++zQ (l.getD i qB):=by
 rw [qbt h]
 unfold zM
 split <;> rfl
theorem qhg {l:List Pt} {i:Nat} (h:i<l.length):zC (l.take (i+1))=preP l i++wY (l.getD i zU):=by
 rw [ZY h]
 unfold preP
 split <;> rfl
theorem preT_room {l:List It} {i:Nat} (h:i<l.length):(zM l i).length+(zQ (l.getD i qB)).length≤(qq l).length:=by
 have:=qjz l (i+1)
 rwa [qht h,List.length_append] at this
theorem preP_room {l:List Pt} {i:Nat} (h:i<l.length):(preP l i).length+(wY (l.getD i zU)).length≤(zC l).length:=by
 have:=qfc l (i+1)
 rwa [qhg h,List.length_append] at this
def wdVs (l:List Vo):Prop:=∀ i,i<l.length→∀ j,j<(l.getD i qD).2.length→wdL ((l.getD i qD).2.getD j zB).2.2∧jT ((l.getD i qD).2.getD j zB).2.2≤100000000
end Go.Proofs.YtmlnilkbolcknaaGreatDoor.Pm
namespace Go.Proofs.YtmlnilkbolcknaaGreatDoor.Gcd
def g (a b:Int):Int:=(Int.gcd a b:Int)

theorem g_pos {a b:Int} (h:0<b):1≤g a b:=by
 unfold g
 have:0<Int.gcd a b:=Int.gcd_pos_of_ne_zero_right a (by omega)
 omega
theorem g_le {a b:Int} (h:0<b):g a b≤b:=by
 unfold g
 exact Int.le_of_dvd h (Int.gcd_dvd_right a b)
theorem YP (a b:Int):g a b ∣ a:=Int.gcd_dvd_left a b
theorem QG (a b:Int):g a b ∣ b:=Int.gcd_dvd_right a b
theorem g_zero {a b:Int} (h:b=0):g a b=a.natAbs:=by subst h;simp [g]
theorem g_tmod (a b:Int):g b (a.tmod b)=g a b:=by
 unfold g
 congr 1
 simp only [Int.gcd,Int.natAbs_tmod]
 rw [Nat.gcd_comm b.natAbs,← Nat.gcd_rec,Nat.gcd_comm]
theorem qcv (a b:Int):g a b=g b a:=by unfold g;rw [Int.gcd_comm]
theorem g_neg_left (a b:Int):g (-a) b=g a b:=by unfold g;rw [Int.neg_gcd]
theorem qfy (a b:Int):g (a-b) b=g a b:=by unfold g;rw [Int.gcd_sub_self_left]
theorem g_sub_right (a b:Int):g a (b-a)=g a b:=by rw [qcv,qfy,qcv]
theorem g_self {a:Int} (h:0≤a):g a a=a:=by unfold g;simp;omega
theorem g_two (a b:Int):g (2*a) (2*b)=2*g a b:=by unfold g;rw [Int.gcd_mul_left];simp
theorem g_even_even {a b:Int} (ha:a % 2=0) (hb:b % 2=0):2*g (a / 2) (b / 2)=g a b:=by
 rw [← g_two,Int.mul_ediv_cancel' (by omega),Int.mul_ediv_cancel' (by omega)]
theorem qav {a b:Int} (ha:a % 2=0) (hb:b % 2≠0):g (a / 2) b=g a b:=by
 have h1:a=2*(a / 2):=by omega
 have h2:Nat.Coprime b.natAbs 2:=by
  have:b.natAbs % 2=1:=by omega
  rw [Nat.coprime_iff_gcd_eq_one,Nat.gcd_comm,Nat.gcd_rec,this,Nat.gcd_one_left]
 unfold g
 congr 1
 conv=>rhs;rw [h1]
 simp only [Int.gcd,Int.natAbs_mul]
 rw [show (2:Int).natAbs=2 from rfl]
 exact (Nat.Coprime.gcd_mul_left_cancel _ h2.symm).symm
theorem g_odd_even {a b:Int} (ha:a % 2≠0) (hb:b % 2=0):g a (b / 2)=g a b:=by
 rw [qcv,qav hb ha,qcv]

def twin (a b:Int) (t:Nat) (G:Int):Prop:=0<a∧0<b∧2 ^ t*g a b=G
theorem twin_half {a b:Int} {t:Nat} {G:Int} (h:twin a b t G) (ha:a % 2=0) (hb:b % 2=0):twin (a / 2) (b / 2) (t+1) G :=
 ⟨by have:=h.1;omega,by have:=h.2.1;omega,by
  have:=h.2.2
  rw [← g_even_even ha hb,← Int.mul_assoc] at this
  rw [Int.pow_succ];exact this⟩
theorem jS (t:Nat):(1:Int)≤2 ^ t:=by
 have h:1≤2 ^ t:=Nat.one_le_two_pow
 calc (1:Int)≤((2 ^ t:Nat):Int):=by omega
  _=2 ^ t:=by simp
theorem twin_k {a b:Int} {t:Nat} {G:Int} (h:twin a b t G):(t:Int)<G∧g a b≤G:=by
 obtain ⟨h1,h2,h3⟩:=h
 have hg:=g_pos (a:=a) h2
 have h4:t<2 ^ t:=Nat.lt_two_pow_self
 have h5:(t:Int)<2 ^ t:=by
  have:(t:Int)<((2 ^ t:Nat):Int):=by omega
  simpa using this
 have h6:(2:Int) ^ t*1≤2 ^ t*g a b:=Int.mul_le_mul_of_nonneg_left hg (by omega)
 have h7:(1:Int)*g a b≤2 ^ t*g a b:=Int.mul_le_mul_of_nonneg_right (by omega) (by omega)
 omega

def QM (G:Int) (x y:Int):Prop:=0<x∧0<y∧g x y=G∧¬ (x % 2=0∧y % 2=0)
theorem single_left {G x y:Int} (h:QM G x y) (hx:x % 2=0):QM G (x / 2) y:=by
 obtain ⟨h1,h2,h3,h4⟩:=h
 exact ⟨by omega,h2,by rw [qav hx (by omega)];exact h3,by omega⟩
theorem qiu {G x y:Int} (h:QM G x y) (hx:x % 2≠0) (hy:y % 2=0):QM G x (y / 2):=by
 obtain ⟨h1,h2,h3,h4⟩:=h
 exact ⟨h1,by omega,by rw [g_odd_even hx hy];exact h3,by omega⟩
theorem single_less {G x y:Int} (h:QM G x y) (_hx:x % 2≠0) (_hy:y % 2≠0) (hl:y<x):QM G (x-y) y:=by
 obtain ⟨h1,h2,h3,h4⟩:=h
 exact ⟨by omega,h2,by rw [qfy];exact h3,by omega⟩
theorem single_more {G x y:Int} (h:QM G x y) (_hx:x % 2≠0) (_hy:y % 2≠0) (hl:x<y):QM G x (y-x):=by
 obtain ⟨h1,h2,h3,h4⟩:=h
 exact ⟨h1,by omega,by rw [g_sub_right];exact h3,by omega⟩
theorem single_end {G x:Int} (h:QM G x x):x=G:=by
 obtain ⟨h1,h2,h3,h4⟩:=h
 rw [← h3,g_self (by omega)]

def WT (G:Int) (x:Int) (t:Nat):Prop:=0<x∧2 ^ t*x=G
theorem doubled_le {G x:Int} {t:Nat} (h:WT G x t):x≤G∧(0<t→2*x≤G):=by
 obtain ⟨h1,h2⟩:=h
 have h6:(1:Int)*x≤2 ^ t*x:=Int.mul_le_mul_of_nonneg_right (jS t) (by omega)
 refine ⟨by omega,fun ht=>?_⟩
 obtain ⟨s,rfl⟩:∃ s,t=s+1:=⟨t-1,by omega⟩
 have h7:(1:Int)*(2*x)≤2 ^ s*(2*x):=Int.mul_le_mul_of_nonneg_right (jS s) (by omega)
 rw [Int.pow_succ,Int.mul_assoc] at h2
 omega
theorem qkh {G x:Int} {t:Nat} (h:WT G x (t+1)):WT G (2*x) t:=by
 obtain ⟨h1,h2⟩:=h
 exact ⟨by omega,by rw [Int.pow_succ,Int.mul_assoc] at h2;exact h2⟩
theorem doubled_end {G x:Int} (h:WT G x 0):x=G:=by
 obtain ⟨h1,h2⟩:=h
 simpa using h2
theorem doubled_of {a b:Int} {t:Nat} {G x:Int} (h:twin a b t G) (hx:x=g a b):WT G x t:=by
 have:=g_pos (a:=a) h.2.1
 exact ⟨by omega,by rw [hx];exact h.2.2⟩

def qkf (G:Int) (x y:Int):Prop :=
 -9223372036854775807≤y∧y≤9223372036854775807 ∧ -9223372036854775808≤x∧x≤9223372036854775807∧g x y=G∧(y=0 → -9223372036854775808<x)
theorem tmod_abs (x y:Int) (hy:y≠0):(x.tmod y).natAbs<y.natAbs:=by
 rw [Int.natAbs_tmod];exact Nat.mod_lt _ (by omega)
theorem euclid_step {G x y:Int} (h:qkf G x y) (hy:y≠0):qkf G y (x.tmod y):=by
 obtain ⟨h1,h2,h3,h4,h5,h6⟩:=h
 have:=tmod_abs x y hy
 exact ⟨by omega,by omega,by omega,by omega,by rw [g_tmod];exact h5,by omega⟩
theorem euclid_end {G x y:Int} (h:qkf G x y) (hy:y=0):max x (-x)=G ∧ -9223372036854775808<x:=by
 obtain ⟨h1,h2,h3,h4,h5,h6⟩:=h
 rw [g_zero hy] at h5
 exact ⟨by omega,h6 hy⟩

open Go.RowKit
set_option maxHeartbeats 400000 in
theorem qdy (a b:Int) (w:World) (hb:0<b) (hb':b≤9223372036854775807) (ha : -9223372036854775808≤a) (ha':a≤9223372036854775807) :
  Calls Tryz.prog 98 #[.int .i64 a,.int .i64 b] w fun e w'=>e = .returned (.int .i64 (g a b))∧∃ n,w'=w.drewN n:=by
 go_enter Tryz.func98,Tryz.ntmps98
 go_wp2
 go_loopw [0,1] (fun x y wr=>∃ p q:Int,x = .int .i64 p∧y = .int .i64 q∧qkf (g a b) p q∧∃ n,wr=w.drewN n) (fun _ y _=>(intOf y).natAbs)
 case atStart=>exact ⟨a,b,rfl,rfl,⟨by omega,hb',ha,ha',rfl,by omega⟩,0,rfl⟩
 case round =>
  obtain ⟨p,q,rfl,rfl,hE,n,rfl⟩:=hrel
  obtain ⟨e1,e2,e3,e4,e5,e6⟩:=id hE
  have HE:=Lib.hid hE
  clear hE e5 e6
  by_cases hq:q=0
  ·have hend:=euclid_end HE.out hq
   have h1:=hend.2
   have HM:=Lib.hid hend.1
   clear hend
   go_wp2
   all_goals
    go_ret
    exact ⟨jH (by rw [← HM.out] <;> omega),n,rfl⟩
  ·have HS:=Lib.hid (euclid_step HE.out hq)
   have ht:=tmod_abs p q hq
   go_wp2
   go_quiet (fail)
   go_wp2
   go_roundw
   case rel=>exact ⟨q,p.tmod q,rfl,rfl,HS.out,n+nq,by simp⟩
   case measure=>exact ht

theorem small_any (n:Int) (w:World) :
  Calls Tryz.prog 99 #[.int .i64 n] w fun e w'=>e = .returned (.bool (decide (-1073741824≤n∧n≤1073741824)))∧w=w':=by
 by_cases h : -1073741824≤n
 ·go_enter Tryz.func99,Tryz.ntmps99
  go_wp2
  go_ret
  exact ⟨yO (by simp [h]),rfl⟩
 ·go_enter Tryz.func99,Tryz.ntmps99
  go_wp2
  go_ret
  exact ⟨yO (by simp;omega),rfl⟩

theorem abs_any (n:Int) (w:World) (h1 : -9223372036854775808<n) (h2:n≤9223372036854775807) :
  Calls Tryz.prog 55 #[.int .i64 n] w fun e w'=>e = .returned (.int .i64 (n.natAbs:Int))∧w=w':=by
 go_enter Tryz.func55,Tryz.ntmps55
 go_wp2
 all_goals
  go_ret
  exact ⟨jH (by omega),rfl⟩


set_option maxHeartbeats 1000000 in
theorem QI (a b:Int) (w:World) (ha:0≤a) (ha':a≤9223372036854775807) (hb:0<b) (hb':b≤9223372036854775807) :
  Calls Tryz.prog 54 #[.int .i64 a,.int .i64 b] w fun e w'=>e = .returned (.int .i64 (g a b))∧w=w':=by
 by_cases h0:a=0
 ·have HG:=Lib.hid (show g a b=b by rw [qcv,g_zero h0];omega)
  go_enter Tryz.func54,Tryz.ntmps54
  go_wp2
  go_ret
  exact ⟨jH (HG.out.symm),rfl⟩
 ·go_enter Tryz.func54,Tryz.ntmps54
  go_wp2
  go_loop [0,1,5] (fun x y t=>∃ (p q:Int) (k:Nat),x = .int .i64 p∧y = .int .i64 q∧t = .int .i64 k∧p≤a∧q≤b∧twin p q k (g a b)) (fun x _ _=>(intOf x).toNat)
  case atStart=>exact ⟨a,b,0,rfl,rfl,rfl,by omega,by omega,by omega,by omega,by simp⟩
  case round =>
   obtain ⟨p,q,k,rfl,rfl,rfl,hp,hq,hT⟩:=hrel
   have hp0:=hT.1
   have hq0:=hT.2.1
   have hk:=twin_k hT
   have hG:=g_le (a:=a) hb
   have HT:=Lib.hid hT
   clear hT
   by_cases h2:p % 2=0∧q % 2=0
   ·obtain ⟨h3,h4⟩:=h2
    have HS:=Lib.hid (twin_half HT.out h3 h4)
    go_wp2
    go_round
    case rel=>exact ⟨p / 2,q / 2,k+1,rfl,rfl,by go_num,by omega,by omega,HS.out⟩
    case measure=>(simp [intOf] <;> omega)
   ·have HS:=Lib.hid (show QM (g p q) p q from ⟨hp0,hq0,rfl,h2⟩)
    have hb3:p % 2=0→q % 2≠0:=by omega
    clear h2
    by_cases h3:p % 2=0
    all_goals
     go_wp2
     go_loop [0,1] (fun x y=>∃ (r s:Int),x = .int .i64 r∧y = .int .i64 s∧r≤9223372036854775807∧s≤9223372036854775807∧QM (g p q) r s) (fun x y=>(intOf x+intOf y).toNat)
     case atStart=>exact ⟨p,q,rfl,rfl,by omega,by omega,HS.out⟩
     case round =>
      clear h3 hb3
      obtain ⟨r,s,rfl,rfl,hr,hs,hI⟩:=hrel
      have hr0:=hI.1
      have hs0:=hI.2.1
      have HI:=Lib.hid hI
      clear hI
      by_cases he:r=s
      ·subst he
       have HD:=Lib.hid (doubled_of HT.out (single_end HI.out))
       go_wp2
       go_loop [0,5] (fun x t=>∃ (u:Int) (m:Nat),x = .int .i64 u∧t = .int .i64 m∧m≤k∧WT (g a b) u m) (fun _ t=>(intOf t).toNat)
       case atStart=>exact ⟨r,k,rfl,rfl,Nat.le_refl _,HD.out⟩
       case round =>
        obtain ⟨u,m,rfl,rfl,hm,hdd⟩:=hrel
        have hu:=doubled_le hdd
        have hu0:=hdd.1
        have HDD:=Lib.hid hdd
        clear hdd
        rcases m with _|m
        ·go_wp2
         go_ret
         exact ⟨jH (doubled_end HDD.out),rfl⟩
        ·have hu2:=hu.2 (by omega)
         go_wp2
         go_round
         case rel=>exact ⟨2*u,m,rfl,by go_num,by omega,qkh HDD.out⟩
         case measure=>(simp [intOf] <;> omega)
      ·by_cases k1:r % 2=0
       ·go_wp2
        go_round
        case rel=>exact ⟨r / 2,s,rfl,rfl,by omega,by omega,single_left HI.out k1⟩
        case measure=>(simp [intOf] <;> omega)
       ·by_cases k2:s % 2=0
        ·go_wp2
         go_round
         case rel=>exact ⟨r,s / 2,rfl,rfl,by omega,by omega,qiu HI.out k1 k2⟩
         case measure=>(simp [intOf] <;> omega)
        ·by_cases k3:s<r
         ·go_wp2
          go_round
          case rel=>exact ⟨r-s,s,rfl,rfl,by omega,by omega,single_less HI.out k1 k2 k3⟩
          case measure=>(simp [intOf] <;> omega)
         ·go_wp2
          go_round
          case rel=>exact ⟨r,s-r,rfl,rfl,by omega,by omega,single_more HI.out k1 k2 (by omega)⟩
          case measure=>(simp [intOf] <;> omega)

end Go.Proofs.YtmlnilkbolcknaaGreatDoor.Gcd
namespace Go.Proofs.YtmlnilkbolcknaaGreatDoor.Fr
open Gcd
def jq (n:Int):Bool:=decide (-1073741824≤n∧n≤1073741824)
def rightB (u d:Int):Bool:=decide (0<d∧d≤1073741824 ∧ -1073741824≤u∧u≤1073741824∧g u d=1)
theorem rightB_iff {u d:Int}:rightB u d=true↔0<d∧d≤1073741824 ∧ -1073741824≤u∧u≤1073741824∧g u d=1:=by simp [rightB]
theorem vZ {u:Int}:jq u=true ↔ -1073741824≤u∧u≤1073741824:=by simp [jq]
def make (u d:Int):Int × Int × Int :=
 if d<1 then (0,0,3) else if jq (u / g u d) && jq (d / g u d) then (u / g u d,d / g u d,0) else (0,0,4)
def plus (a b c d:Int):Int × Int × Int:=if rightB a b && rightB c d then make (a*d+c*b) (b*d) else (0,0,2)
def times (a b c d:Int):Int × Int × Int:=if rightB a b && rightB c d then make (a*c) (b*d) else (0,0,2)
def over (a b c d:Int):Int × Int × Int:=if rightB a b && rightB c d then (if c<0 then make (-a*d) (-b*c) else make (a*d) (b*c)) else (0,0,2)
def signI (n:Int):Int:=if n<0 then -1 else if 0<n then 1 else 0
def order (a b c d:Int):Int × Int:=if rightB a b && rightB c d then (signI (a*d-c*b),0) else (0,2)
theorem down {u d:Int} (hd:1≤d):0<d / g u d∧g (u / g u d) (d / g u d)=1∧u*(d / g u d)=u / g u d*d:=by
 have hp:=g_pos (a:=u) (b:=d) (by omega)
 have h1:=Int.ediv_mul_cancel (YP u d)
 have h2:=Int.ediv_mul_cancel (QG u d)
 have hpos:0<d / g u d:=Int.ediv_pos_of_pos_of_dvd (by omega) (by omega) (QG u d)
 refine ⟨hpos,?_,?_⟩
 ·have:=Int.gcd_ediv_gcd_ediv_gcd (i:=u) (j:=d) (by unfold g at hp;omega)
  unfold g
  omega
 ·generalize hG:g u d=G at *
  generalize u / G=a at *
  generalize d / G=b at *
  grind

theorem qdt {u d p q:Int} (h:make u d=(p,q,0)):1≤d∧rightB p q=true∧u*q=p*d:=by
 unfold make at h
 split at h
 ·simp at h
 ·rename_i hd
  have hd':1≤d:=by omega
  obtain ⟨k1,k2,k3⟩:=down (u:=u) hd'
  split at h
  ·rename_i hs
   simp only [Bool.and_eq_true,vZ] at hs
   simp only [Prod.mk.injEq,and_true] at h
   obtain ⟨rfl,rfl⟩:=h
   exact ⟨hd',rightB_iff.2 ⟨k1,hs.2.2,hs.1.1,hs.1.2,k2⟩,k3⟩
  ·simp at h

theorem make_range (u d:Int):(-1073741824≤(make u d).1∧(make u d).1≤1073741824)∧(-1073741824≤(make u d).2.1∧(make u d).2.1≤1073741824)∧(0≤(make u d).2.2∧(make u d).2.2≤4):=by
 unfold make
 split
 ·simp
 ·split
  ·rename_i h
   simp only [Bool.and_eq_true,vZ] at h
   simp only
   omega
  ·simp

theorem plus_ok {a b c d p q:Int} (h:plus a b c d=(p,q,0)):rightB a b=true∧rightB c d=true∧rightB p q=true∧(a*d+c*b)*q=p*(b*d):=by
 unfold plus at h
 split at h
 ·rename_i hr
  simp only [Bool.and_eq_true] at hr
  have:=qdt h
  exact ⟨hr.1,hr.2,this.2.1,this.2.2⟩
 ·simp at h
theorem times_ok {a b c d p q:Int} (h:times a b c d=(p,q,0)):rightB a b=true∧rightB c d=true∧rightB p q=true∧(a*c)*q=p*(b*d):=by
 unfold times at h
 split at h
 ·rename_i hr
  simp only [Bool.and_eq_true] at hr
  have:=qdt h
  exact ⟨hr.1,hr.2,this.2.1,this.2.2⟩
 ·simp at h
/-! The floor and the order. -/
open Go.RowKit
theorem jZ (n:Int) (w:World) :
  Calls Tryz.prog 99 #[.int .i64 n] w fun e w'=>e = .returned (.bool (jq n))∧w=w':=small_any n w

def I64 (n:Int):Prop := -9223372036854775808≤n∧n≤9223372036854775807

set_option maxHeartbeats 1000000 in
theorem right_any (u d:Int) (w:World) (hu:I64 u) (hd:I64 d) :
  Calls Tryz.prog 101 #[.agg #[.int .i64 u,.int .i64 d]] w fun e w'=>e = .returned (.bool (rightB u d))∧Below w.heap.size w w':=by
 unfold I64 at hu hd
 by_cases h1:0<d
 ·by_cases h2:jq u=true
  ·by_cases h3:jq d=true
   ·go_enter Tryz.func101,Tryz.ntmps101
    go_wp2_with (first
     | (go_at_call 99;refine (jZ _ _).mono ?_;rintro e w' ⟨rfl,rfl⟩)
     | (go_at_call 98;refine (qdy _ _ _ h1 hd.2 hu.1 hu.2).mono ?_;rintro e w' ⟨rfl,n,rfl⟩))
    go_ret
    refine ⟨yO ?_,qz ((Below.refl _ _).alloc (Nat.le_refl _) _) _⟩
    rw [Bool.eq_iff_iff,rightB_iff]
    simp only [vZ] at h2 h3
    simp
    omega
   ·go_enter Tryz.func101,Tryz.ntmps101
    go_wp2_with (go_at_call 99;refine (jZ _ _).mono ?_;rintro e w' ⟨rfl,rfl⟩)
    go_ret
    refine ⟨yO ?_,(Below.refl _ _).alloc (Nat.le_refl _) _⟩
    rw [eq_comm,← Bool.not_eq_true,rightB_iff]
    rw [vZ] at h3
    omega
  ·go_enter Tryz.func101,Tryz.ntmps101
   go_wp2_with (go_at_call 99;refine (jZ _ _).mono ?_;rintro e w' ⟨rfl,rfl⟩)
   go_ret
   refine ⟨yO ?_,(Below.refl _ _).alloc (Nat.le_refl _) _⟩
   rw [eq_comm,← Bool.not_eq_true,rightB_iff]
   rw [vZ] at h2
   omega
 ·go_enter Tryz.func101,Tryz.ntmps101
  go_wp2
  go_ret
  refine ⟨yO ?_,(Below.refl _ _).alloc (Nat.le_refl _) _⟩
  rw [eq_comm,← Bool.not_eq_true,rightB_iff]
  omega

theorem abs_g (u d:Int):g (u.natAbs:Int) d=g u d:=by
 unfold g;simp [Int.gcd]

set_option maxHeartbeats 1000000 in
theorem ref_right_any (u d:Int) (w:World) (hu:I64 u) (hd:I64 d) :
  Calls Tryz.prog 56 #[.agg #[.int .i64 u,.int .i64 d]] w fun e w'=>e = .returned (.bool (rightB u d))∧Below w.heap.size w w':=by
 unfold I64 at hu hd
 by_cases h1:0<d
 ·by_cases h2:d≤1073741824
  ·by_cases h3:u≤1073741824
   ·by_cases h4 : -1073741824≤u
    ·have Hg:=Lib.hid (abs_g u d)
     go_enter Tryz.func56,Tryz.ntmps56
     go_wp2
     go_quiet (first
      | (go_at_call 55;exact qak (abs_any _ _ (by omega) (by omega)))
      | (go_at_call 54;exact qak (QI _ _ _ (by omega) (by omega) (by omega) (by omega))))
     go_wp2
     go_ret
     refine ⟨yO ?_,qz ((Below.refl _ _).alloc (Nat.le_refl _) _) _⟩
     rw [Hg.out,Bool.eq_iff_iff,rightB_iff]
     simp
     omega
    ·have hd:decide (-1073741824≤u)=false:=by simpa using h4
     go_enter Tryz.func56,Tryz.ntmps56
     go_wp2
     go_quiet (fail)
     go_wp2
     go_ret
     refine ⟨yO ?_,qz ((Below.refl _ _).alloc (Nat.le_refl _) _) _⟩
     rw [eq_comm,← Bool.not_eq_true,rightB_iff]
     omega
   ·have hd:decide (u≤1073741824)=false:=by simpa using h3
    go_enter Tryz.func56,Tryz.ntmps56
    go_wp2
    go_quiet (fail)
    go_wp2
    go_ret
    refine ⟨yO ?_,qz ((Below.refl _ _).alloc (Nat.le_refl _) _) _⟩
    rw [eq_comm,← Bool.not_eq_true,rightB_iff]
    omega
  ·have hd:decide (d≤1073741824)=false:=by simpa using h2
   go_enter Tryz.func56,Tryz.ntmps56
   go_wp2
   go_quiet (fail)
   go_wp2
   go_ret
   refine ⟨yO ?_,qz ((Below.refl _ _).alloc (Nat.le_refl _) _) _⟩
   rw [eq_comm,← Bool.not_eq_true,rightB_iff]
   omega
 ·have hd:decide (0<d)=false:=by simpa using h1
  go_enter Tryz.func56,Tryz.ntmps56
  go_wp2
  go_quiet (fail)
  go_wp2
  go_ret
  refine ⟨yO ?_,qz ((Below.refl _ _).alloc (Nat.le_refl _) _) _⟩
  rw [eq_comm,← Bool.not_eq_true,rightB_iff]
  omega

theorem quo_in (x k:Int) (hk:1≤k) (hx:I64 x):I64 (x / k):=by
 unfold I64 at *
 constructor
 ·rw [Int.le_ediv_iff_mul_le (by omega)]
  rcases Int.lt_or_le x 0 with h|h <;> omega
 ·rcases Int.lt_or_le x 0 with h|h
  ·have:=Int.ediv_neg_of_neg_of_pos h (show 0<k by omega);omega
  ·have:=Int.ediv_le_self (a:=x) k h;omega
theorem qbg (x k:Int) (hk:1≤k) (hd:k ∣ x) (hx:I64 x):IntKind.i64.wrap (x.tdiv k)=x / k:=by
 rw [Int.tdiv_eq_ediv_of_dvd hd];exact IntWalk.i64_in _ (quo_in x k hk hx)
theorem WM (u d:Int) (h:¬ d<1):make u d=if jq (u / g u d) && jq (d / g u d) then (u / g u d,d / g u d,0) else (0,0,4):=by
 unfold make;rw [if_neg h]

def jY (u d:Int):Value:=.tuple #[.agg #[.int .i64 (make u d).1,.int .i64 (make u d).2.1],.int .i64 (make u d).2.2]

set_option maxHeartbeats 1000000 in
theorem qfq (u d:Int) (w:World) (hu:I64 u) (hd:I64 d) :
  Calls Tryz.prog 65 #[.int .i64 u,.int .i64 d] w fun e w'=>e = .returned (jY u d)∧Below w.heap.size w w':=by
 by_cases h1:d<1
 ·go_enter Tryz.func65,Tryz.ntmps65
  go_wp2
  refine bodyPost_ret (v:=.tuple #[.agg #[.int .i64 0,.int .i64 0],.int .i64 3]) (by simp [results,Tryz.results65,go_sem]) rfl ⟨by simp [jY,make,h1],(by repeat (first|exact Below.refl _ _|assumption|refine qz ?_ _|refine Below.drew ?_|refine zJ ?_ _|refine Below.setCell ?_ (by first|omega|(simp <;> omega)) _|refine zD (by assumption) ?_))⟩
 ·have hg:=g_pos (a:=u) (b:=d) (by omega)
  have hw1:=qbg u (g u d) hg (YP u d) hu
  have hw2:=qbg d (g u d) hg (QG u d) hd
  have hg0:g u d≠0:=by omega
  unfold I64 at hu hd
  have HM:=Lib.hid (WM u d h1)
  by_cases h2:jq (u / g u d)=true
  ·by_cases h3:jq (d / g u d)=true
   ·go_enter Tryz.func65,Tryz.ntmps65
    go_wp2_with (go_at_call 98;refine (qdy _ _ _ (by omega) hd.2 hu.1 hu.2).mono ?_;rintro e w' ⟨rfl,n,rfl⟩)
    go_region
    all_goals
     go_wp2_with (go_at_call 99;refine (jZ _ _).mono ?_;rintro e w' ⟨rfl,rfl⟩)
     exact bodyPost_ret (v:=.tuple #[.agg #[.int .i64 (u / g u d),.int .i64 (d / g u d)],.int .i64 0]) (by simp [results,Tryz.results65,go_sem]) rfl ⟨by rw [jY,HM.out,h2,h3];rfl,(by repeat (first|exact Below.refl _ _|assumption|refine qz ?_ _|refine Below.drew ?_|refine zJ ?_ _|refine Below.setCell ?_ (by first|omega|(simp <;> omega)) _|refine zD (by assumption) ?_))⟩
   ·simp only [Bool.not_eq_true] at h3
    go_enter Tryz.func65,Tryz.ntmps65
    go_wp2_with (go_at_call 98;refine (qdy _ _ _ (by omega) hd.2 hu.1 hu.2).mono ?_;rintro e w' ⟨rfl,n,rfl⟩)
    go_region
    all_goals
     go_wp2_with (go_at_call 99;refine (jZ _ _).mono ?_;rintro e w' ⟨rfl,rfl⟩)
     exact bodyPost_ret (v:=.tuple #[.agg #[.int .i64 0,.int .i64 0],.int .i64 4]) (by simp [results,Tryz.results65,go_sem]) rfl ⟨by rw [jY,HM.out,h2,h3];rfl,(by repeat (first|exact Below.refl _ _|assumption|refine qz ?_ _|refine Below.drew ?_|refine zJ ?_ _|refine Below.setCell ?_ (by first|omega|(simp <;> omega)) _|refine zD (by assumption) ?_))⟩
  ·simp only [Bool.not_eq_true] at h2
   go_enter Tryz.func65,Tryz.ntmps65
   go_wp2_with (go_at_call 98;refine (qdy _ _ _ (by omega) hd.2 hu.1 hu.2).mono ?_;rintro e w' ⟨rfl,n,rfl⟩)
   go_region
   all_goals
    go_wp2_with (go_at_call 99;refine (jZ _ _).mono ?_;rintro e w' ⟨rfl,rfl⟩)
    exact bodyPost_ret (v:=.tuple #[.agg #[.int .i64 0,.int .i64 0],.int .i64 4]) (by simp [results,Tryz.results65,go_sem]) rfl ⟨by rw [jY,HM.out,h2];rfl,(by repeat (first|exact Below.refl _ _|assumption|refine qz ?_ _|refine Below.drew ?_|refine zJ ?_ _|refine Below.setCell ?_ (by first|omega|(simp <;> omega)) _|refine zD (by assumption) ?_))⟩

/-! The qhr number: its odd part is 1. -/
theorem g_pow_odd (j:Nat) {q:Int} (hq:q % 2≠0):g (2 ^ j) q=1:=by
 induction j with
 | zero=>simp [g]
 | succ j ih =>
  have h:=qav (a:=2 ^ (j+1)) (b:=q) (by rw [Int.pow_succ];omega) hq
  rw [← h,Int.pow_succ,Int.mul_ediv_cancel _ (by omega)];exact ih
def qhr (d p q:Int):Prop:=∃ k:Nat,k≤63∧p = -(2 ^ (63-k))∧q*2 ^ k=d∧0<q
theorem least_bd {d p q:Int} (h:qhr d p q) (hd:d≤9223372036854775807) : -9223372036854775808≤p∧p<0∧0<q∧q≤d:=by
 obtain ⟨k,hk,rfl,rfl,hq⟩:=h
 have h1:(2:Int) ^ (63-k)≤2 ^ 63:=by
  have:2 ^ (63-k)≤2 ^ 63:=Nat.pow_le_pow_right (by omega) (by omega)
  have e:=Int.ofNat_le.2 this
  simpa using e
 have h2:=jS (63-k)
 have h3:q*1≤q*2 ^ k:=Int.mul_le_mul_of_nonneg_left (jS k) (by omega)
 omega
theorem least_step {d p q:Int} (h:qhr d p q) (hd:d≤9223372036854775807) (hq2:q % 2=0):qhr d (p / 2) (q / 2)∧p.tdiv 2=p / 2:=by
 obtain ⟨k,hk,rfl,rfl,hq⟩:=h
 have hk2:k<63:=by
  rcases Nat.lt_or_ge k 63 with h|h
  ·exact h
  ·have:k=63:=by omega
   subst this
   omega
 have e:(2:Int) ^ (63-k)=2 ^ (63-(k+1))*2:=by rw [← Int.pow_succ];congr 1;omega
 refine ⟨⟨k+1,by omega,?_,?_,by omega⟩,?_⟩
 ·rw [e];omega
 ·rw [Int.pow_succ,Int.mul_comm (2 ^ k) 2,← Int.mul_assoc,Int.ediv_mul_cancel (by omega)]
 ·rw [e];generalize (2:Int) ^ (63-(k+1))=t;rw [Int.tdiv_eq_ediv_of_dvd ⟨-t,by omega⟩]
theorem least_end {d p q:Int} (h:qhr d p q) (hq2:q % 2≠0) : -9223372036854775808 / g (-9223372036854775808) d=p∧d / g (-9223372036854775808) d=q:=by
 obtain ⟨k,hk,rfl,rfl,hq⟩:=h
 have e:(-9223372036854775808:Int)=2 ^ k * -(2 ^ (63-k)):=by
  rw [Int.mul_neg,← Int.pow_add,show k+(63-k)=63 by omega];rfl
 have hp:=jS k
 have hg:g (-9223372036854775808) (q*2 ^ k)=2 ^ k:=by
  rw [e,Int.mul_comm q]
  unfold g
  rw [Int.gcd_mul_left]
  have h1:=g_pow_odd (63-k) hq2
  rw [← g_neg_left] at h1
  unfold g at h1
  rw [show (-(2:Int) ^ (63-k)).gcd q=1 by omega]
  have:((2:Int) ^ k).natAbs=2 ^ k:=by rw [Int.natAbs_pow];rfl
  rw [this];simp
 rw [hg]
 constructor
 ·rw [e,Int.mul_ediv_cancel_left _ (by omega)]
 ·rw [Int.mul_ediv_cancel _ (by omega)]

set_option maxHeartbeats 1000000 in
theorem qew (d:Int) (w:World) (hd:I64 d) :
  Calls Tryz.prog 21 #[.int .i64 (-9223372036854775808),.int .i64 d] w fun e w'=>e = .returned (jY (-9223372036854775808) d)∧Below w.heap.size w w':=by
 unfold I64 at hd
 by_cases h1:d<1
 ·go_enter Tryz.func21,Tryz.ntmps21
  go_wp2
  refine bodyPost_ret (v:=.tuple #[.agg #[.int .i64 0,.int .i64 0],.int .i64 3]) (by simp [results,Tryz.results21,go_sem]) rfl ⟨by simp [jY,make,h1],(by repeat (first|exact Below.refl _ _|assumption|refine qz ?_ _|refine Below.drew ?_|refine zJ ?_ _|refine Below.setCell ?_ (by first|omega|(simp <;> omega)) _|refine zD (by assumption) ?_))⟩
 ·have HM:=Lib.hid (WM (-9223372036854775808) d h1)
  have hw:wrap64 9223372036854775808 = -9223372036854775808:=by unfold wrap64;decide
  go_enter Tryz.func21,Tryz.ntmps21
  go_wp2
  go_loop [0,1] (fun x y=>∃ p q:Int,x = .int .i64 p∧y = .int .i64 q∧qhr d p q) (fun _ y=>(intOf y).toNat)
  case atStart=>exact ⟨_,_,rfl,rfl,0,by omega,rfl,by simp,by omega⟩
  case round =>
   obtain ⟨p,q,rfl,rfl,hL⟩:=hrel
   obtain ⟨b1,b2,b3,b4⟩:=least_bd hL hd.2
   have HL:=Lib.hid hL
   clear hL
   by_cases hq:q % 2=0
   ·have hs:=least_step HL.out hd.2 hq
    have HS:=Lib.hid hs.1
    have ht:=hs.2
    clear hs
    go_wp2
    go_round
    case rel=>exact ⟨p / 2,q / 2,rfl,rfl,HS.out⟩
    case measure=>(simp [intOf] <;> omega)
   ·have he:=least_end HL.out hq
    have HE:=Lib.hid he
    clear he
    by_cases c : -1073741824≤p∧q≤1073741824
    ·obtain ⟨c1,c2⟩:=c
     go_wp2
     exact bodyPost_ret (v:=.tuple #[.agg #[.int .i64 p,.int .i64 q],.int .i64 0]) (by simp [results,Tryz.results21,go_sem]) rfl
      ⟨by rw [jY,HM.out,HE.out.1,HE.out.2,if_pos (by simp [vZ];omega)],(by repeat (first|exact Below.refl _ _|assumption|refine qz ?_ _|refine Below.drew ?_|refine zJ ?_ _|refine Below.setCell ?_ (by first|omega|(simp <;> omega)) _|refine zD (by assumption) ?_))⟩
    ·have HN:=Lib.hid c
     have c' : -1073741824≤p→1073741824<q:=by omega
     clear c
     go_wp2
     all_goals
      exact bodyPost_ret (v:=.tuple #[.agg #[.int .i64 0,.int .i64 0],.int .i64 4]) (by simp [results,Tryz.results21,go_sem]) rfl
       ⟨by rw [jY,HM.out,HE.out.1,HE.out.2,if_neg (by have:=HN.out;simp [vZ];omega)],(by repeat (first|exact Below.refl _ _|assumption|refine qz ?_ _|refine Below.drew ?_|refine zJ ?_ _|refine Below.setCell ?_ (by first|omega|(simp <;> omega)) _|refine zD (by assumption) ?_))⟩

set_option maxHeartbeats 1000000 in
theorem qgs (d:Int) (w:World) (hd:I64 d) (h1:¬ d<1) :
  Calls Tryz.prog 21 #[.int .i64 0,.int .i64 d] w fun e w'=>e = .returned (jY 0 d)∧Below w.heap.size w w':=by
 have e0:g 0 d=d:=by rw [qcv,g_zero rfl];omega
 have e1:d / d=1:=Int.ediv_self (by omega)
 have HM:=Lib.hid (show make 0 d=(0,1,0) by rw [WM 0 d h1,e0,e1,Int.zero_ediv];rfl)
 have hw1:IntKind.i64.wrap (Int.tdiv 0 d)=0:=by rw [Int.zero_tdiv];rfl
 have hw2:IntKind.i64.wrap (d.tdiv d)=1:=by rw [Int.tdiv_self (by omega)];rfl
 have hd0:d≠0:=by omega
 unfold I64 at hd
 go_enter Tryz.func21,Tryz.ntmps21
 go_wp2_with (first
  | (go_at_call 55;refine (abs_any _ _ (by omega) (by omega)).mono ?_;rintro e w' ⟨rfl,rfl⟩)
  | (go_at_call 54;refine (QI _ _ _ (by omega) (by omega) (by omega) (by omega)).mono ?_;rintro e w' ⟨rfl,rfl⟩))
 go_region
 all_goals
  go_wp2
  exact bodyPost_ret (v:=.tuple #[.agg #[.int .i64 0,.int .i64 1],.int .i64 0]) (by simp [results,Tryz.results21,go_sem]) rfl ⟨by rw [jY,HM.out],(by repeat (first|exact Below.refl _ _|assumption|refine qz ?_ _|refine Below.drew ?_|refine zJ ?_ _|refine Below.setCell ?_ (by first|omega|(simp <;> omega)) _|refine zD (by assumption) ?_))⟩

set_option maxHeartbeats 1000000 in
theorem qjh (u d:Int) (w:World) (hu:I64 u) (hd:I64 d) (hl : -9223372036854775808<u) :
  Calls Tryz.prog 21 #[.int .i64 u,.int .i64 d] w fun e w'=>e = .returned (jY u d)∧Below w.heap.size w w':=by
 by_cases h1:d<1
 ·go_enter Tryz.func21,Tryz.ntmps21
  go_wp2
  refine bodyPost_ret (v:=.tuple #[.agg #[.int .i64 0,.int .i64 0],.int .i64 3]) (by simp [results,Tryz.results21,go_sem]) rfl ⟨by simp [jY,make,h1],(by repeat (first|exact Below.refl _ _|assumption|refine qz ?_ _|refine Below.drew ?_|refine zJ ?_ _|refine Below.setCell ?_ (by first|omega|(simp <;> omega)) _|refine zD (by assumption) ?_))⟩
 ·have hg:=g_pos (a:=u) (b:=d) (by omega)
  have hw1:=qbg u (g u d) hg (YP u d) hu
  have hw2:=qbg d (g u d) hg (QG u d) hd
  have hq1:=quo_in u (g u d) hg hu
  have hg0:g u d≠0:=by omega
  have hag:=abs_g u d
  have hlow : -9223372036854775808<u / g u d:=by
   rcases Int.lt_or_le u 0 with h|h
   ·have:=Int.lt_ediv_iff_mul_lt (a := -9223372036854775808) (b:=u) (c:=g u d) (by omega) (YP u d)
    rw [this];omega
   ·have:=Int.ediv_nonneg h (show 0≤g u d by omega);omega
  unfold I64 at hu hd hq1
  have HM:=Lib.hid (WM u d h1)
  by_cases hu0:u=0
  ·subst hu0
   exact qgs d w hd h1
  ·have he:(u == -u)=false:=by simp;omega
   by_cases c:jq (u / g u d)=true
   ·have HC:=Lib.hid c
    rw [vZ] at c
    by_cases c2:jq (d / g u d)=true
    ·have HC2:=Lib.hid c2
     rw [vZ] at c2
     go_enter Tryz.func21,Tryz.ntmps21
     go_wp2_with (first
     | (go_at_call 55;refine (abs_any _ _ (by omega) (by omega)).mono ?_;rintro e w' ⟨rfl,rfl⟩)
     | (go_at_call 54;refine (QI _ _ _ (by omega) (by omega) (by omega) (by omega)).mono ?_;rintro e w' ⟨rfl,rfl⟩))
     go_region
     all_goals
      go_wp2
      exact bodyPost_ret (v:=.tuple #[.agg #[.int .i64 (u / g u d),.int .i64 (d / g u d)],.int .i64 0]) (by simp [results,Tryz.results21,go_sem]) rfl ⟨by rw [jY,HM.out,HC.out,HC2.out];rfl,(by repeat (first|exact Below.refl _ _|assumption|refine qz ?_ _|refine Below.drew ?_|refine zJ ?_ _|refine Below.setCell ?_ (by first|omega|(simp <;> omega)) _|refine zD (by assumption) ?_))⟩
    ·simp only [Bool.not_eq_true] at c2
     have HC2:=Lib.hid c2
     have c3:1073741824<d / g u d:=by
      have:=Int.ediv_pos_of_pos_of_dvd (a:=d) (b:=g u d) (by omega) (by omega) (QG u d)
      rw [← Bool.not_eq_true,vZ] at c2;omega
     clear c2
     go_enter Tryz.func21,Tryz.ntmps21
     go_wp2_with (first
     | (go_at_call 55;refine (abs_any _ _ (by omega) (by omega)).mono ?_;rintro e w' ⟨rfl,rfl⟩)
     | (go_at_call 54;refine (QI _ _ _ (by omega) (by omega) (by omega) (by omega)).mono ?_;rintro e w' ⟨rfl,rfl⟩))
     exact bodyPost_ret (v:=.tuple #[.agg #[.int .i64 0,.int .i64 0],.int .i64 4]) (by simp [results,Tryz.results21,go_sem]) rfl ⟨by rw [jY,HM.out,HC.out,HC2.out];rfl,(by repeat (first|exact Below.refl _ _|assumption|refine qz ?_ _|refine Below.drew ?_|refine zJ ?_ _|refine Below.setCell ?_ (by first|omega|(simp <;> omega)) _|refine zD (by assumption) ?_))⟩
   ·simp only [Bool.not_eq_true] at c
    have HC:=Lib.hid c
    have c3:1073741824<((u / g u d).natAbs:Int):=by
     rw [← Bool.not_eq_true,vZ] at c;omega
    clear c
    go_enter Tryz.func21,Tryz.ntmps21
    go_wp2_with (first
     | (go_at_call 55;refine (abs_any _ _ (by omega) (by omega)).mono ?_;rintro e w' ⟨rfl,rfl⟩)
     | (go_at_call 54;refine (QI _ _ _ (by omega) (by omega) (by omega) (by omega)).mono ?_;rintro e w' ⟨rfl,rfl⟩))
    all_goals
     exact bodyPost_ret (v:=.tuple #[.agg #[.int .i64 0,.int .i64 0],.int .i64 4]) (by simp [results,Tryz.results21,go_sem]) rfl ⟨by rw [jY,HM.out,HC.out];rfl,(by repeat (first|exact Below.refl _ _|assumption|refine qz ?_ _|refine Below.drew ?_|refine zJ ?_ _|refine Below.setCell ?_ (by first|omega|(simp <;> omega)) _|refine zD (by assumption) ?_))⟩

theorem WA {n:Int} (h : -4611686018427387904≤n∧n≤4611686018427387904):I64 n:=by unfold I64;omega
theorem QD {u d:Int} (h:rightB u d=true):(-1073741824≤u∧u≤1073741824)∧(1≤d∧d≤1073741824):=by
 have:=rightB_iff.1 h;omega
theorem QC {x y:Int} (hx : -1073741824≤x∧x≤1073741824) (hy : -1073741824≤y∧y≤1073741824) : -1152921504606846976≤x*y∧x*y≤1152921504606846976:=by
 have h:(x*y).natAbs≤1073741824*1073741824:=by
  rw [Int.natAbs_mul];exact Nat.mul_le_mul (by omega) (by omega)
 omega
theorem three {n m:Nat} (h:n+1+1+1≤m):n<m∧n+1<m∧n+1+1<m:=by omega
def R3 (r:Int × Int × Int):Value:=.tuple #[.agg #[.int .i64 r.1,.int .i64 r.2.1],.int .i64 r.2.2]
theorem qbq (u d:Int):jY u d=R3 (make u d):=rfl

set_option maxHeartbeats 1000000 in
theorem qcd (a b c d:Int) (w:World) (ha:I64 a) (hb:I64 b) (hc:I64 c) (hd:I64 d) :
  Calls Tryz.prog 104 #[.agg #[.int .i64 a,.int .i64 b],.agg #[.int .i64 c,.int .i64 d]] w fun e w' =>
   e = .returned (.bool (rightB a b && rightB c d))∧Below w.heap.size w w':=by
 by_cases h1:rightB a b=true
 all_goals
  try simp only [Bool.not_eq_true] at h1
  go_enter Tryz.func104,Tryz.ntmps104
  go_wp2_with (first
   | (go_at_call 101;with_reducible refine (right_any a b _ ha hb).mono ?_;rintro e w1 ⟨rfl,hb1⟩;obtain ⟨hcc,hff⟩:=jV hb1)
   | (go_at_call 101;with_reducible refine (right_any c d _ hc hd).mono ?_;rintro e w2 ⟨rfl,hb2⟩))
  go_ret
  exact ⟨yO (by simp [h1]),(by repeat (first|exact Below.refl _ _|assumption|refine qz ?_ _|refine Below.drew ?_|refine zJ ?_ _|refine Below.setCell ?_ (by first|omega|(simp <;> omega)) _|refine zD (by assumption) ?_))⟩

set_option maxHeartbeats 1000000 in
theorem plus_yes (a b c d:Int) (w:World) (ha:I64 a) (hb:I64 b) (hc:I64 c) (hd:I64 d) (h1:(rightB a b && rightB c d)=true) :
  Calls Tryz.prog 69 #[.agg #[.int .i64 a,.int .i64 b],.agg #[.int .i64 c,.int .i64 d]] w fun e w' =>
   e = .returned (R3 (plus a b c d))∧Below w.heap.size w w':=by
  have HR:=Lib.hid (show plus a b c d=make (a*d+c*b) (b*d) by simp [plus,h1])
  have h1':=h1
  rw [Bool.and_eq_true] at h1'
  have k1:=QD h1'.1
  have k2:=QD h1'.2
  have p1:=QC k1.1 (y:=d) (by omega)
  have p2:=QC k2.1 (y:=b) (by omega)
  have p3:=QC (x:=b) (y:=d) (by omega) (by omega)
  clear h1'
  go_enter Tryz.func69,Tryz.ntmps69
  go_wp2_with (first
   | (go_at_call 104;refine (qcd a b c d _ ha hb hc hd).mono ?_;rintro e w1 ⟨rfl,hb1⟩;obtain ⟨hcc,hff⟩:=jV hb1;have hz:=hb1.size;simp at hz;obtain ⟨z1,z2,z3⟩:=three hz)
   | (go_at_call 65;refine (qfq (a*d+c*b) (b*d) _ (WA (by omega)) (WA (by omega))).mono ?_;rintro e w2 ⟨rfl,hb2⟩;rw [qbq,R3];obtain ⟨hcc2,hff2⟩:=jV hb2))
  exact bodyPost_ret (v:=R3 (make (a*d+c*b) (b*d))) (by simp [results,Tryz.results69,go_sem,R3,hcc2,hcc,z3]) rfl ⟨by rw [HR.out],(by repeat (first|exact Below.refl _ _|assumption|refine qz ?_ _|refine Below.drew ?_|refine zJ ?_ _|refine Below.setCell ?_ (by first|omega|(simp <;> omega)) _|refine zD (by assumption) ?_))⟩

set_option maxHeartbeats 1000000 in
theorem plus_no (a b c d:Int) (w:World) (ha:I64 a) (hb:I64 b) (hc:I64 c) (hd:I64 d) (h1:(rightB a b && rightB c d)=false) :
  Calls Tryz.prog 69 #[.agg #[.int .i64 a,.int .i64 b],.agg #[.int .i64 c,.int .i64 d]] w fun e w' =>
   e = .returned (R3 (plus a b c d))∧Below w.heap.size w w':=by
  have HR:=Lib.hid (show plus a b c d=(0,0,2) by simp [plus,h1])
  go_enter Tryz.func69,Tryz.ntmps69
  go_wp2_with (go_at_call 104;refine (qcd a b c d _ ha hb hc hd).mono ?_;rintro e w1 ⟨rfl,hb1⟩;obtain ⟨hcc,hff⟩:=jV hb1;have hz:=hb1.size;simp at hz;obtain ⟨z1,z2,z3⟩:=three hz)
  exact bodyPost_ret (v:=R3 (0,0,2)) (by simp [results,Tryz.results69,go_sem,R3,hcc]) rfl ⟨by rw [HR.out],(by repeat (first|exact Below.refl _ _|assumption|refine qz ?_ _|refine Below.drew ?_|refine zJ ?_ _|refine Below.setCell ?_ (by first|omega|(simp <;> omega)) _|refine zD (by assumption) ?_))⟩

theorem plus_any (a b c d:Int) (w:World) (ha:I64 a) (hb:I64 b) (hc:I64 c) (hd:I64 d) :
  Calls Tryz.prog 69 #[.agg #[.int .i64 a,.int .i64 b],.agg #[.int .i64 c,.int .i64 d]] w fun e w' =>
   e = .returned (R3 (plus a b c d))∧Below w.heap.size w w':=by
 by_cases h1:(rightB a b && rightB c d)=true
 ·exact plus_yes a b c d w ha hb hc hd h1
 ·exact plus_no a b c d w ha hb hc hd (by simpa only [Bool.not_eq_true] using h1)

set_option maxHeartbeats 1000000 in
theorem times_yes (a b c d:Int) (w:World) (ha:I64 a) (hb:I64 b) (hc:I64 c) (hd:I64 d) (h1:(rightB a b && rightB c d)=true) :
  Calls Tryz.prog 133 #[.agg #[.int .i64 a,.int .i64 b],.agg #[.int .i64 c,.int .i64 d]] w fun e w' =>
   e = .returned (R3 (times a b c d))∧Below w.heap.size w w':=by
  have HR:=Lib.hid (show times a b c d=make (a*c) (b*d) by simp [times,h1])
  have h1':=h1
  rw [Bool.and_eq_true] at h1'
  have k1:=QD h1'.1
  have k2:=QD h1'.2
  have p1:=QC k1.1 (y:=c) (by omega)
  have p3:=QC (x:=b) (y:=d) (by omega) (by omega)
  clear h1'
  go_enter Tryz.func133,Tryz.ntmps133
  go_wp2_with (first
   | (go_at_call 104;refine (qcd a b c d _ ha hb hc hd).mono ?_;rintro e w1 ⟨rfl,hb1⟩;obtain ⟨hcc,hff⟩:=jV hb1;have hz:=hb1.size;simp at hz;obtain ⟨z1,z2,z3⟩:=three hz)
   | (go_at_call 65;refine (qfq (a*c) (b*d) _ (WA (by omega)) (WA (by omega))).mono ?_;rintro e w2 ⟨rfl,hb2⟩;rw [qbq,R3];obtain ⟨hcc2,hff2⟩:=jV hb2))
  exact bodyPost_ret (v:=R3 (make (a*c) (b*d))) (by simp [results,Tryz.results133,go_sem,R3,hcc2,hcc,z3]) rfl ⟨by rw [HR.out],(by repeat (first|exact Below.refl _ _|assumption|refine qz ?_ _|refine Below.drew ?_|refine zJ ?_ _|refine Below.setCell ?_ (by first|omega|(simp <;> omega)) _|refine zD (by assumption) ?_))⟩

set_option maxHeartbeats 1000000 in
theorem times_no (a b c d:Int) (w:World) (ha:I64 a) (hb:I64 b) (hc:I64 c) (hd:I64 d) (h1:(rightB a b && rightB c d)=false) :
  Calls Tryz.prog 133 #[.agg #[.int .i64 a,.int .i64 b],.agg #[.int .i64 c,.int .i64 d]] w fun e w' =>
   e = .returned (R3 (times a b c d))∧Below w.heap.size w w':=by
  have HR:=Lib.hid (show times a b c d=(0,0,2) by simp [times,h1])
  go_enter Tryz.func133,Tryz.ntmps133
  go_wp2_with (go_at_call 104;refine (qcd a b c d _ ha hb hc hd).mono ?_;rintro e w1 ⟨rfl,hb1⟩;obtain ⟨hcc,hff⟩:=jV hb1;have hz:=hb1.size;simp at hz;obtain ⟨z1,z2,z3⟩:=three hz)
  exact bodyPost_ret (v:=R3 (0,0,2)) (by simp [results,Tryz.results133,go_sem,R3,hcc]) rfl ⟨by rw [HR.out],(by repeat (first|exact Below.refl _ _|assumption|refine qz ?_ _|refine Below.drew ?_|refine zJ ?_ _|refine Below.setCell ?_ (by first|omega|(simp <;> omega)) _|refine zD (by assumption) ?_))⟩

theorem times_any (a b c d:Int) (w:World) (ha:I64 a) (hb:I64 b) (hc:I64 c) (hd:I64 d) :
  Calls Tryz.prog 133 #[.agg #[.int .i64 a,.int .i64 b],.agg #[.int .i64 c,.int .i64 d]] w fun e w' =>
   e = .returned (R3 (times a b c d))∧Below w.heap.size w w':=by
 by_cases h1:(rightB a b && rightB c d)=true
 ·exact times_yes a b c d w ha hb hc hd h1
 ·exact times_no a b c d w ha hb hc hd (by simpa only [Bool.not_eq_true] using h1)

def R2 (r:Int × Int):Value:=.tuple #[.int .i64 r.1,.int .i64 r.2]
theorem ret_R2 {r:Int × Int} {a b:Int} (h:r=(a,b)):Ending.returned (.tuple #[.int .i64 a,.int .i64 b]) = .returned (R2 r):=by rw [h];rfl

theorem YC (u d:Int) (w:World) (hu:I64 u) (hd:I64 d) :
  Calls Tryz.prog 21 #[.int .i64 u,.int .i64 d] w fun e w'=>e = .returned (jY u d)∧Below w.heap.size w w':=by
 by_cases h : -9223372036854775808<u
 ·exact qjh u d w hu hd h
 ·have:u = -9223372036854775808:=by unfold I64 at hu;omega
  subst this
  exact qew d w hd

set_option maxHeartbeats 1000000 in
theorem qjd (a b c d:Int) (w:World) (ha:I64 a) (hb:I64 b) (hc:I64 c) (hd:I64 d) (h1:(rightB a b && rightB c d)=true) :
  Calls Tryz.prog 22 #[.agg #[.int .i64 a,.int .i64 b],.agg #[.int .i64 c,.int .i64 d]] w fun e w' =>
   e = .returned (R3 (plus a b c d))∧Below w.heap.size w w':=by
  have HR:=Lib.hid (show plus a b c d=make (a*d+c*b) (b*d) by simp [plus,h1])
  have h1':=h1
  rw [Bool.and_eq_true] at h1'
  have k1:=QD h1'.1
  have k2:=QD h1'.2
  have p1:=QC k1.1 (y:=d) (by omega)
  have p2:=QC k2.1 (y:=b) (by omega)
  have p3:=QC (x:=b) (y:=d) (by omega) (by omega)
  rw [Bool.and_eq_true] at h1
  obtain ⟨h1,h2⟩:=h1
  clear h1'
  go_enter Tryz.func22,Tryz.ntmps22
  go_wp2_with (first
   | (go_at_call 56;with_reducible refine (ref_right_any a b _ ha hb).mono ?_;rintro e w0 ⟨rfl,hb0⟩;obtain ⟨hcc0,hff0⟩:=jV hb0;have hz0:=hb0.size;simp at hz0;obtain ⟨y1,y2,y3⟩:=three hz0)
   | (go_at_call 56;with_reducible refine (ref_right_any c d _ hc hd).mono ?_;rintro e w1 ⟨rfl,hb1⟩;obtain ⟨hcc,hff⟩:=jV hb1;have hz:=hb1.size;have z1:w.heap.size<w1.heap.size:=(by omega);have z2:w.heap.size+1<w1.heap.size:=(by omega);have z3:w.heap.size+1+1<w1.heap.size:=(by omega))
   | (go_at_call 21;refine (YC (a*d+c*b) (b*d) _ (WA (by omega)) (WA (by omega))).mono ?_;rintro e w2 ⟨rfl,hb2⟩;rw [qbq,R3];obtain ⟨hcc2,hff2⟩:=jV hb2))
  exact bodyPost_ret (v:=R3 (make (a*d+c*b) (b*d))) (by simp [results,Tryz.results22,go_sem,R3,hcc2,hcc,hcc0,y3,z3]) rfl ⟨by rw [HR.out],(by repeat (first|exact Below.refl _ _|assumption|refine qz ?_ _|refine Below.drew ?_|refine zJ ?_ _|refine Below.setCell ?_ (by first|omega|(simp <;> omega)) _|refine zD (by assumption) ?_))⟩

set_option maxHeartbeats 1000000 in
theorem ref_plus_no (a b c d:Int) (w:World) (ha:I64 a) (hb:I64 b) (hc:I64 c) (hd:I64 d) (h1:(rightB a b && rightB c d)=false) :
  Calls Tryz.prog 22 #[.agg #[.int .i64 a,.int .i64 b],.agg #[.int .i64 c,.int .i64 d]] w fun e w' =>
   e = .returned (R3 (plus a b c d))∧Below w.heap.size w w':=by
  have HR:=Lib.hid (show plus a b c d=(0,0,2) by simp [plus,h1])
  by_cases h2:rightB a b=true
  ·have h3:rightB c d=false:=by simpa [h2] using h1
   clear h1
   go_enter Tryz.func22,Tryz.ntmps22
   go_wp2_with (first
    | (go_at_call 56;with_reducible refine (ref_right_any a b _ ha hb).mono ?_;rintro e w0 ⟨rfl,hb0⟩;obtain ⟨hcc0,hff0⟩:=jV hb0;have hz0:=hb0.size;simp at hz0;obtain ⟨y1,y2,y3⟩:=three hz0)
    | (go_at_call 56;with_reducible refine (ref_right_any c d _ hc hd).mono ?_;rintro e w1 ⟨rfl,hb1⟩;obtain ⟨hcc,hff⟩:=jV hb1;have hz:=hb1.size;have z1:w.heap.size<w1.heap.size:=(by omega);have z2:w.heap.size+1<w1.heap.size:=(by omega);have z3:w.heap.size+1+1<w1.heap.size:=(by omega)))
   exact bodyPost_ret (v:=R3 (0,0,2)) (by simp [results,Tryz.results22,go_sem,R3,hcc,hcc0,y3]) rfl ⟨by rw [HR.out],(by repeat (first|exact Below.refl _ _|assumption|refine qz ?_ _|refine Below.drew ?_|refine zJ ?_ _|refine Below.setCell ?_ (by first|omega|(simp <;> omega)) _|refine zD (by assumption) ?_))⟩
  ·simp only [Bool.not_eq_true] at h2
   clear h1
   go_enter Tryz.func22,Tryz.ntmps22
   go_wp2_with (go_at_call 56;with_reducible refine (ref_right_any a b _ ha hb).mono ?_;rintro e w0 ⟨rfl,hb0⟩;obtain ⟨hcc0,hff0⟩:=jV hb0;have hz0:=hb0.size;simp at hz0;obtain ⟨y1,y2,y3⟩:=three hz0)
   exact bodyPost_ret (v:=R3 (0,0,2)) (by simp [results,Tryz.results22,go_sem,R3,hcc0]) rfl ⟨by rw [HR.out],(by repeat (first|exact Below.refl _ _|assumption|refine qz ?_ _|refine Below.drew ?_|refine zJ ?_ _|refine Below.setCell ?_ (by first|omega|(simp <;> omega)) _|refine zD (by assumption) ?_))⟩

theorem qje (a b c d:Int) (w:World) (ha:I64 a) (hb:I64 b) (hc:I64 c) (hd:I64 d) :
  Calls Tryz.prog 22 #[.agg #[.int .i64 a,.int .i64 b],.agg #[.int .i64 c,.int .i64 d]] w fun e w' =>
   e = .returned (R3 (plus a b c d))∧Below w.heap.size w w':=by
 by_cases h1:(rightB a b && rightB c d)=true
 ·exact qjd a b c d w ha hb hc hd h1
 ·exact ref_plus_no a b c d w ha hb hc hd (by simpa only [Bool.not_eq_true] using h1)

set_option maxHeartbeats 1000000 in
theorem qgp (a b c d:Int) (w:World) (ha:I64 a) (hb:I64 b) (hc:I64 c) (hd:I64 d) (h1:(rightB a b && rightB c d)=true) :
  Calls Tryz.prog 105 #[.agg #[.int .i64 a,.int .i64 b],.agg #[.int .i64 c,.int .i64 d]] w fun e w' =>
   e = .returned (R3 (times a b c d))∧Below w.heap.size w w':=by
  have HR:=Lib.hid (show times a b c d=make (a*c) (b*d) by simp [times,h1])
  have h1':=h1
  rw [Bool.and_eq_true] at h1'
  have k1:=QD h1'.1
  have k2:=QD h1'.2
  have p1:=QC k1.1 (y:=c) (by omega)
  have p3:=QC (x:=b) (y:=d) (by omega) (by omega)
  rw [Bool.and_eq_true] at h1
  obtain ⟨h1,h2⟩:=h1
  clear h1'
  go_enter Tryz.func105,Tryz.ntmps105
  go_wp2_with (first
   | (go_at_call 56;with_reducible refine (ref_right_any a b _ ha hb).mono ?_;rintro e w0 ⟨rfl,hb0⟩;obtain ⟨hcc0,hff0⟩:=jV hb0;have hz0:=hb0.size;simp at hz0;obtain ⟨y1,y2,y3⟩:=three hz0)
   | (go_at_call 56;with_reducible refine (ref_right_any c d _ hc hd).mono ?_;rintro e w1 ⟨rfl,hb1⟩;obtain ⟨hcc,hff⟩:=jV hb1;have hz:=hb1.size;have z1:w.heap.size<w1.heap.size:=(by omega);have z2:w.heap.size+1<w1.heap.size:=(by omega);have z3:w.heap.size+1+1<w1.heap.size:=(by omega))
   | (go_at_call 21;refine (YC (a*c) (b*d) _ (WA (by omega)) (WA (by omega))).mono ?_;rintro e w2 ⟨rfl,hb2⟩;rw [qbq,R3];obtain ⟨hcc2,hff2⟩:=jV hb2))
  exact bodyPost_ret (v:=R3 (make (a*c) (b*d))) (by simp [results,Tryz.results105,go_sem,R3,hcc2,hcc,hcc0,y3,z3]) rfl ⟨by rw [HR.out],(by repeat (first|exact Below.refl _ _|assumption|refine qz ?_ _|refine Below.drew ?_|refine zJ ?_ _|refine Below.setCell ?_ (by first|omega|(simp <;> omega)) _|refine zD (by assumption) ?_))⟩

set_option maxHeartbeats 1000000 in
theorem qjb (a b c d:Int) (w:World) (ha:I64 a) (hb:I64 b) (hc:I64 c) (hd:I64 d) (h1:(rightB a b && rightB c d)=false) :
  Calls Tryz.prog 105 #[.agg #[.int .i64 a,.int .i64 b],.agg #[.int .i64 c,.int .i64 d]] w fun e w' =>
   e = .returned (R3 (times a b c d))∧Below w.heap.size w w':=by
  have HR:=Lib.hid (show times a b c d=(0,0,2) by simp [times,h1])
  by_cases h2:rightB a b=true
  ·have h3:rightB c d=false:=by simpa [h2] using h1
   clear h1
   go_enter Tryz.func105,Tryz.ntmps105
   go_wp2_with (first
    | (go_at_call 56;with_reducible refine (ref_right_any a b _ ha hb).mono ?_;rintro e w0 ⟨rfl,hb0⟩;obtain ⟨hcc0,hff0⟩:=jV hb0;have hz0:=hb0.size;simp at hz0;obtain ⟨y1,y2,y3⟩:=three hz0)
    | (go_at_call 56;with_reducible refine (ref_right_any c d _ hc hd).mono ?_;rintro e w1 ⟨rfl,hb1⟩;obtain ⟨hcc,hff⟩:=jV hb1;have hz:=hb1.size;have z1:w.heap.size<w1.heap.size:=(by omega);have z2:w.heap.size+1<w1.heap.size:=(by omega);have z3:w.heap.size+1+1<w1.heap.size:=(by omega)))
   exact bodyPost_ret (v:=R3 (0,0,2)) (by simp [results,Tryz.results105,go_sem,R3,hcc,hcc0,y3]) rfl ⟨by rw [HR.out],(by repeat (first|exact Below.refl _ _|assumption|refine qz ?_ _|refine Below.drew ?_|refine zJ ?_ _|refine Below.setCell ?_ (by first|omega|(simp <;> omega)) _|refine zD (by assumption) ?_))⟩
  ·simp only [Bool.not_eq_true] at h2
   clear h1
   go_enter Tryz.func105,Tryz.ntmps105
   go_wp2_with (go_at_call 56;with_reducible refine (ref_right_any a b _ ha hb).mono ?_;rintro e w0 ⟨rfl,hb0⟩;obtain ⟨hcc0,hff0⟩:=jV hb0;have hz0:=hb0.size;simp at hz0;obtain ⟨y1,y2,y3⟩:=three hz0)
   exact bodyPost_ret (v:=R3 (0,0,2)) (by simp [results,Tryz.results105,go_sem,R3,hcc0]) rfl ⟨by rw [HR.out],(by repeat (first|exact Below.refl _ _|assumption|refine qz ?_ _|refine Below.drew ?_|refine zJ ?_ _|refine Below.setCell ?_ (by first|omega|(simp <;> omega)) _|refine zD (by assumption) ?_))⟩

theorem qgq (a b c d:Int) (w:World) (ha:I64 a) (hb:I64 b) (hc:I64 c) (hd:I64 d) :
  Calls Tryz.prog 105 #[.agg #[.int .i64 a,.int .i64 b],.agg #[.int .i64 c,.int .i64 d]] w fun e w' =>
   e = .returned (R3 (times a b c d))∧Below w.heap.size w w':=by
 by_cases h1:(rightB a b && rightB c d)=true
 ·exact qgp a b c d w ha hb hc hd h1
 ·exact qjb a b c d w ha hb hc hd (by simpa only [Bool.not_eq_true] using h1)

end Go.Proofs.YtmlnilkbolcknaaGreatDoor.Fr
namespace Go.Proofs.YtmlnilkbolcknaaGreatDoor.Pm
open Go Fr
theorem mixed:Tryz.prog.follows .mixedOrders=true:=by kernel_rfl
theorem qC:Tryz.prog.follows .mixedOrders=true:=mixed
abbrev Yk (u d:Int):PV:=.agg [iv u,iv d]
abbrev R3P (r:Int × Int × Int):PV:=.tup [.agg [iv r.1,iv r.2.1],iv r.2.2]
theorem right_pc (u d:Int) (hu:I64 u) (hd:I64 d):PC Tryz.prog 101 [Yk u d] [] (bv (rightB u d)) [] :=
 vD (wG Tryz.func101 (by kernel_rfl) (by kernel_rfl)) rfl rfl fun w=>right_any u d w hu hd
theorem qjr (u d:Int) (hu:I64 u) (hd:I64 d):PC Tryz.prog 65 [iv u,iv d] [] (R3P (make u d)) [] :=
 vD (wG Tryz.func65 (by kernel_rfl) (by kernel_rfl)) rfl rfl fun w=>qfq u d w hu hd
theorem qdd (u d:Int) (hu:I64 u) (hd:I64 d):PC Tryz.prog 21 [iv u,iv d] [] (R3P (make u d)) [] :=
 vD (wG Tryz.func21 (by kernel_rfl) (by kernel_rfl)) rfl rfl fun w=>YC u d w hu hd
theorem WK (a b c d:Int) (ha:I64 a) (hb:I64 b) (hc:I64 c) (hd:I64 d):PC Tryz.prog 69 [Yk a b,Yk c d] [] (R3P (plus a b c d)) [] :=
 vD (wG Tryz.func69 (by kernel_rfl) (by kernel_rfl)) rfl rfl fun w=>plus_any a b c d w ha hb hc hd
theorem times_pc (a b c d:Int) (ha:I64 a) (hb:I64 b) (hc:I64 c) (hd:I64 d):PC Tryz.prog 133 [Yk a b,Yk c d] [] (R3P (times a b c d)) [] :=
 vD (wG Tryz.func133 (by kernel_rfl) (by kernel_rfl)) rfl rfl fun w=>times_any a b c d w ha hb hc hd
theorem ZK (a b c d:Int) (ha:I64 a) (hb:I64 b) (hc:I64 c) (hd:I64 d):PC Tryz.prog 22 [Yk a b,Yk c d] [] (R3P (plus a b c d)) [] :=
 vD (wG Tryz.func22 (by kernel_rfl) (by kernel_rfl)) rfl rfl fun w=>qje a b c d w ha hb hc hd
theorem qja (a b c d:Int) (ha:I64 a) (hb:I64 b) (hc:I64 c) (hd:I64 d):PC Tryz.prog 105 [Yk a b,Yk c d] [] (R3P (times a b c d)) [] :=
 vD (wG Tryz.func105 (by kernel_rfl) (by kernel_rfl)) rfl rfl fun w=>qgq a b c d w ha hb hc hd
open Gcd
inductive Beat where
 | mk (k s:Int) (l:List Beat)
def kd:Beat→Int | .mk k _ _=>k
def sh:Beat→Int | .mk _ s _=>s
def qM:Beat→List Beat | .mk _ _ l=>l
abbrev dB:Beat:=.mk 0 0 []
mutual
def kc:Beat→List PV
 | .mk _ _ l=>WO l
def WO:List Beat→List PV
 | []=>[]
 | b :: l=>iv (kd b) :: iv (sh b) :: .ssl (kc b) 0 (qM b).length :: WO l
end
def gB (b:Beat):List PV:=[iv (kd b),iv (sh b),.ssl (kc b) 0 (qM b).length]
theorem Qy:∀ l:List Beat,WO l=l.flatMap gB
 | []=>by simp [WO]
 | b :: l=>by rw [WO,Qy l,List.flatMap_cons];rfl
theorem kc_eq (b:Beat):kc b=(qM b).flatMap gB:=by
 cases b with|mk k s l=>rw [kc,Qy];rfl
theorem kc_at (b:Beat) (k j m:Nat) (hk:k<(qM b).length) (hj:j+m≤3):k*3+j+m≤(kc b).length∧((kc b).drop (k*3+j)).take m=((gB ((qM b).getD k dB)).drop j).take m:=by
 rw [kc_eq]
 exact yG gB 3 (fun _=>rfl) dB (qM b) k j m hk hj
theorem kc_shd (b:Beat):jW (kc b):=by
 rw [kc_eq]
 exact jG gB (fun _=>rfl) _
theorem kids_lt {b:Beat} {i:Nat} (h:i<(qM b).length):SizeOf.sizeOf ((qM b).getD i dB)<SizeOf.sizeOf b:=by
 cases b with
 | mk k s l =>
  simp only [qM] at h ⊢
  rw [List.getD_eq_getElem?_getD,List.getElem?_eq_getElem h]
  have:=List.sizeOf_lt_of_mem (List.getElem_mem h)
  simp only [Option.getD_some,Beat.mk.sizeOf_spec]
  omega

/-! ### what is wrong -/
mutual
def yQ:Beat→Int→Int→Int × Int
 | .mk k s l,lv,n=>if 32<lv then (4,n) else if 4096<n+1 then (4,n+1) else if s<1∨65536<s then (3,n+1) else
  if k=1∨k=2∨k=3 then (if l.length=0 then (0,n+1) else (5,n+1)) else if k=4 then (if l.length=0 then (5,n+1) else jD l (lv+1) (n+1)) else (1,n+1)
def jD:List Beat→Int→Int→Int × Int
 | [],_,n=>(0,n)
 | b :: l,lv,n=>if (yQ b lv n).1=0 then jD l lv (yQ b lv n).2 else yQ b lv n
end
theorem wC (b:Beat) (lv n:Int):yQ b lv n=if 32<lv then (4,n) else if 4096<n+1 then (4,n+1) else if sh b<1∨65536<sh b then (3,n+1) else
  if kd b=1∨kd b=2∨kd b=3 then (if (qM b).length=0 then (0,n+1) else (5,n+1)) else if kd b=4 then (if (qM b).length=0 then (5,n+1) else jD (qM b) (lv+1) (n+1)) else (1,n+1):=by
 cases b with|mk k s l=>rw [yQ];rfl
theorem WR {l:List Beat} {i:Nat} (h:i<l.length):l.drop i=l.getD i dB :: l.drop (i+1):=by
 rw [List.drop_eq_getElem_cons h,List.getD_eq_getElem?_getD,List.getElem?_eq_getElem h]
 rfl
theorem lookL_next {l:List Beat} {i:Nat} {lv n:Int} (h:i<l.length) (h0:(yQ (l.getD i dB) lv n).1=0):jD (l.drop (i+1)) lv (yQ (l.getD i dB) lv n).2=jD (l.drop i) lv n:=by
 rw [WR h,jD,if_pos h0]
theorem lookL_stop {l:List Beat} {i:Nat} {lv n:Int} (h:i<l.length) (h0:¬ (yQ (l.getD i dB) lv n).1=0):jD (l.drop i) lv n=yQ (l.getD i dB) lv n:=by
 rw [WR h,jD,if_neg h0]
mutual
def cnt:Beat→Nat
 | .mk _ _ l=>ZH l+1
def ZH:List Beat→Nat
 | []=>0
 | b :: l=>cnt b+ZH l
end
mutual
def Wq:Beat→Prop
 | .mk k s l=>1≤s∧s≤65536∧(k=4→l≠[])∧jR l
def jR:List Beat→Prop
 | []=>True
 | b :: l=>Wq b∧jR l
end
theorem cnt_eq (b:Beat):cnt b=ZH (qM b)+1:=by cases b with|mk k s l=>rw [cnt];rfl
theorem qkb (b:Beat):Wq b↔1≤sh b∧sh b≤65536∧(kd b=4→qM b≠[])∧jR (qM b):=by cases b with|mk k s l=>rw [Wq];rfl
theorem cnt_pos (b:Beat):1≤cnt b:=by rw [cnt_eq];omega
mutual
theorem qju:∀ (b:Beat) (lv n:Int),0≤n→n≤4096→n≤(yQ b lv n).2∧(yQ b lv n).2≤4097∧((yQ b lv n).1=0→(yQ b lv n).2≤4096∧n+(cnt b:Int)=(yQ b lv n).2∧Wq b)
 | .mk k s l,lv,n,h0,h1=>by
  rw [yQ]
  by_cases c1:32<lv
  ·rw [if_pos c1];simp;omega
  rw [if_neg c1]
  by_cases c2:4096<n+1
  ·rw [if_pos c2];simp;omega
  rw [if_neg c2]
  by_cases c3:s<1∨65536<s
  ·rw [if_pos c3];simp;omega
  rw [if_neg c3]
  by_cases c4:k=1∨k=2∨k=3
  ·rw [if_pos c4]
   by_cases c5:l.length=0
   ·rw [if_pos c5]
    have:=List.eq_nil_of_length_eq_zero c5
    subst this
    simp [cnt,ZH,Wq,jR]
    omega
   ·rw [if_neg c5];simp;omega
  rw [if_neg c4]
  by_cases c6:k=4
  ·rw [if_pos c6]
   by_cases c5:l.length=0
   ·rw [if_pos c5];simp;omega
   ·rw [if_neg c5]
    obtain ⟨h2,h3,h4⟩:=look_okL l (lv+1) (n+1) (by omega) (by omega)
    refine ⟨by omega,h3,fun h5=>?_⟩
    obtain ⟨h6,h7,h8⟩:=h4 h5
    refine ⟨h6,by rw [cnt];omega,?_⟩
    rw [Wq]
    exact ⟨by omega,by omega,fun _ e=>c5 (by rw [e];rfl),h8⟩
  ·rw [if_neg c6];simp;omega
theorem look_okL:∀ (l:List Beat) (lv n:Int),0≤n→n≤4096→n≤(jD l lv n).2∧(jD l lv n).2≤4097∧((jD l lv n).1=0→(jD l lv n).2≤4096∧n+(ZH l:Int)=(jD l lv n).2∧jR l)
 | [],lv,n,h0,h1=>by simp [jD,ZH,jR];omega
 | b :: l,lv,n,h0,h1=>by
  obtain ⟨h2,h3,h4⟩:=qju b lv n h0 h1
  rw [jD]
  by_cases c:(yQ b lv n).1=0
  ·rw [if_pos c]
   obtain ⟨h5,h6,h7⟩:=h4 c
   obtain ⟨k2,k3,k4⟩:=look_okL l lv (yQ b lv n).2 (by omega) h5
   refine ⟨by omega,k3,fun h8=>?_⟩
   obtain ⟨k5,k6,k7⟩:=k4 h8
   exact ⟨k5,by rw [ZH];omega,by rw [jR];exact ⟨h7,k7⟩⟩
  ·rw [if_neg c]
   exact ⟨h2,h3,fun h=>absurd h c⟩
end
def Qx (b:Beat):Int:=(yQ b 1 0).1
/-! ### qG -/
abbrev Sp:=Int × Int × Int × Int × Bool
def spC (x:Sp):List PV:=[iv x.1,iv x.2.1,iv x.2.2.1,iv x.2.2.2.1,bv x.2.2.2.2]
def qG (l:List Sp):List PV:=l.flatMap spC
abbrev StS:=List Sp × Int × Int
abbrev dS:Sp:=(0,0,0,0,false)
theorem yX (l:List Sp):jW (qG l):=jG spC (fun _=>rfl) l
theorem qha (l:List Sp):(qG l).length=l.length*5:=QH spC 5 (fun _=>rfl) l
def vA (L:List Sp) (u d:Int):List Sp:=L.set (L.length-1) ((L.getD (L.length-1) dS).1,(L.getD (L.length-1) dS).2.1,u,d,(L.getD (L.length-1) dS).2.2.2.2)
def zv (k u d:Int) (L:List Sp) (a b:Int):Int × StS :=
 if (plus a b u d).2.2=0 then
  if k=3∧0<L.length then
   let s:=plus (L.getD (L.length-1) dS).2.2.1 (L.getD (L.length-1) dS).2.2.2.1 u d
   if s.2.2=0 then (0,vA L s.1 s.2.1,(plus a b u d).1,(plus a b u d).2.1) else (s.2.2,vA L s.1 s.2.1,a,b)
  else (0,L++[(a,b,u,d,decide (k=1))],(plus a b u d).1,(plus a b u d).2.1)
 else ((plus a b u d).2.2,L,a,b)
def vP (l:List Beat):Int:=(l.map sh).sum
mutual
def qP:Beat→Int→Int→StS→Int × StS
 | .mk k _ l,u,d,st=>if k=4 then yM l (vP l) u d st else zv k u d st.1 st.2.1 st.2.2
def yM:List Beat→Int→Int→Int→StS→Int × StS
 | [],_,_,_,st=>(0,st)
 | b :: l,all,u,d,st =>
  if (make (sh b) all).2.2=0 then
   if (times (make (sh b) all).1 (make (sh b) all).2.1 u d).2.2=0 then
    let q:=times (make (sh b) all).1 (make (sh b) all).2.1 u d
    if (qP b q.1 q.2.1 st).1=0 then yM l all u d (qP b q.1 q.2.1 st).2 else qP b q.1 q.2.1 st
   else ((times (make (sh b) all).1 (make (sh b) all).2.1 u d).2.2,st)
  else ((make (sh b) all).2.2,st)
end
theorem ZW (b:Beat) (u d:Int) (st:StS):qP b u d st=if kd b=4 then yM (qM b) (vP (qM b)) u d st else zv (kd b) u d st.1 st.2.1 st.2.2:=by
 cases b with|mk k s l=>rw [qP];rfl
theorem qek {l:List Beat} {i:Nat} (h:i<l.length):vP (l.take (i+1))=vP (l.take i)+sh (l.getD i dB):=by
 unfold vP
 rw [List.take_add_one,List.map_append,List.sum_append,List.getD_eq_getElem?_getD,List.getElem?_eq_getElem h]
 simp
theorem goodL_at:∀ {l:List Beat} {i:Nat},jR l→i<l.length→Wq (l.getD i dB)
 | b :: l,0,h,_=>by rw [jR] at h;exact h.1
 | b :: l,i+1,h,hi=>by rw [jR] at h;exact goodL_at (l:=l) (i:=i) h.2 (by simpa using hi)
theorem qcu:∀ {l:List Beat},jR l→(l.length:Int)≤vP l∧vP l≤65536*(l.length:Int)
 | [],_=>by simp [vP]
 | b :: l,h=>by
  rw [jR] at h
  have:=qcu h.2
  have h1:=(qkb b).1 h.1
  simp only [vP,List.map_cons,List.sum_cons,List.length_cons] at this ⊢
  omega
theorem qfx:∀ {l:List Beat} (i:Nat),jR l→jR (l.take i)
 | [],i,_=>by simp [jR]
 | b :: l,0,_=>by simp [jR]
 | b :: l,i+1,h=>by rw [jR] at h;rw [List.take_succ_cons,jR];exact ⟨h.1,qfx i h.2⟩
theorem qge:∀ l:List Beat,l.length≤ZH l
 | []=>Nat.zero_le _
 | b :: l=>by rw [ZH,List.length_cons];have:=qge l;have:=cnt_pos b;omega
theorem sumSh_bd {l:List Beat} (h:jR l) (i:Nat) (hc:ZH l≤4096):0≤vP (l.take i)∧vP (l.take i)≤268435456:=by
 have h1:=qcu (qfx i h)
 have h2:=qge l
 have h3:(l.take i).length≤l.length:=by rw [List.length_take];exact Nat.min_le_right _ _
 omega
theorem qkj {l:List Beat} {i:Nat} (h:i<l.length):ZH (l.drop i)=cnt (l.getD i dB)+ZH (l.drop (i+1)):=by
 rw [WR h,ZH]
theorem YJ (L:List Sp) (u d:Int):(vA L u d).length=L.length:=by unfold vA;exact List.length_set ..
theorem leaf_len (k u d:Int) (L:List Sp) (a b:Int):L.length≤(zv k u d L a b).2.1.length∧(zv k u d L a b).2.1.length≤L.length+1:=by
 unfold zv
 split
 ·split
  ·dsimp only
   split <;> simp only [YJ] <;> omega
  ·simp
 ·simp
mutual
theorem qhd:∀ (b:Beat) (u d:Int) (st:StS),(qP b u d st).2.1.length≤st.1.length+cnt b
 | .mk k s l,u,d,st=>by
  rw [qP,cnt]
  split
  ·have:=qep l (vP l) u d st;omega
  ·have:=(leaf_len k u d st.1 st.2.1 st.2.2).2;omega
theorem qep:∀ (l:List Beat) (all u d:Int) (st:StS),(yM l all u d st).2.1.length≤st.1.length+ZH l
 | [],_,_,_,st=>by simp [yM,ZH]
 | b :: l,all,u,d,st=>by
  rw [yM,ZH]
  split
  ·split
   ·dsimp only
    have h1:=qhd b (times (make (sh b) all).1 (make (sh b) all).2.1 u d).1 (times (make (sh b) all).1 (make (sh b) all).2.1 u d).2.1 st
    split
    ·have:=qep l all u d (qP b (times (make (sh b) all).1 (make (sh b) all).2.1 u d).1 (times (make (sh b) all).1 (make (sh b) all).2.1 u d).2.1 st).2
     omega
    ·omega
   ·simp only;omega
  ·simp only;omega
end
end Go.Proofs.YtmlnilkbolcknaaGreatDoor.Pm
namespace Go.Proofs.YtmlnilkbolcknaaGreatDoor.Pm
open Go
mutual
def yW:It→Beat
 | .mk _ s _ _ _ ks=>.mk (if ks.length=0 then 1 else 4) s (jO ks)
def jO:List It→List Beat
 | []=>[]
 | x :: l=>yW x :: jO l
end
theorem VH:∀ l:List It,jO l=l.map yW
 | []=>by rw [jO];rfl
 | x :: l=>by rw [jO,VH l];rfl
theorem toB_eq (x:It):yW x = .mk (if (iC x).length=0 then 1 else 4) (iS x) ((iC x).map yW):=by
 cases x with|mk k s ps b ly ks=>rw [yW,VH];rfl
theorem toB_kd (x:It):kd (yW x)=if (iC x).length=0 then 1 else 4:=by rw [toB_eq];rfl
theorem qio (x:It):sh (yW x)=iS x:=by rw [toB_eq];rfl
theorem toB_kids (x:It):qM (yW x)=(iC x).map yW:=by rw [toB_eq];rfl
theorem kc_kcs (b:Beat):kc b=WO (qM b):=by rw [kc_eq,Qy]
def bs (x:It) (j:Nat):List Beat:=((iC x).take j).map yW
theorem qkm {x:It} {j:Nat} (h:j≤(iC x).length):(bs x j).length=j:=by unfold bs;rw [List.length_map,List.length_take];omega
theorem bs_all (x:It):bs x (iC x).length=qM (yW x):=by unfold bs;rw [List.take_length,toB_kids]
theorem kcs_len (l:List Beat):(WO l).length=l.length*3:=by rw [Qy];exact QH gB 3 (fun _=>rfl) l
theorem qdv (l:List Beat):jW (WO l):=by rw [Qy];exact jG gB (fun _=>rfl) _
theorem bs_next {x:It} {j:Nat} (h:j<(iC x).length):WO (bs x j)++gB (yW ((iC x).getD j qB))=WO (bs x (j+1)):=by
 unfold bs
 rw [List.take_succ_eq_append_getElem h,List.map_append,Qy,Qy,List.flatMap_append,List.getD_eq_getElem?_getD,List.getElem?_eq_getElem h]
 simp
end Go.Proofs.YtmlnilkbolcknaaGreatDoor.Pm
namespace Go.Proofs
open Go.Shelf
def Tryz.lays160_ren:Go.Shelf.Ren:=⟨fun|160=>57|232=>83|231=>82|227=>84|234=>86|233=>85|236=>88|235=>87|228=>115|271=>118|151=>117|197=>116|120=>145|152=>135|260=>144|137=>156|119=>157|224=>158|225=>159|217=>172|266=>184|n=>n,fun|9=>9|4=>4|3=>3|5=>5|117=>145|116=>144|0=>0|124=>148|21=>21|105=>170|46=>191|119=>205|139=>208|138=>207|n=>n,fun|3=>1|4=>2|n=>n⟩
theorem Tryz.lays160:Go.Proofs.Lays.n160 Tryz.prog Tryz.lays160_ren:={
  mixed:=by kernel_rfl,
  f119:=Tryz.func157.trans (congrArg some (by kernel_rfl)),
  f120:=Tryz.func145.trans (congrArg some (by kernel_rfl)),
  f137:=Tryz.func156.trans (congrArg some (by kernel_rfl)),
  f151:=Tryz.func117.trans (congrArg some (by kernel_rfl)),
  f152:=Tryz.func135.trans (congrArg some (by kernel_rfl)),
  f160:=Tryz.func57.trans (congrArg some (by kernel_rfl)),
  f197:=Tryz.func116.trans (congrArg some (by kernel_rfl)),
  f217:=Tryz.func172.trans (congrArg some (by kernel_rfl)),
  f224:=Tryz.func158.trans (congrArg some (by kernel_rfl)),
  f225:=Tryz.func159.trans (congrArg some (by kernel_rfl)),
  f227:=Tryz.func84.trans (congrArg some (by kernel_rfl)),
  f228:=Tryz.func115.trans (congrArg some (by kernel_rfl)),
  f231:=Tryz.func82.trans (congrArg some (by kernel_rfl)),
  f232:=Tryz.func83.trans (congrArg some (by kernel_rfl)),
  f233:=Tryz.func85.trans (congrArg some (by kernel_rfl)),
  f234:=Tryz.func86.trans (congrArg some (by kernel_rfl)),
  f235:=Tryz.func87.trans (congrArg some (by kernel_rfl)),
  f236:=Tryz.func88.trans (congrArg some (by kernel_rfl)),
  f260:=Tryz.func144.trans (congrArg some (by kernel_rfl)),
  f266:=Tryz.func184.trans (congrArg some (by kernel_rfl)),
  f271:=Tryz.func118.trans (congrArg some (by kernel_rfl)),
  t0:=Tryz.underlying0,
  a0:=Tryz.isAgg0,
  z0:=Tryz.sizeOf0,
  v0:=Tryz.zeroValue0,
  t3:=Tryz.underlying3,
  a3:=Tryz.isAgg3,
  z3:=Tryz.sizeOf3,
  v3:=Tryz.zeroValue3,
  t4:=Tryz.underlying4,
  a4:=Tryz.isAgg4,
  z4:=Tryz.sizeOf4,
  v4:=Tryz.zeroValue4,
  t5:=Tryz.underlying5,
  a5:=Tryz.isAgg5,
  z5:=Tryz.sizeOf5,
  v5:=Tryz.zeroValue5,
  t9:=Tryz.underlying9,
  a9:=Tryz.isAgg9,
  z9:=Tryz.sizeOf9,
  v9:=Tryz.zeroValue9,
  t21:=Tryz.underlying21,
  a21:=Tryz.isAgg21,
  z21:=Tryz.sizeOf21,
  v21:=Tryz.zeroValue21,
  t46:=Tryz.underlying191,
  a46:=Tryz.isAgg191,
  z46:=Tryz.sizeOf191,
  v46:=Tryz.zeroValue191,
  t105:=Tryz.underlying170,
  a105:=Tryz.isAgg170,
  z105:=Tryz.sizeOf170,
  v105:=Tryz.zeroValue170,
  t116:=Tryz.underlying144,
  a116:=Tryz.isAgg144,
  z116:=Tryz.sizeOf144,
  t117:=Tryz.underlying145,
  a117:=Tryz.isAgg145,
  z117:=Tryz.sizeOf145,
  v117:=Tryz.zeroValue145,
  t119:=Tryz.underlying205,
  a119:=Tryz.isAgg205,
  z119:=Tryz.sizeOf205,
  t124:=Tryz.underlying148,
  a124:=Tryz.isAgg148,
  z124:=Tryz.sizeOf148,
  v124:=Tryz.zeroValue148,
  t138:=Tryz.underlying207,
  a138:=Tryz.isAgg207,
  z138:=Tryz.sizeOf207,
  v138:=Tryz.zeroValue207,
  t139:=Tryz.underlying208,
  a139:=Tryz.isAgg208,
  z139:=Tryz.sizeOf208,
  v139:=Tryz.zeroValue208,
  g3:=by kernel_rfl,
  g4:=by kernel_rfl }
def Tryz.lays105_ren:Go.Shelf.Ren:=⟨fun|105=>124|212=>146|99=>147|165=>148|166=>27|170=>31|169=>32|263=>166|264=>167|206=>168|240=>60|241=>169|276=>93|277=>183|n=>n,fun|9=>9|3=>3|4=>4|20=>20|0=>0|46=>191|109=>192|5=>5|72=>75|76=>80|51=>198|146=>209|53=>178|148=>211|70=>72|37=>73|75=>79|127=>120|164=>149|80=>86|n=>n,fun|n=>n⟩
theorem Tryz.lays105:Go.Proofs.Lays.n105 Tryz.prog Tryz.lays105_ren:={
  mixed:=by kernel_rfl,
  f99:=Tryz.func147.trans (congrArg some (by kernel_rfl)),
  f105:=Tryz.func124.trans (congrArg some (by kernel_rfl)),
  f165:=Tryz.func148.trans (congrArg some (by kernel_rfl)),
  f166:=Tryz.func27.trans (congrArg some (by kernel_rfl)),
  f169:=Tryz.func32.trans (congrArg some (by kernel_rfl)),
  f170:=Tryz.func31.trans (congrArg some (by kernel_rfl)),
  f206:=Tryz.func168.trans (congrArg some (by kernel_rfl)),
  f212:=Tryz.func146.trans (congrArg some (by kernel_rfl)),
  f240:=Tryz.func60.trans (congrArg some (by kernel_rfl)),
  f241:=Tryz.func169.trans (congrArg some (by kernel_rfl)),
  f263:=Tryz.func166.trans (congrArg some (by kernel_rfl)),
  f264:=Tryz.func167.trans (congrArg some (by kernel_rfl)),
  f276:=Tryz.func93.trans (congrArg some (by kernel_rfl)),
  f277:=Tryz.func183.trans (congrArg some (by kernel_rfl)),
  t0:=Tryz.underlying0,
  a0:=Tryz.isAgg0,
  z0:=Tryz.sizeOf0,
  v0:=Tryz.zeroValue0,
  t3:=Tryz.underlying3,
  a3:=Tryz.isAgg3,
  z3:=Tryz.sizeOf3,
  v3:=Tryz.zeroValue3,
  t4:=Tryz.underlying4,
  a4:=Tryz.isAgg4,
  z4:=Tryz.sizeOf4,
  v4:=Tryz.zeroValue4,
  t5:=Tryz.underlying5,
  a5:=Tryz.isAgg5,
  z5:=Tryz.sizeOf5,
  v5:=Tryz.zeroValue5,
  t9:=Tryz.underlying9,
  a9:=Tryz.isAgg9,
  z9:=Tryz.sizeOf9,
  v9:=Tryz.zeroValue9,
  t20:=Tryz.underlying20,
  a20:=Tryz.isAgg20,
  z20:=Tryz.sizeOf20,
  v20:=Tryz.zeroValue20,
  t37:=Tryz.underlying73,
  a37:=Tryz.isAgg73,
  z37:=Tryz.sizeOf73,
  v37:=Tryz.zeroValue73,
  t46:=Tryz.underlying191,
  a46:=Tryz.isAgg191,
  z46:=Tryz.sizeOf191,
  v46:=Tryz.zeroValue191,
  t51:=Tryz.underlying198,
  a51:=Tryz.isAgg198,
  z51:=Tryz.sizeOf198,
  v51:=Tryz.zeroValue198,
  t53:=Tryz.underlying178,
  a53:=Tryz.isAgg178,
  z53:=Tryz.sizeOf178,
  v53:=Tryz.zeroValue178,
  t70:=Tryz.underlying72,
  a70:=Tryz.isAgg72,
  z70:=Tryz.sizeOf72,
  v70:=Tryz.zeroValue72,
  t72:=Tryz.underlying75,
  a72:=Tryz.isAgg75,
  z72:=Tryz.sizeOf75,
  v72:=Tryz.zeroValue75,
  t75:=Tryz.underlying79,
  a75:=Tryz.isAgg79,
  z75:=Tryz.sizeOf79,
  v75:=Tryz.zeroValue79,
  t76:=Tryz.underlying80,
  a76:=Tryz.isAgg80,
  z76:=Tryz.sizeOf80,
  v76:=Tryz.zeroValue80,
  t109:=Tryz.underlying192,
  a109:=Tryz.isAgg192,
  z109:=Tryz.sizeOf192,
  v109:=Tryz.zeroValue192,
  t127:=Tryz.underlying120,
  a127:=Tryz.isAgg120,
  z127:=Tryz.sizeOf120,
  v127:=Tryz.zeroValue120,
  t146:=Tryz.underlying209,
  a146:=Tryz.isAgg209,
  z146:=Tryz.sizeOf209,
  v146:=Tryz.zeroValue209,
  t148:=Tryz.underlying211,
  a148:=Tryz.isAgg211,
  z148:=Tryz.sizeOf211,
  v148:=Tryz.zeroValue211,
  t164:=Tryz.underlying149,
  a164:=Tryz.isAgg149,
  z164:=Tryz.sizeOf149,
  v164:=Tryz.zeroValue149 }
def Tryz.laysM171_ren:Go.Shelf.Ren:=⟨fun|171=>28|243=>61|246=>94|283=>126|284=>127|285=>128|286=>129|129=>150|317=>149|318=>151|319=>152|320=>153|337=>170|338=>171|n=>n,fun|3=>3|9=>9|2=>2|4=>4|171=>177|0=>0|53=>178|37=>73|5=>5|173=>181|212=>197|51=>198|20=>20|213=>199|46=>191|232=>223|233=>224|n=>n,fun|17=>0|18=>4|19=>5|n=>n⟩
theorem Tryz.laysM171:Go.Proofs.LaysM.n171 Tryz.prog Tryz.laysM171_ren:={
  mixed:=by kernel_rfl,
  f129:=Tryz.func150.trans (congrArg some (by kernel_rfl)),
  f171:=Tryz.func28.trans (congrArg some (by kernel_rfl)),
  f243:=Tryz.func61.trans (congrArg some (by kernel_rfl)),
  f246:=Tryz.func94.trans (congrArg some (by kernel_rfl)),
  f283:=Tryz.func126.trans (congrArg some (by kernel_rfl)),
  f284:=Tryz.func127.trans (congrArg some (by kernel_rfl)),
  f285:=Tryz.func128.trans (congrArg some (by kernel_rfl)),
  f286:=Tryz.func129.trans (congrArg some (by kernel_rfl)),
  f317:=Tryz.func149.trans (congrArg some (by kernel_rfl)),
  f318:=Tryz.func151.trans (congrArg some (by kernel_rfl)),
  f319:=Tryz.func152.trans (congrArg some (by kernel_rfl)),
  f320:=Tryz.func153.trans (congrArg some (by kernel_rfl)),
  f337:=Tryz.func170.trans (congrArg some (by kernel_rfl)),
  f338:=Tryz.func171.trans (congrArg some (by kernel_rfl)),
  t0:=Tryz.underlying0,
  a0:=Tryz.isAgg0,
  z0:=Tryz.sizeOf0,
  v0:=Tryz.zeroValue0,
  t2:=Tryz.underlying2,
  a2:=Tryz.isAgg2,
  z2:=Tryz.sizeOf2,
  v2:=Tryz.zeroValue2,
  t3:=Tryz.underlying3,
  a3:=Tryz.isAgg3,
  z3:=Tryz.sizeOf3,
  v3:=Tryz.zeroValue3,
  t4:=Tryz.underlying4,
  a4:=Tryz.isAgg4,
  z4:=Tryz.sizeOf4,
  v4:=Tryz.zeroValue4,
  t5:=Tryz.underlying5,
  a5:=Tryz.isAgg5,
  z5:=Tryz.sizeOf5,
  v5:=Tryz.zeroValue5,
  t9:=Tryz.underlying9,
  a9:=Tryz.isAgg9,
  z9:=Tryz.sizeOf9,
  v9:=Tryz.zeroValue9,
  t20:=Tryz.underlying20,
  a20:=Tryz.isAgg20,
  z20:=Tryz.sizeOf20,
  v20:=Tryz.zeroValue20,
  t37:=Tryz.underlying73,
  a37:=Tryz.isAgg73,
  z37:=Tryz.sizeOf73,
  v37:=Tryz.zeroValue73,
  t46:=Tryz.underlying191,
  a46:=Tryz.isAgg191,
  z46:=Tryz.sizeOf191,
  v46:=Tryz.zeroValue191,
  t51:=Tryz.underlying198,
  a51:=Tryz.isAgg198,
  z51:=Tryz.sizeOf198,
  v51:=Tryz.zeroValue198,
  t53:=Tryz.underlying178,
  a53:=Tryz.isAgg178,
  z53:=Tryz.sizeOf178,
  v53:=Tryz.zeroValue178,
  t171:=Tryz.underlying177,
  a171:=Tryz.isAgg177,
  z171:=Tryz.sizeOf177,
  v171:=Tryz.zeroValue177,
  t173:=Tryz.underlying181,
  a173:=Tryz.isAgg181,
  z173:=Tryz.sizeOf181,
  v173:=Tryz.zeroValue181,
  t212:=Tryz.underlying197,
  a212:=Tryz.isAgg197,
  z212:=Tryz.sizeOf197,
  v212:=Tryz.zeroValue197,
  t213:=Tryz.underlying199,
  a213:=Tryz.isAgg199,
  z213:=Tryz.sizeOf199,
  t232:=Tryz.underlying223,
  a232:=Tryz.isAgg223,
  z232:=Tryz.sizeOf223,
  v232:=Tryz.zeroValue223,
  t233:=Tryz.underlying224,
  a233:=Tryz.isAgg224,
  z233:=Tryz.sizeOf224,
  v233:=Tryz.zeroValue224,
  g17:=by kernel_rfl,
  g18:=by kernel_rfl,
  g19:=by kernel_rfl,
  i0:=by kernel_rfl,
  i2:=by kernel_rfl,
  i3:=by kernel_rfl,
  i4:=by kernel_rfl,
  i5:=by kernel_rfl,
  i9:=by kernel_rfl,
  i20:=by kernel_rfl,
  i37:=by kernel_rfl,
  i46:=by kernel_rfl,
  i51:=by kernel_rfl,
  i53:=by kernel_rfl,
  i171:=by kernel_rfl,
  i173:=by kernel_rfl,
  i212:=by kernel_rfl,
  i232:=by kernel_rfl,
  i233:=by kernel_rfl,
  m17:=by kernel_rfl,
  m18:=by kernel_rfl,
  m19:=by kernel_rfl }
def Tryz.lays197_ren:Go.Shelf.Ren:=⟨fun|197=>116|260=>144|n=>n,fun|9=>9|21=>21|3=>3|4=>4|5=>5|105=>170|119=>205|0=>0|46=>191|139=>208|138=>207|n=>n,fun|3=>1|4=>2|n=>n⟩
theorem Tryz.lays197:Go.Proofs.Lays.n197 Tryz.prog Tryz.lays197_ren:={
  mixed:=by kernel_rfl,
  f197:=Tryz.func116.trans (congrArg some (by kernel_rfl)),
  f260:=Tryz.func144.trans (congrArg some (by kernel_rfl)),
  t0:=Tryz.underlying0,
  a0:=Tryz.isAgg0,
  z0:=Tryz.sizeOf0,
  v0:=Tryz.zeroValue0,
  t3:=Tryz.underlying3,
  a3:=Tryz.isAgg3,
  z3:=Tryz.sizeOf3,
  v3:=Tryz.zeroValue3,
  t4:=Tryz.underlying4,
  a4:=Tryz.isAgg4,
  z4:=Tryz.sizeOf4,
  v4:=Tryz.zeroValue4,
  t5:=Tryz.underlying5,
  a5:=Tryz.isAgg5,
  z5:=Tryz.sizeOf5,
  v5:=Tryz.zeroValue5,
  t9:=Tryz.underlying9,
  a9:=Tryz.isAgg9,
  z9:=Tryz.sizeOf9,
  v9:=Tryz.zeroValue9,
  t21:=Tryz.underlying21,
  a21:=Tryz.isAgg21,
  z21:=Tryz.sizeOf21,
  v21:=Tryz.zeroValue21,
  t46:=Tryz.underlying191,
  a46:=Tryz.isAgg191,
  z46:=Tryz.sizeOf191,
  v46:=Tryz.zeroValue191,
  t105:=Tryz.underlying170,
  a105:=Tryz.isAgg170,
  z105:=Tryz.sizeOf170,
  v105:=Tryz.zeroValue170,
  t119:=Tryz.underlying205,
  a119:=Tryz.isAgg205,
  z119:=Tryz.sizeOf205,
  t138:=Tryz.underlying207,
  a138:=Tryz.isAgg207,
  z138:=Tryz.sizeOf207,
  v138:=Tryz.zeroValue207,
  t139:=Tryz.underlying208,
  a139:=Tryz.isAgg208,
  z139:=Tryz.sizeOf208,
  v139:=Tryz.zeroValue208,
  g3:=by kernel_rfl,
  g4:=by kernel_rfl }
theorem Tryz.builder105:Builder.Extra Tryz.prog Tryz.lays105_ren where
 sizeBuilder:=by kernel_rfl
 liesBuilder:=by kernel_rfl
 t5:=Tryz.underlying5
 a5:=Tryz.isAgg5
 z5:=Tryz.sizeOf5
 v5:=Tryz.zeroValue5
 infoByte:=by kernel_rfl
 cellsByte:=by kernel_rfl
 sizeByte:=by kernel_rfl
 neB5:=by decide
end Go.Proofs
namespace Go.Proofs.YtmlnilkbolcknaaGreatDoor.Pm
open Go Go.RowKit

theorem trim_pc (s cs:List UInt8) (hs:s.length≤9223372036854775807) (hc:cs.length<4294967281) (ha:∀ (j:Nat) b,cs[j]? = some b→b.toNat<128):PC Tryz.prog 57 [sv (st s),sv (st cs)] [] (sv (st (Lib.trimS s cs))) [] :=
 vD (wG Tryz.func57 (by kernel_rfl) (by kernel_rfl)) rfl rfl fun w=>(Any.strings_Trim_laid Tryz.lays160 (by kernel_rfl) (st s) (st cs) w hs hc ha).mono fun e w' ⟨h1,h2⟩=>⟨h1,h2⟩
theorem wA (s:List UInt8) (c:Nat) (hc:c≤9223372036854775807) (hl:s.length*c≤140737488355328):PC Tryz.prog 124 [sv (st s),iv (c:Int)] [] (sv (st (Lib.repeatL s c))) [] :=
 vD (wG Tryz.func124 (by kernel_rfl) (by kernel_rfl)) rfl rfl fun w=>(Any.strings_Repeat Tryz.lays105 Tryz.builder105 (st s) c w hc hl)
theorem zy (n:Int) (h0 : -9223372036854775808≤n) (h1:n≤9223372036854775807):PC Tryz.prog 28 [iv n] [] (sv (st (Lib.itoa n))) [] :=
 qfg (wG Tryz.func28 (by kernel_rfl) (by kernel_rfl)) rfl rfl fun w hL=>(Any.strconv_Itoa Tryz.laysM171 n h0 h1 w hL.2.1).mono fun e w' ⟨h1,k,os,h2⟩=>⟨h1,h2▸Lib.below_grow _ _ (Nat.le_refl _) _ _⟩
theorem decode_pc (s:List UInt8):PC Tryz.prog 116 [sv (st s)] [] (.tup [.av (.int .i32 (((Lib.decodeGo (st s)).1:Nat):Int)),iv (((Lib.decodeGo (st s)).2:Nat):Int)]) [] :=
 qfg (wG Tryz.func116 (by kernel_rfl) (by kernel_rfl)) rfl rfl fun w hL=>(Any.utf8_DecodeRuneInString Tryz.lays197 (st s) w (by first|exact hL.2.2|exact hL.2.2.1))
end Go.Proofs.YtmlnilkbolcknaaGreatDoor.Pm
set_option maxRecDepth 100000
set_option maxHeartbeats 4000000
namespace Go.Proofs.YtmlnilkbolcknaaGreatDoor.Pm
open Go Fr
theorem look_step (b:Beat) (ih:∀ b2:Beat,SizeOf.sizeOf b2<SizeOf.sizeOf b→∀ (lv n:Int),1≤lv→lv≤33→0≤n→n≤4096→PC Tryz.prog 131 [.agg (gB b2),iv lv,.opt 0 0] [some (3,[iv n])] (iv (yQ b2 lv n).1) [some (3,[iv (yQ b2 lv n).2])]) (lv n:Int) (h1:1≤lv) (h2:lv≤33) (h3:0≤n) (h4:n≤4096):PC Tryz.prog 131 [(.agg [(iv (kd b)),(iv (sh b)),(.ssl (kc b) 0 ((qM b).length))]),(iv lv),(.opt 0 0)] [some (3,[(iv n)])] (iv ((yQ b lv n).1)) [some (3,[(iv ((yQ b lv n).2))])]:=by
 refine zI Tryz.func131 rfl (by kernel_rfl) (Nat.le_of_ble_eq_true rfl) (by kernel_rfl) (l0:=[ps 0 (.agg [(iv (kd b)),(iv (sh b)),(.ssl (kc b) 0 ((qM b).length))]),ps 1 (iv lv),ps 2 (.opt 0 0),pb 0 3 [(iv n)]]) rfl (fun c0 Bor hc0=>?_)
 refine qA<|qL qC [.d,.k2,.n,.k1,.n] [ps 3 (.opt 1 0),pb 1 125 [(iv (kd b)),(iv (sh b)),(.ssl (kc b) 0 ((qM b).length))]]<|qA<|qA<|qL qC [.k3,.n,.r] [ps 11 (bv (decide (32<lv)))] ?_
 by_cases h1:32<lv
 ·refine qR (decide_eq_true h1)<|qA<|qk qC [] [ps 6 (iv 4),pb 0 3 [(iv n)]] (oz) ?_
  rw [show yQ b lv n=(4,n) from by rw [wC];repeat (first|rw [if_pos (by omega)]|rw [if_neg (by omega)])]
  exact yA hc0 [6] [0] (hbk:=by exact oc rfl (oz))
 refine qU (decide_eq_false h1)<|qF<|qA<|qA<|zY qC [] [.k3,.d,.d,.n,.r] [pb 0 3 [(iv (n+1))]] (oi (n+1) (by omega) oz)<|qA<|qL qC [.k3,.n,.r] [ps 20 (bv (decide (4096<(n+1))))] ?_
 by_cases h2:4096<(n+1)
 ·refine qR (decide_eq_true h2)<|qA<|qk qC [] [ps 6 (iv 4),pb 0 3 [(iv (n+1))]] (oz) ?_
  rw [show yQ b lv n=(4,n+1) from by rw [wC];repeat (first|rw [if_pos (by omega)]|rw [if_neg (by omega)])]
  exact yA hc0 [6] [0] (hbk:=by exact oc rfl (oz))
 refine qU (decide_eq_false h2)<|qF<|qA<|qA ?_
 by_cases h3:(sh b)<1
 ·refine zY qC (gy 4 3++[(7,.yes true)]) [.k3,.d,.n,.r] [ps 28 (bv true)] (oc (decide_eq_true h3) (oc (decide_eq_true h3) (oc (decide_eq_true h3) (oc (decide_eq_true h3) oz))))<|yK (b:=true) rfl rfl<|qA<|qk qC [] [ps 6 (iv 3),pb 0 3 [(iv (n+1))]] (oz) ?_
  rw [show yQ b lv n=(3,n+1) from by rw [wC];repeat (first|rw [if_pos (by omega)]|rw [if_neg (by omega)])]
  exact yA hc0 [6] [0] (hbk:=by exact oc rfl (oz))
 refine zY qC (gn 4 3++[(7,.yes false)]) [.k3,.d,.n,.r] [ps 28 (bv (decide (65536<(sh b))))] (oc (decide_eq_false h3) (oc (decide_eq_false h3) (oc (decide_eq_false h3) (oc (decide_eq_false h3) oz)))) ?_
 by_cases h4:65536<(sh b)
 ·refine qR (decide_eq_true h4)<|qA<|qk qC [] [ps 6 (iv 3),pb 0 3 [(iv (n+1))]] (oz) ?_
  rw [show yQ b lv n=(3,n+1) from by rw [wC];repeat (first|rw [if_pos (by omega)]|rw [if_neg (by omega)])]
  exact yA hc0 [6] [0] (hbk:=by exact oc rfl (oz))
 refine qU (decide_eq_false h4)<|qF<|qA<|qA<|qL qC [.k3,.d,.n,.r] [ps 30 (iv (kd b))]<|qV<|qA<|qA<|qL qC [.k4,.n,.r] [ps 31 (bv (decide ((kd b)=1)))] ?_
 by_cases h5:(kd b)=1
 ·refine qR (decide_eq_true h5)<|qF<|qR (decide_eq_true h5)<|qA<|qA<|qk qC [] [ps 38 (bv (decide (0<(((qM b).length:Nat):Int)))),pb 0 3 [(iv (n+1))]] (oz) ?_
  by_cases h6:0<(((qM b).length:Nat):Int)
  ·refine qR (decide_eq_true h6)<|qA<|qL qC [.n,.d,.r] [ps 6 (iv 5)] ?_
   rw [show yQ b lv n=(5,n+1) from by rw [wC];repeat (first|rw [if_pos (by omega)]|rw [if_neg (by omega)])]
   exact yA hc0 [6] [0] (hbk:=by exact oc rfl (oz))
  refine qU (decide_eq_false h6)<|qF<|qA<|qL qC [.n,.d,.r] [ps 6 (iv 0)] ?_
  rw [show yQ b lv n=(0,n+1) from by rw [wC];repeat (first|rw [if_pos (by omega)]|rw [if_neg (by omega)])]
  exact yA hc0 [6] [0] (hbk:=by exact oc rfl (oz))
 refine qU (decide_eq_false h5)<|qA<|qL qC [.k4,.d,.n,.r] [ps 31 (bv (decide ((kd b)=2)))] ?_
 by_cases h7:(kd b)=2
 ·refine qR (decide_eq_true h7)<|qF<|qR (decide_eq_true h7)<|qA<|qA<|qk qC [] [ps 38 (bv (decide (0<(((qM b).length:Nat):Int)))),pb 0 3 [(iv (n+1))]] (oz) ?_
  by_cases h8:0<(((qM b).length:Nat):Int)
  ·refine qR (decide_eq_true h8)<|qA<|qL qC [.n,.d,.r] [ps 6 (iv 5)] ?_
   rw [show yQ b lv n=(5,n+1) from by rw [wC];repeat (first|rw [if_pos (by omega)]|rw [if_neg (by omega)])]
   exact yA hc0 [6] [0] (hbk:=by exact oc rfl (oz))
  refine qU (decide_eq_false h8)<|qF<|qA<|qL qC [.n,.d,.r] [ps 6 (iv 0)] ?_
  rw [show yQ b lv n=(0,n+1) from by rw [wC];repeat (first|rw [if_pos (by omega)]|rw [if_neg (by omega)])]
  exact yA hc0 [6] [0] (hbk:=by exact oc rfl (oz))
 refine qU (decide_eq_false h7)<|qL qC [.k4,.d,.n,.r] [ps 31 (bv (decide ((kd b)=3)))] ?_
 by_cases h9:(kd b)=3
 ·refine qR (decide_eq_true h9)<|qA<|qA<|qk qC [] [ps 38 (bv (decide (0<(((qM b).length:Nat):Int)))),pb 0 3 [(iv (n+1))]] (oz) ?_
  by_cases h10:0<(((qM b).length:Nat):Int)
  ·refine qR (decide_eq_true h10)<|qA<|qL qC [.n,.d,.r] [ps 6 (iv 5)] ?_
   rw [show yQ b lv n=(5,n+1) from by rw [wC];repeat (first|rw [if_pos (by omega)]|rw [if_neg (by omega)])]
   exact yA hc0 [6] [0] (hbk:=by exact oc rfl (oz))
  refine qU (decide_eq_false h10)<|qF<|qA<|qL qC [.n,.d,.r] [ps 6 (iv 0)] ?_
  rw [show yQ b lv n=(0,n+1) from by rw [wC];repeat (first|rw [if_pos (by omega)]|rw [if_neg (by omega)])]
  exact yA hc0 [6] [0] (hbk:=by exact oc rfl (oz))
 refine qU (decide_eq_false h9)<|qA<|qL qC [.k3,.d,.d,.n,.r] [ps 39 (bv (decide ((kd b)=4)))] ?_
 by_cases h11:(kd b)=4
 ·refine qR (decide_eq_true h11)<|qA<|qL qC [.k3,.d,.n,.r] [ps 44 (bv (decide ((((qM b).length:Nat):Int)=0)))] ?_
  by_cases h12:(((qM b).length:Nat):Int)=0
  ·refine qR (decide_eq_true h12)<|qA<|qk qC [] [ps 6 (iv 5),pb 0 3 [(iv (n+1))]] (oz) ?_
   rw [show yQ b lv n=(5,n+1) from by rw [wC];repeat (first|rw [if_pos (by omega)]|rw [if_neg (by omega)])]
   exact yA hc0 [6] [0] (hbk:=by exact oc rfl (oz))
  refine qU (decide_eq_false h12)<|qF<|zF<|qA<|qA<|qL qC [.k2,.d,.d,.n,.n,.n,.k1,.d] [ps 46 (.ssl (kc b) 0 ((qM b).length)),ps 47 (nv ((qM b).length)),ps 48 (iv 0)]<|qV<|yC (α:={x:Nat × Int // x.1≤(qM b).length∧0≤x.2∧x.2≤4096∧(x.1:Int)≤x.2∧jD ((qM b).drop x.1) (lv+1) x.2=jD (qM b) (lv+1) (n+1)}) (fun x=>[ps 1 (iv lv),ps 2 (.opt 0 0),ps 46 (.ssl (kc b) 0 ((qM b).length)),ps 47 (nv ((qM b).length)),ps 48 (nv x.1.1),pb 0 3 [(iv x.1.2)]]) (fun x=>(qM b).length-x.1.1) 1 ⟨(0,n+1),⟨Nat.zero_le _,by omega,by omega,by omega,rfl⟩⟩ (Wk.ren2 _ 1 hc0 [0] rfl rfl (by kernel_rfl) (by kernel_rfl)) ?_
  rintro ⟨⟨i,s⟩,⟨hi,hs0,hs1,hsi,hL⟩⟩
  dsimp only at hi hs0 hs1 hsi hL
  refine qA<|qk qC [] [ps 1 (iv lv),ps 2 (.opt 0 0),ps 46 (.ssl (kc b) 0 ((qM b).length)),ps 47 (nv ((qM b).length)),ps 48 (nv i),ps 49 (bv (decide (((i:Nat):Int)<(((qM b).length:Nat):Int)))),pb 0 3 [(iv s)]] (oz)<|qA ?_
  by_cases h13:(i:Int)<(((qM b).length:Nat):Int)
  ·refine qR (decide_eq_true h13)<|qF<|qA<|qV<|qA<|zY qC [(0,.nat (i*3)),(1,.cells [(iv (kd ((qM b).getD i dB))),(iv (sh ((qM b).getD i dB))),(.ssl (kc ((qM b).getD i dB)) 0 ((qM ((qM b).getD i dB)).length))])] [.k2,.n,.k3,.d,.k1,.n] [ps 8 (.opt 25 0),pb 25 125 [(iv (kd ((qM b).getD i dB))),(iv (sh ((qM b).getD i dB))),(.ssl (kc ((qM b).getD i dB)) 0 ((qM ((qM b).getD i dB)).length))]] (oc (by omega:(0:Int)≤(i:Int)∧(i:Int)<(((qM b).length:Nat):Int)) (oc (by omega:0+(((i:Nat):Int):Int).toNat*3=(i*3)) (oc (kc_at b i 0 3 (by omega) (by decide):(i*3)+3≤((kc b)).length∧(((kc b)).drop (i*3)).take 3=[(iv (kd ((qM b).getD i dB))),(iv (sh ((qM b).getD i dB))),(.ssl (kc ((qM b).getD i dB)) 0 ((qM ((qM b).getD i dB)).length))]) oz)))<|qA ?_
   have hok:=qju ((qM b).getD i dB) (lv+1) s hs0 hs1
   have hcp:=cnt_pos ((qM b).getD i dB)
   refine zY qC [(4,.call [0] [(.agg [(iv (kd ((qM b).getD i dB))),(iv (sh ((qM b).getD i dB))),(.ssl (kc ((qM b).getD i dB)) 0 ((qM ((qM b).getD i dB)).length))]),(iv (lv+1)),(.opt 0 0)] [some (3,[(iv s)])] (iv ((yQ ((qM b).getD i dB) (lv+1) s).1)) [some (3,[(iv ((yQ ((qM b).getD i dB) (lv+1) s).2))])])] [.k2,.d,.n,.k3,.d,.n,.d] [ps 9 (iv ((yQ ((qM b).getD i dB) (lv+1) s).1)),pb 0 3 [(iv ((yQ ((qM b).getD i dB) (lv+1) s).2))]] (oi (lv+1) (by omega) (oc1 [0] 73 (ih ((qM b).getD i dB) (kids_lt (by omega)) (lv+1) s (by omega) (by omega) (by omega) (by omega)) oz))<|qA<|qL qC [.k6,.n,.r] [ps 58 (bv (!(decide (((yQ ((qM b).getD i dB) (lv+1) s).1)=0))))] ?_
   by_cases h14:((yQ ((qM b).getD i dB) (lv+1) s).1)=0
   ·refine qU (bt h14)<|qF<|zF<|zY qC [] [.k2,.d,.k2,.d,.n,.d,.r] [ps 48 (iv (((i:Nat):Int)+1))] (oi (((i:Nat):Int)+1) (by omega) oz) ?_
    exact zR ⟨(i+1,(yQ ((qM b).getD i dB) (lv+1) s).2),⟨by omega,by omega,(hok.2.2 h14).1,by have:=(hok.2.2 h14).2.1;omega,(lookL_next (by omega) h14).trans hL⟩⟩ (Wk.ren2 _ 1 hc0 [0] rfl rfl (by kernel_rfl) (by kernel_rfl)) (show (qM b).length-(i+1)<(qM b).length-i from by show (qM b).length-(i+1)<(qM b).length-i;omega)
   refine qR (bf h14)<|qA<|qL qC [.d,.d,.n,.d,.d,.d,.d,.d,.r] [ps 6 (iv ((yQ ((qM b).getD i dB) (lv+1) s).1))] ?_
   rw [lookL_stop (by omega) h14] at hL
   rw [show yQ b lv n=yQ ((qM b).getD i dB) (lv+1) s from by rw [wC,hL];repeat (first|rw [if_pos (by omega)]|rw [if_neg (by omega)])]
   exact zj fun cx_ a_ hI_=>qy (rt hc0 [ps 6 (iv ((yQ ((qM b).getD i dB) (lv+1) s).1)),pb 0 3 [(iv ((yQ ((qM b).getD i dB) (lv+1) s).2))]] [0] hI_ (hbk:=by exact oc rfl (oz)))
  refine qU (decide_eq_false h13)<|zS rfl rfl<|qA<|qk qC [] [ps 6 (iv 0),pb 0 3 [(iv s)]] (oz) ?_
  obtain rfl:i=(qM b).length:=by omega
  rw [List.drop_length,jD] at hL
  rw [show yQ b lv n=(0,s) from by rw [wC,hL];repeat (first|rw [if_pos (by omega)]|rw [if_neg (by omega)])]
  exact yA hc0 [6] [0] (hbk:=by exact oc rfl (oz))
 refine qU (decide_eq_false h11)<|qA<|qk qC [] [ps 6 (iv 1),pb 0 3 [(iv (n+1))]] (oz) ?_
 rw [show yQ b lv n=(1,n+1) from by rw [wC];repeat (first|rw [if_pos (by omega)]|rw [if_neg (by omega)])]
 exact yA hc0 [6] [0] (hbk:=by exact oc rfl (oz))
theorem look_all:∀ (m:Nat) (b:Beat),SizeOf.sizeOf b<m→∀ (lv n:Int),1≤lv→lv≤33→0≤n→n≤4096→PC Tryz.prog 131 [.agg (gB b),iv lv,.opt 0 0] [some (3,[iv n])] (iv (yQ b lv n).1) [some (3,[iv (yQ b lv n).2])]
 | 0,_,h=>absurd h (Nat.not_lt_zero _)
 | m+1,b,h=>fun lv n h1 h2 h3 h4=>look_step b (fun b2 hb=>look_all m b2 (by omega)) lv n h1 h2 h3 h4
theorem look_pc (b:Beat) (lv n:Int) (h1:1≤lv) (h2:lv≤33) (h3:0≤n) (h4:n≤4096):PC Tryz.prog 131 [.agg (gB b),iv lv,.opt 0 0] [some (3,[iv n])] (iv (yQ b lv n).1) [some (3,[iv (yQ b lv n).2])]:=look_all _ b (Nat.lt_succ_self _) lv n h1 h2 h3 h4
theorem wrong_pc (b:Beat):PC Tryz.prog 100 [(.agg [(iv (kd b)),(iv (sh b)),(.ssl (kc b) 0 ((qM b).length))])] [] (iv (Qx b)) []:=by
 refine zI Tryz.func100 rfl (by kernel_rfl) (Nat.le_of_ble_eq_true rfl) (by kernel_rfl) (l0:=[ps 0 (.agg [(iv (kd b)),(iv (sh b)),(.ssl (kc b) 0 ((qM b).length))])]) rfl (fun c0 Bor hc0=>?_)
 refine qA<|qk qC [] [ps 1 (.opt 0 0),pb 0 125 [(iv (kd b)),(iv (sh b)),(.ssl (kc b) 0 ((qM b).length))]] (oz)<|qA<|qL qC [.k1,.n,.k1,.n] [ps 3 (.opt 16 0),pb 16 3 [(iv 0)]]<|qA<|T_r1 qC 1 [ps 2 (iv ((yQ b (1) 0).1))] (oc1 [16] 40 (look_pc b 1 0 (by decide) (by decide) (by decide) (by decide)) oz) ?_
 exact yA hc0 [2] []
open Gcd
theorem VI {α:Type} (f:α→List PV) (s:Nat) (hf:∀ x,(f x).length=s) (d:α):∀ (l:List α) (k j:Nat) (ps:List PV) (v:α),k<l.length→j+ps.length≤s→f v=vI (f (l.getD k d)) j ps →
  k*s+j+ps.length≤(l.flatMap f).length∧vI (l.flatMap f) (k*s+j) ps=(l.set k v).flatMap f
 | x :: l,0,j,ps,v,_,hj,hv=>by
  have hx:=hf x
  refine ⟨by rw [QH f s hf,List.length_cons,Nat.succ_mul];omega,?_⟩
  rw [List.set_cons_zero,List.flatMap_cons,List.flatMap_cons,hv]
  simp only [List.getD_cons_zero,Nat.zero_mul,Nat.zero_add,vI]
  rw [List.take_append_of_le_length (by omega),List.drop_append_of_le_length (by omega)]
  simp only [List.append_assoc]
 | x :: l,k+1,j,ps,v,hk,hj,hv=>by
  have hx:=hf x
  obtain ⟨h1,h2⟩:=VI f s hf d l k j ps v (by simpa using hk) hj (by simpa using hv)
  refine ⟨by rw [List.flatMap_cons,List.length_append,hx,Nat.succ_mul];omega,?_⟩
  rw [List.set_cons_succ,List.flatMap_cons,List.flatMap_cons,← h2]
  simp only [vI]
  rw [show (k+1)*s+j=(f x).length+(k*s+j) from by rw [Nat.succ_mul];omega,List.take_length_add_append,Nat.add_assoc (f x).length,List.drop_length_add_append]
  simp only [List.append_assoc]
theorem qgt (L:List Sp) (u d:Int) (h:0<L.length):(L.length-1)*5+2+2≤(qG L).length∧vI (qG L) ((L.length-1)*5+2) [iv u,iv d]=qG (vA L u d) :=
 VI spC 5 (fun _=>rfl) dS L (L.length-1) 2 [iv u,iv d] _ (by omega) (show 2+2≤5 by decide) rfl
theorem jN {u d:Int} (h:rightB u d=true):I64 u∧I64 d:=by
 have:=rightB_iff.1 h
 unfold Fr.I64
 omega
def Yy (L:List Sp) (a b:Int):Prop:=rightB a b=true∧∀ i,i<L.length→rightB (L.getD i dS).2.2.1 (L.getD i dS).2.2.2.1=true
theorem qal {a b u d:Int} (h:(plus a b u d).2.2=0):rightB (plus a b u d).1 (plus a b u d).2.1=true:=by
 have:=plus_ok (show plus a b u d=((plus a b u d).1,(plus a b u d).2.1,0) from by rw [← h])
 exact this.2.2.1
theorem QY {a b u d:Int} (h:(times a b u d).2.2=0):rightB (times a b u d).1 (times a b u d).2.1=true:=by
 have:=times_ok (show times a b u d=((times a b u d).1,(times a b u d).2.1,0) from by rw [← h])
 exact this.2.2.1
theorem qao {u d:Int} (h:(make u d).2.2=0):rightB (make u d).1 (make u d).2.1=true:=by
 have:=qdt (show make u d=((make u d).1,(make u d).2.1,0) from by rw [← h])
 exact this.2.1
theorem longer_get {L:List Sp} {u d:Int} {i:Nat} (h:0<L.length):(vA L u d).getD i dS=if i=L.length-1 then ((L.getD (L.length-1) dS).1,(L.getD (L.length-1) dS).2.1,u,d,(L.getD (L.length-1) dS).2.2.2.2) else L.getD i dS:=by
 unfold vA
 rw [List.getD_eq_getElem?_getD,List.getElem?_set]
 by_cases e:i=L.length-1
 ·subst e;rw [if_pos rfl,if_pos (by omega),if_pos rfl];rfl
 ·rw [if_neg (Ne.symm e),if_neg e,List.getD_eq_getElem?_getD]
theorem leaf_st {k u d:Int} {L:List Sp} {a b:Int} (h:Yy L a b) (hr:rightB u d=true) (h0:(zv k u d L a b).1=0):Yy (zv k u d L a b).2.1 (zv k u d L a b).2.2.1 (zv k u d L a b).2.2.2:=by
 unfold zv at h0 ⊢
 by_cases c1:(plus a b u d).2.2=0
 ·rw [if_pos c1] at h0 ⊢
  by_cases c2:k=3∧0<L.length
  ·rw [if_pos c2] at h0 ⊢
   dsimp only at h0 ⊢
   by_cases c3:(plus (L.getD (L.length-1) dS).2.2.1 (L.getD (L.length-1) dS).2.2.2.1 u d).2.2=0
   ·rw [if_pos c3] at h0 ⊢
    refine ⟨qal c1,fun i hi=>?_⟩
    simp only [YJ] at hi
    rw [longer_get c2.2]
    split
    ·exact qal c3
    ·exact h.2 i hi
   ·rw [if_neg c3] at h0
    exact absurd h0 c3
  ·rw [if_neg c2]
   refine ⟨qal c1,fun i hi=>?_⟩
   simp only [List.length_append,List.length_cons,List.length_nil] at hi
   by_cases e:i<L.length
   ·rw [List.getD_eq_getElem?_getD,List.getElem?_append_left e,← List.getD_eq_getElem?_getD]
    exact h.2 i e
   ·rw [List.getD_eq_getElem?_getD,List.getElem?_append_right (by omega),show i-L.length=0 by omega]
    exact hr
 ·rw [if_neg c1] at h0
  exact absurd h0 c1
mutual
theorem qbd:∀ (b:Beat) (u d:Int) (st:StS),rightB u d=true→Yy st.1 st.2.1 st.2.2→(qP b u d st).1=0→Yy (qP b u d st).2.1 (qP b u d st).2.2.1 (qP b u d st).2.2.2
 | .mk k s l,u,d,st,hr,hs,h0=>by
  rw [qP] at h0 ⊢
  by_cases c:k=4
  ·rw [if_pos c] at h0 ⊢
   exact qhc l (vP l) u d st hr hs h0
  ·rw [if_neg c] at h0 ⊢
   exact leaf_st hs hr h0
theorem qhc:∀ (l:List Beat) (all u d:Int) (st:StS),rightB u d=true→Yy st.1 st.2.1 st.2.2→(yM l all u d st).1=0→Yy (yM l all u d st).2.1 (yM l all u d st).2.2.1 (yM l all u d st).2.2.2
 | [],_,_,_,st,hr,hs,h0=>by rw [yM];exact hs
 | b :: l,all,u,d,st,hr,hs,h0=>by
  rw [yM] at h0 ⊢
  by_cases c1:(make (sh b) all).2.2=0
  ·rw [if_pos c1] at h0 ⊢
   by_cases c2:(times (make (sh b) all).1 (make (sh b) all).2.1 u d).2.2=0
   ·rw [if_pos c2] at h0 ⊢
    dsimp only at h0 ⊢
    by_cases c3:(qP b (times (make (sh b) all).1 (make (sh b) all).2.1 u d).1 (times (make (sh b) all).1 (make (sh b) all).2.1 u d).2.1 st).1=0
    ·rw [if_pos c3] at h0 ⊢
     exact qhc l all u d _ hr (qbd b _ _ st (QY c2) hs c3) h0
    ·rw [if_neg c3] at h0
     exact absurd h0 c3
   ·rw [if_neg c2] at h0
    exact absurd h0 c2
  ·rw [if_neg c1] at h0
   exact absurd h0 c1
end
abbrev Nt:=Int × (Int × Int) × (Int × Int) × Pt × qQ
def noC (n:Nt):List PV:=[iv n.1,iv n.2.1.1,iv n.2.1.2,iv n.2.2.1.1,iv n.2.2.1.2,iv n.2.2.2.1.1,iv n.2.2.2.1.2.1,iv n.2.2.2.1.2.2,sv (st n.2.2.2.2)]
def qj (l:List Nt):List PV:=l.flatMap noC
abbrev yE:Nt:=(0,(0,0),(0,0),(0,0,0),[])
theorem qv (l:List Nt):jW (qj l):=jG noC (fun _=>rfl) l
theorem YG (l:List Nt):(qj l).length=l.length*9:=QH noC 9 (fun _=>rfl) l
abbrev Iv:=Int × Int
abbrev vB:Iv:=(0,0)
def zz (l:List Iv):List PV:=l.flatMap fun i=>[iv i.1,iv i.2]
def QE:Pt→List Iv→Pt × Int
 | p,[]=>(p,0)
 | p,i :: l=>if (Pi.move p.1 p.2.1 p.2.2 i.1 i.2).2.2.2=0
  then QE ((Pi.move p.1 p.2.1 p.2.2 i.1 i.2).1,(Pi.move p.1 p.2.1 p.2.2 i.1 i.2).2.1,(Pi.move p.1 p.2.1 p.2.2 i.1 i.2).2.2.1) l
  else (((Pi.move p.1 p.2.1 p.2.2 i.1 i.2).1,(Pi.move p.1 p.2.1 p.2.2 i.1 i.2).2.1,(Pi.move p.1 p.2.1 p.2.2 i.1 i.2).2.2.1),(Pi.move p.1 p.2.1 p.2.2 i.1 i.2).2.2.2)
theorem qdr {p:Pt} {l:List Iv} {i:Nat} (h:i<l.length):QE p (l.drop i)=if (Pi.move p.1 p.2.1 p.2.2 (l.getD i vB).1 (l.getD i vB).2).2.2.2=0
  then QE ((Pi.move p.1 p.2.1 p.2.2 (l.getD i vB).1 (l.getD i vB).2).1,(Pi.move p.1 p.2.1 p.2.2 (l.getD i vB).1 (l.getD i vB).2).2.1,(Pi.move p.1 p.2.1 p.2.2 (l.getD i vB).1 (l.getD i vB).2).2.2.1) (l.drop (i+1))
  else (((Pi.move p.1 p.2.1 p.2.2 (l.getD i vB).1 (l.getD i vB).2).1,(Pi.move p.1 p.2.1 p.2.2 (l.getD i vB).1 (l.getD i vB).2).2.1,(Pi.move p.1 p.2.1 p.2.2 (l.getD i vB).1 (l.getD i vB).2).2.2.1),(Pi.move p.1 p.2.1 p.2.2 (l.getD i vB).1 (l.getD i vB).2).2.2.2):=by
 rw [List.drop_eq_getElem_cons h,List.getD_eq_getElem?_getD,List.getElem?_eq_getElem h,QE];rfl
def wP (v:Int) (s g:Int × Int) (ly:qQ) (by_:List Iv):List Pt→List Nt→List Nt × Int
 | [],N=>(N,0)
 | p :: ps,N=>if (QE p by_).2=0 then wP v s g ly by_ ps (N++[(v,s,g,(QE p by_).1,ly)]) else (N,(QE p by_).2)
theorem qcb {v:Int} {s g:Int × Int} {ly:qQ} {by_:List Iv} {ps:List Pt} {N:List Nt} {i:Nat} (h:i<ps.length):wP v s g ly by_ (ps.drop i) N =
  if (QE (ps.getD i zU) by_).2=0 then wP v s g ly by_ (ps.drop (i+1)) (N++[(v,s,g,(QE (ps.getD i zU) by_).1,ly)]) else (N,(QE (ps.getD i zU) by_).2):=by
 rw [List.drop_eq_getElem_cons h,List.getD_eq_getElem?_getD,List.getElem?_eq_getElem h,wP];rfl
def setG (n:Nt) (u d:Int):Nt:=(n.1,n.2.1,(u,d),n.2.2.2)
def tieL (u d:Int):List Nt→List Nt × Int
 | []=>([],0)
 | n :: l=>if (plus n.2.2.1.1 n.2.2.1.2 u d).2.2=0
  then (setG n (plus n.2.2.1.1 n.2.2.1.2 u d).1 (plus n.2.2.1.1 n.2.2.1.2 u d).2.1 :: (tieL u d l).1,(tieL u d l).2)
  else (setG n (plus n.2.2.1.1 n.2.2.1.2 u d).1 (plus n.2.2.1.1 n.2.2.1.2 u d).2.1 :: l,(plus n.2.2.1.1 n.2.2.1.2 u d).2.2)
def WW (u d:Int) (N:List Nt) (i:Nat):List Nt × Int:=(N.take i++(tieL u d (N.drop i)).1,(tieL u d (N.drop i)).2)
theorem qdp {u d:Int} {N:List Nt} {i:Nat} (h:i<N.length):WW u d N i =
  if (plus (N.getD i yE).2.2.1.1 (N.getD i yE).2.2.1.2 u d).2.2=0
  then WW u d (N.set i (setG (N.getD i yE) (plus (N.getD i yE).2.2.1.1 (N.getD i yE).2.2.1.2 u d).1 (plus (N.getD i yE).2.2.1.1 (N.getD i yE).2.2.1.2 u d).2.1)) (i+1)
  else (N.set i (setG (N.getD i yE) (plus (N.getD i yE).2.2.1.1 (N.getD i yE).2.2.1.2 u d).1 (plus (N.getD i yE).2.2.1.1 (N.getD i yE).2.2.1.2 u d).2.1),(plus (N.getD i yE).2.2.1.1 (N.getD i yE).2.2.1.2 u d).2.2):=by
 have e:N.getD i yE=N[i]:=by rw [List.getD_eq_getElem?_getD,List.getElem?_eq_getElem h];rfl
 rw [e]
 unfold WW
 rw [List.drop_eq_getElem_cons h,tieL]
 split
 ·rw [List.take_succ_eq_append_getElem (by rw [List.length_set];exact h),List.getElem_set_self,List.take_set_of_le (Nat.le_refl i),List.drop_set_of_lt (Nat.lt_succ_self i)]
  simp
 ·rw [List.set_eq_take_append_cons_drop,if_pos h]
theorem tieF_end {u d:Int} {N:List Nt} {i:Nat} (h:N.length≤i):WW u d N i=(N,0):=by
 unfold WW
 rw [List.drop_eq_nil_of_le h,List.take_of_length_le h,tieL]
 simp
theorem qdh (N:List Nt) (i:Nat) (u d:Int) (h:i<N.length):i*9+3+2≤(qj N).length∧vI (qj N) (i*9+3) [iv u,iv d]=qj (N.set i (setG (N.getD i yE) u d)) :=
 VI noC 9 (fun _=>rfl) yE N i 3 [iv u,iv d] _ h (show 3+2≤9 by decide) rfl
theorem set_far {N:List Nt} {i q:Nat} {n:Nt} (h:i≠q):(N.set i n).getD q yE=N.getD q yE:=by
 rw [List.getD_eq_getElem?_getD,List.getElem?_set_ne h,List.getD_eq_getElem?_getD]
abbrev TsS:=List Nt × Nat × Nat
def zK (v a b:Int) (S:List Sp) (x:It) (by_:List Iv) (t:TsS):Int × TsS :=
 if (plus a b (S.getD t.2.2 dS).1 (S.getD t.2.2 dS).2.1).2.2=0 then
  if iK x=2 then (0,t.1,0,t.2.2+1)
  else if iK x=3 then ((WW (S.getD t.2.2 dS).2.2.1 (S.getD t.2.2 dS).2.2.2.1 t.1 (t.1.length-t.2.1)).2,(WW (S.getD t.2.2 dS).2.2.1 (S.getD t.2.2 dS).2.2.2.1 t.1 (t.1.length-t.2.1)).1,t.2.1,t.2.2+1)
  else
   let c:=wP v ((plus a b (S.getD t.2.2 dS).1 (S.getD t.2.2 dS).2.1).1,(plus a b (S.getD t.2.2 dS).1 (S.getD t.2.2 dS).2.1).2.1) ((S.getD t.2.2 dS).2.2.1,(S.getD t.2.2 dS).2.2.2.1) (iL x) by_ (iP x) t.1
   (c.2,c.1,if c.2=0 then (iP x).length else t.2.1,t.2.2+1)
 else ((plus a b (S.getD t.2.2 dS).1 (S.getD t.2.2 dS).2.1).2.2,t.1,t.2.1,t.2.2+1)
end Go.Proofs.YtmlnilkbolcknaaGreatDoor.Pm
