/-
  THE VALUE MACHINE (N): rows laid down for good,loops,whole functions. No program in sight. | THE VALUE MACHINE (O): what a function hands back;contracts of the kit's kind as contracts by values;small words for written walks. No program in sight. | THE VALUE MACHINE (R): contracts of the kit's kind zC plain values,as contracts by values;small lemmas. No program in sight. | THE VALUE MACHINE (S): open rows of shared cells keep their cells under other numbers. No program in sight. | THE VALUE MACHINE (U): states said anew: numbers that take another one's place;a cell that holds nil. No program in sight. | THE VALUE MACHINE (Y): regions that draw,with the keys told: what each operation reads and writes. No program in sight. | THE VALUE MACHINE (SF): the same qik,said in fewer words. No program in sight. | THE VALUE MACHINE (T): texts as lists of bytes. No program in sight. | The plain law of pitches and intervals. No program in sight. | The plain arithmetic of the white keys,step by step. No program in sight. | PITCHES AS TEXTS: what is written,what is read. No program in sight. | INTERVALS AS TEXTS: what is written,what is read. No program in sight. | PITCHES AND INTERVALS AS TEXTS: what is written is read. No program in sight. | PITCHES AND INTERVALS AS TEXTS: what is written is read (the end). No program in sight. | THE DOCUMENT's TEXTS: digits,numbers,small signs. No program in sight. | CHORDS: plain. No program in sight. | THE DOCUMENT's TEXTS: reading: signs one by one,letters,names looked for. No program in sight. | SCORE: plain: items as trees,bars,voices;what is wrong with them. No program in sight. | SCORE: plain: a text read: gaps,words,numbers,pitches,lyrics,items,bars,voices. No program in sight. | SCORE: plain: ZI of a text that is cut or carried on;lyrics there and back;numbers there and back. No program in sight. | SCORE: plain: a text read: long numbers;bars,voices,pieces. No program in sight. | SCORE: plain: a piece as a text;what stands vF a place. No program in sight. | SCORE: plain: rows of items,bars,voices that grow. No program in sight. | SCORE: plain: what is written is read: items. No program in sight. | SCORE: plain: what is written is read: bars,voices,pieces. No program in sight. | Small lemmas for all walks of this seat. | The program's orders are mixed: one fact of this seat. | THE VALUE MACHINE: trailing dead numbers dropped where the result is a struct of values that nobody writes. No program in sight. | THE VALUE MACHINE (Bu): what writes into a place of its own that holds its own address,or none yet;a row of bytes that becomes a text,and is written no more. No program in sight. | strings.Builder within a struct of the program's own: copyCheck,String (the kit's worked walks,turned). | TEXTS: what Go's library does to them: the kit's contracts,by values. | SCORE: how many ZI a text has: the kit's contract,by values. | SCORE: names,ZI: walks. (Printed by wip/pm.) | SCORE: may a text be sung: walk. (Printed by wip/pm.) | REGIONS THAT DRAW THEIR ORDER: a class C of worlds (Derived/Deep/Quiet.lean's own notion: an operation is quiet in C),vF which a tail stands that the order forces (Derived/StillTail.lean's notion of a tail). No program in sight. | THE WALKS of pitches: of the package. | THE WALKS of pitches,on: Between,Key,within,Sum,floor,Move,Mirror of the package. | MOVES: plain. | THE WALKS of pitches: of the reference: Abs,Right,Up,White,Steps,Halves,At,Within,Key. | THE WALKS of pitches: of the reference: At,Between,Sum,Move,Mirror. | TEXTS: small functions of pitches: the kit's kind of contracts,as contracts by values. | PITCHES AS TEXTS: signs,numbers: walks. (Printed by wip/pm.)
-/
import Derived.Test.YtmlnilkbolcknaaGreatDoorJLawSTurns1
import Derived.Shelf.Strings.Trim
import Derived.Shelf.Strings.SlTrimAscii
import Derived.Shelf.Strings.Repeat
import Derived.Shelf.Strconv.Itoa3
import Derived.Shelf.Strconv.Atoi
import Derived.Shelf.Unicode.DecodeAny
import Derived.Lib.ItoaLen
import Derived.Shelf.Strings.Prefix
import Derived.Lib.RuneCount
import Derived.Lib.IndexAny
import Derived.Lib.DecodeN
import Derived.Lib.AtoiAll
import Derived.Test.YtmlnilkbolcknaaGreatDoorRows
import Derived.WalkKit
import Derived.WalkSpells
import Derived.WalkLawsBesides
import Derived.Deep.QuietTactic
import Derived.BigQuiet
import Derived.Lib.Hide
import Derived.Lib.Strings
import Derived.Lib.Slices
import Derived.Lib.Walk
import Derived.Lib.Builder
import Derived.Lib.AppendStr
import Derived.Lib.UnsafeStr
import Derived.Laws.Externs
import Derived.Shelf.Lay
import Derived.Shelf.Strings.Search3
import Derived.Lib.AtoiErrMem
import Derived.Lib.AppendIntMem
import Derived.Shelf.Utf8.RuneCount
import Derived.StillTail
import Derived.Deep.Quiet
import Derived.Below
import Derived.Deep.RegionHeld3
import Derived.Deep.RegionWith
set_option linter.unusedVariables false
set_option linter.unusedSimpArgs false
set_option linter.deprecated false
namespace Go.Proofs.YtmlnilkbolcknaaGreatDoor.Pm
open Go
def frzS (id:Nat) (cs:List PV):L→L
 | []=>[]
 | (k,x) :: l=>(k,match x with
  | some (.pv p)=>some (.pv (frz id cs p))
  | some (.blk T ds)=>match Nat.beq k (kb id) with | true=>none | false=>some (.blk T (frzL id cs ds))
  | none=>none) :: frzS id cs l
theorem qas {id:Nat} {cs:List PV}:∀ {l:L} (k:Nat),get (frzS id cs l) k=match get l k with
  | some (.pv p)=>some (.pv (frz id cs p))
  | some (.blk T ds)=>if k=kb id then none else some (.blk T (frzL id cs ds))
  | none=>none
 | [],k=>rfl
 | (j,x) :: l,k=>by
  have ih:=qas (id:=id) (cs:=cs) (l:=l) k
  simp only [get,frzS,lk] at ih ⊢
  by_cases e:Nat.beq k j=true
  ·have e':=Nat.eq_of_beq_eq_true e
   subst e'
   rw [if_pos e,if_pos e]
   cases x with
   | none=>rfl
   | some v =>
    cases v with
    | pv p=>rfl
    | blk T ds =>
     simp only [Option.join_some]
     by_cases e2:k=kb id
     ·subst e2;simp [Nat.beq_refl]
     ·rw [show Nat.beq k (kb id)=false from by rw [Bool.eq_false_iff];exact fun h=>e2 (Nat.eq_of_beq_eq_true h),if_neg e2]
  ·rw [if_neg e,if_neg e]
   exact ih
section
variable {P:Program} {n:Nat} {c0:Cx} {Bor:BorD} {Q:Yq} {n0:Nat} {l:L} {rs:List Item}
theorem Wk.frz {l':L} (id:Nat) {T:TypeId} {cs:List PV} (hg:get l (kb id)=some (.blk T cs)) (hs:YY cs) (he:frzS id cs l=l'):Wk P n c0 Bor n0 l n0 l':=fun cx a hI=>by
 subst he
 obtain ⟨ob,ho,hone,hbk⟩:=hI.blk id T cs hg
 let cx':Cx:=⟨cx.w,fun b=>cx.S b∨ob=some b,cx.own⟩
 have hlive:vD (get l) id:=⟨T,cs,hg⟩
 have hblk:∀ b,ob=some b→cx'.S b∧∃ arr:Array Value,cx.w.heap[b]? = some (.cells arr T (0,0))∧cs.length≤arr.size∧∀ j,j<cs.length→SRep cx'.w cx'.S (cs.getD j P0) (arr.getD j undef):=by
  intro b hb
  rcases hbk with ⟨h1,_⟩|⟨b',arr,h1,h2,h3,h4⟩
  ·rw [hb] at h1;cases h1
  ·obtain rfl:b'=b:=by rw [hb] at h1;simpa using h1.symm
   refine ⟨.inr hb,arr,h2,h3,fun j hj=>?_⟩
   have hm:cs.getD j P0∈cs:=by simp [List.getD_eq_getElem?_getD,hj]
   exact (shd_rep (h4 j hj) (hs _ hm)).mono fun b hb=>⟨.inl hb,rfl⟩
 have hrep:∀ {p:PV} {v:Value},Rep P cx p v→Rep P cx' (Pm.frz id cs p) v:=fun h=>rep_frz (c:=cx) (c':=cx') rfl (fun _ h=>Or.inl h) rfl ho hone hblk h
 have hgb:∀ i T' ds,get (frzS id cs l) (kb i)=some (.blk T' ds)→i≠id∧∃ ds',get l (kb i)=some (.blk T' ds')∧ds=frzL id cs ds':=by
  intro i T' ds h
  rw [qas] at h
  cases hx:get l (kb i) with
  | none=>rw [hx] at h;cases h
  | some v =>
   rw [hx] at h
   cases v with
   | pv p=>cases h
   | blk T2 ds2 =>
    simp only at h
    by_cases e:kb i=kb id
    ·rw [if_pos e] at h;cases h
    ·rw [if_neg e] at h
     simp only [Option.some.injEq,Val.blk.injEq] at h
     obtain ⟨rfl,rfl⟩:=h
     exact ⟨fun e2=>e (by rw [e2]),_,rfl,rfl⟩
 have hl:∀ i,vD (get (frzS id cs l)) i→i≠id∧vD (get l) i:=fun i ⟨T',ds,h⟩=>by
  obtain ⟨h1,ds',h2,_⟩:=hgb i T' ds h
  exact ⟨h1,T',ds',h2⟩
 refine ⟨cx',rfl,{ ids:=hI.ids,blk:=fun i T' ds h=>?_,inj:=fun i j b T1 T2 l1 l2=>hI.inj i j b T1 T2 (hl i l1).2 (hl j l2).2,apart:=fun i b T1 l1 h2=>?_,bnd:=hI.bnd,sok:=fun b hb=>?_,os:=hI.os,tape:=hI.tape,output:=hI.output,size:=hI.size,same:=hI.same,laid:=hI.laid,s0:=fun b hb=>.inl (hI.s0 b hb),s1:=fun b hb=>?_,keep:=⟨fun b hb=>⟨.inl (hI.keep.S b hb).1,(hI.keep.S b hb).2⟩,hI.keep.own,hI.keep.shape⟩,tmps:=hI.tmps,dfr:=hI.dfr,slot:=fun s p hp=>?_,isv:=fun s x hx=>?_ }⟩
 ·obtain ⟨h1,ds',h2,rfl⟩:=hgb i T' ds h
  obtain ⟨ob',h3,h4,h5⟩:=hI.blk i T' ds' h2
  refine ⟨ob',h3,qfl h4,?_⟩
  rcases h5 with ⟨h5,rfl⟩|⟨b,arr,h5,h6,h7,h8⟩
  ·exact .inl ⟨h5,rfl⟩
  ·refine .inr ⟨b,arr,h5,h6,by rw [zy];exact h7,fun j hj=>?_⟩
   rw [zy] at hj
   rw [jB _ _ _ j hj]
   exact hrep (h8 j hj)
 ·obtain ⟨h1,h3⟩:=hl i l1
  have hap:=hI.apart i b T1 h3 h2
  refine ⟨fun hb=>?_,hap.2⟩
  rcases hb with hb|hb
  ·exact hap.1 hb
  ·subst hb
   exact h1 (hI.inj i id b T1 T h3 hlive h2 ho)
 ·rcases hb with hb|hb
  ·exact hI.sok b hb
  ·subst hb;exact hI.bnd id b T ho
 ·rcases hb with hb|hb
  ·exact hI.s1 b hb
  ·subst hb;exact .inr (hI.apart id b T hlive ho).2
 ·rw [qas] at hp
  cases hx:get l (ks s) with
  | none=>rw [hx] at hp;cases hp
  | some v =>
   rw [hx] at hp
   cases v with
   | pv q =>
    simp only [Option.some.injEq,Val.pv.injEq] at hp
    subst hp
    exact hrep (hI.slot s q hx)
   | blk T2 ds2=>obtain ⟨q,hq⟩:=hI.isv s _ hx;cases hq
 ·rw [qas] at hx
  cases hy:get l (ks s) with
  | none=>rw [hy] at hx;cases hx
  | some v =>
   rw [hy] at hx
   cases v with
   | pv q=>exact ⟨_,by simpa using hx.symm⟩
   | blk T2 ds2=>obtain ⟨q,hq⟩:=hI.isv s _ hy;cases hq

/-! ### loops -/
def WP (p:Nat→Prop) (m:Nat):Prop:=p m∧∀ k,k<m→¬ p k
theorem qjk {p:Nat→Prop}:∀ m,p m→∃ k,WP p k:=by
 intro m
 induction m using Nat.strongRecOn with
 | ind m ih =>
  intro h
  by_cases e:∃ k,k<m∧p k
  ·obtain ⟨k,h1,h2⟩:=e
   exact ih k h1 h2
  ·exact ⟨m,h,fun k h1 h2=>e ⟨k,h1,h2⟩⟩
def qjg {α:Type} (P:Program) (n:Nat) (c0:Cx) (Bor:BorD) (Q:Yq) (rs:List Item) (n1:Nat) (I:α→L) (μ:α→Nat) (x:α):Yq:=fun e cx a=>match e with
 | .normal=>∃ y cx',cx'.w=cx.w∧Inv ⟨P,n,c0,Bor⟩ (· < n1) cx' (get (I y)) a∧μ y<μ x
 | e=>WS ⟨P,n,c0,Bor⟩ Q rs e cx a
theorem vW {α:Type} {body:Code} (I:α→L) (μ:α→Nat) (n1:Nat) (x0:α) (h0:Wk P n c0 Bor n0 l n1 (I x0)) (h:∀ x,T P n c0 Bor (qjg P n c0 Bor Q rs n1 I μ x) n1 (I x) [.code body]):T P n c0 Bor Q n0 l (.code (.loop body) :: rs):=fun cx a hI=>by
 obtain ⟨cx0,hw0,hI0⟩:=h0 cx a hI
 let p:Act→World→Nat→Prop:=fun a w m=>∃ x cx,cx.w=w∧Inv ⟨P,n,c0,Bor⟩ (· < n1) cx (get (I x)) a∧μ x=m
 have key:=wp_loop (P:=P) (Q:=fun e a' w'=>∃ cx',cx'.w=w'∧WS ⟨P,n,c0,Bor⟩ Q rs e cx' a') (c:=body) (a:=a) (w:=cx.w) (fun a w=>∃ m,WP (p a w) m) (fun a w=>Classical.epsilon (WP (p a w)))
  (qjk (μ x0) ⟨x0,cx0,hw0,hI0,rfl⟩) ?_
 ·exact key
 ·intro a w hm
  have hsp:=Classical.epsilon_spec hm
  obtain ⟨⟨x,cx1,rfl,h1,h2⟩,hleast⟩:=hsp
  refine wp_mono (h x cx1 a h1) ?_
  rintro e a' w' ⟨cx',rfl,h3⟩
  cases e with
  | normal =>
   obtain ⟨y,cx2,h4,h5,h6⟩:=h3
   have hex:=qjk (p:=p a' cx'.w) (μ y) ⟨y,cx2,h4,h5,rfl⟩
   refine ⟨hex,?_⟩
   have hsp2:=Classical.epsilon_spec hex
   have hle:Classical.epsilon (WP (p a' cx'.w))≤μ y:=by
    rcases Nat.lt_or_ge (μ y) (Classical.epsilon (WP (p a' cx'.w))) with h7|h7
    ·exact absurd ⟨y,cx2,h4,h5,rfl⟩ (hsp2.2 _ h7)
    ·exact h7
   show Classical.epsilon (WP (p a' cx'.w))<Classical.epsilon (WP (p a cx1.w))
   rw [← h2]
   omega
  | exit id=>exact ⟨cx',rfl,h3⟩
  | goto l=>exact ⟨cx',rfl,h3⟩
  | ret=>exact ⟨cx',rfl,h3⟩
  | panic c=>exact ⟨cx',rfl,h3⟩
  | outgrown=>exact ⟨cx',rfl,h3⟩
theorem vH {α:Type} {I:α→L} {μ:α→Nat} {n1:Nat} {x:α} (y:α) (hw:Wk P n c0 Bor n0 l n1 (I y)) (hm:μ y<μ x):T P n c0 Bor (qjg P n c0 Bor Q rs n1 I μ x) n0 l []:=fun cx a hI=>by
 obtain ⟨cx',h1,h2⟩:=hw cx a hI
 exact ⟨y,cx',h1,h2,hm⟩
theorem vL {α:Type} {I:α→L} {μ:α→Nat} {n1:Nat} {x:α} {id:Nat} {ks rs':List Item} (h1:out id ks=none) (h2:out id rs=some rs') (h:T P n c0 Bor Q n0 l rs'):T P n c0 Bor (qjg P n c0 Bor Q rs n1 I μ x) n0 l (.code (.exit id) :: ks) :=
 T_leave h1 fun cx a hI=>qkq h2 (h cx a hI)
theorem yv {α:Type} {I:α→L} {μ:α→Nat} {n1:Nat} {x:α} {cx:Cx} {a:Act} (h:Q .ret cx a):qjg P n c0 Bor Q rs n1 I μ x .ret cx a:=qgm h

/-! ### whole functions -/
def qfe:List PV→PV
 | [p]=>cz p
 | ps=>.tup (ps.map cz)
def retQ (P:Program) (fn:Func) (c0:Cx) (Bor:BorD) (r:PV) (H':Hp):Yq:=fun e cx a=>(e = .normal∨e = .ret)∧a.defers=Bor.ds∧∃ v cx',cx'.w=cx.w∧(results fn a.tmps).run P cx.w = .ok v cx.w∧Rep P cx' r v∧Heap ⟨P,0,c0,Bor⟩ (· < H'.length) cx' (ZF H')
theorem Heap.env {nx:Nat→Prop} {m:Nat} {c:Cx} {g:St} (h:Heap ⟨P,n,c0,Bor⟩ nx c g):Heap ⟨P,m,c0,Bor⟩ nx c g :=
 { ids:=h.ids,blk:=h.blk,inj:=h.inj,apart:=h.apart,bnd:=h.bnd,sok:=h.sok,os:=h.os,tape:=h.tape,output:=h.output,size:=h.size,same:=h.same,laid:=h.laid,s0:=h.s0,s1:=h.s1,keep:=h.keep }
theorem Heap.less {E:Env} {nx:Nat→Prop} {c:Cx} {g g':St} (h:Heap E nx c g) (hs:∀ i T cs,g' (kb i)=some (.blk T cs)→g (kb i)=some (.blk T cs)):Heap E nx c g':=by
 have hl:∀ i,vD g' i→vD g i:=fun i ⟨T,cs,hx⟩=>⟨T,cs,hs _ _ _ hx⟩
 exact { h with blk:=fun i T cs hx=>h.blk i T cs (hs _ _ _ hx),inj:=fun i j b T T' l1 l2=>h.inj i j b T T' (hl i l1) (hl j l2),apart:=fun i b T l1=>h.apart i b T (hl i l1) }
def qci (l:L):Nat→Hp→List Prop
 | _,[]=>[]
 | i,some (T,cs) :: H=>(get l (kb i)=some (.blk T cs)) :: qci l (i+1) H
 | i,none :: H=>qci l (i+1) H
theorem WV {l:L}:∀ {H:Hp} {n:Nat},(∀ p∈qci l n H,p)→∀ i x,H.getD i none=some x→get l (kb (n+i))=some (.blk x.1 x.2)
 | [],n,_,i,x,h=>by simp at h
 | none :: H,n,hp,0,x,h=>by simp at h
 | none :: H,n,hp,i+1,x,h=>by
  have:=WV (H:=H) (n:=n+1) hp i x (by simpa using h)
  rwa [show n+1+i=n+(i+1) by omega] at this
 | some y :: H,n,hp,0,x,h=>by
  obtain ⟨T,cs⟩:=y
  have:(T,cs)=x:=by simpa using h
  subst this
  exact hp _ (by simp [qci])
 | some y :: H,n,hp,i+1,x,h=>by
  obtain ⟨T,cs⟩:=y
  have:=WV (l:=l) (H:=H) (n:=n+1) (fun p hp'=>hp p (by simp [qci,hp'])) i x (by simpa using h)
  rwa [show n+1+i=n+(i+1) by omega] at this
theorem yw {fn:Func} {r:PV} {H':Hp} {n1:Nat} {l':L} {e:Exit} (he:e = .normal∨e = .ret) (hw:Wk P n c0 Bor n0 l n1 l') (hn:n1=H'.length) (hb:∀ p∈qci l' 0 H',p)
  (hr:∀ (cx:Cx) (a:Act),Inv ⟨P,n,c0,Bor⟩ (· < n1) cx (get l') a→∃ v,(results fn a.tmps).run P cx.w = .ok v cx.w∧Rep P cx r v) {cx:Cx} {a:Act} (hI:Inv ⟨P,n,c0,Bor⟩ (· < n0) cx (get l) a):retQ P fn c0 Bor r H' e cx a:=by
 obtain ⟨cx',h1,h2⟩:=hw cx a hI
 obtain ⟨v,h3,h4⟩:=hr cx' a h2
 refine ⟨he,hI.dfr,v,cx',h1,by rw [← h1];exact h3,h4,?_⟩
 subst hn
 refine (h2.toHeap.env).less fun i T cs hx=>?_
 rw [QH] at hx
 cases hy:H'.getD i none with
 | none=>rw [hy] at hx;cases hx
 | some y =>
  rw [hy] at hx
  simp only [Option.some.injEq,Val.blk.injEq] at hx
  obtain ⟨rfl,rfl⟩:=hx
  have:=WV hb i y hy
  rwa [Nat.zero_add] at this
def Zj:Nat→List PV→L
 | _,[]=>[]
 | i,p :: ps=>(ks i,some (.pv p)) :: Zj (i+1) ps
def ZM:Nat→Hp→L
 | _,[]=>[]
 | i,x :: H=>(kb i,match x with | some y=>some (.blk y.1 y.2) | none=>none) :: ZM (i+1) H
theorem qcd (i:Nat):∀ (ps:List PV) (n:Nat),lk (kb i) (Zj n ps)=none
 | [],_=>rfl
 | p :: ps,n=>by simp only [Zj,lk,qba];exact qcd i ps (n+1)
theorem qcc (s:Nat):∀ (H:Hp) (n:Nat),lk (ks s) (ZM n H)=none
 | [],_=>rfl
 | x :: H,n=>by simp only [ZM,lk,jD];exact qcc s H (n+1)
theorem qjj:∀ (ps:List PV) (n s:Nat) (x:Option Val),lk (ks s) (Zj n ps)=some x→n≤s∧s<n+ps.length∧x=some (.pv (ps.getD (s-n) P0))
 | p :: ps,n,s,x,h=>by
  simp only [Zj,lk,ZU] at h
  by_cases e:s=n
  ·subst e
   rw [decide_eq_true rfl,if_pos rfl] at h
   cases h
   exact ⟨Nat.le_refl _,by simp,by rw [Nat.sub_self];rfl⟩
  ·rw [decide_eq_false e,if_neg (by simp)] at h
   obtain ⟨h1,h2,h3⟩:=qjj ps (n+1) s x h
   refine ⟨by omega,by simp;omega,?_⟩
   rw [h3,show s-n=(s-(n+1))+1 by omega]
   rfl
theorem qji:∀ (H:Hp) (n i:Nat) (T:TypeId) (cs:List PV),lk (kb i) (ZM n H)=some (some (.blk T cs))→n≤i∧H.getD (i-n) none=some (T,cs)
 | x :: H,n,i,T,cs,h=>by
  simp only [ZM,lk,ZV] at h
  by_cases e:i=n
  ·subst e
   rw [decide_eq_true rfl,if_pos rfl] at h
   cases x with
   | none=>cases h
   | some y =>
    simp only [Option.some.injEq,Val.blk.injEq] at h
    obtain ⟨rfl,rfl⟩:=h
    exact ⟨Nat.le_refl _,by rw [Nat.sub_self];rfl⟩
  ·rw [decide_eq_false e,if_neg (by simp)] at h
   obtain ⟨h1,h2⟩:=qji H (n+1) i T cs h
   refine ⟨by omega,?_⟩
   rw [show i-n=(i-(n+1))+1 by omega]
   exact h2
theorem qjr {fn:Func} {args:List PV} {H:Hp} {l0:L} (hn:args.length≤fn.ntmps) (hl0:Zj 0 args++ZM 0 H=l0)
  (c:Cx) (vs:Array Value) (hh:Heap (wT P c H) (· < H.length) c (ZF H)) (hrl:RL P c args vs) :
  Inv ⟨P,fn.ntmps,c,(wT P c H).Bor⟩ (· < H.length) c (get l0) { tmps:=vs++Array.replicate (fn.ntmps-vs.size) undef,defers:=[] }:=by
 have hvs:=hrl.1
 subst hl0
 have hgb:∀ i T cs,get (Zj 0 args++ZM 0 H) (kb i)=some (.blk T cs)→ZF H (kb i)=some (.blk T cs):=by
  intro i T cs hx
  rw [vI] at hx
  simp only [zC,qcd,get] at hx
  have h2:lk (kb i) (ZM 0 H)=some (some (.blk T cs)):=by
   cases hy:lk (kb i) (ZM 0 H) with
   | none=>rw [hy] at hx;cases hx
   | some y=>rw [hy] at hx;simpa using hx
  obtain ⟨_,h3⟩:=qji H 0 i T cs h2
  rw [Nat.sub_zero] at h3
  rw [QH,h3]
 have hgs:∀ s x,get (Zj 0 args++ZM 0 H) (ks s)=some x→s<args.length∧x = .pv (args.getD s P0):=by
  intro s x hx
  rw [vI] at hx
  simp only [zC,get,qcc] at hx
  cases hy:lk (ks s) (Zj 0 args) with
  | none=>rw [hy] at hx;cases hx
  | some y =>
   rw [hy] at hx
   obtain ⟨_,h2,h3⟩:=qjj args 0 s y hy
   simp only [Nat.sub_zero] at h3
   rw [h3] at hx
   exact ⟨by omega,by simpa using hx.symm⟩
 have hh1:Heap ⟨P,fn.ntmps,c,(wT P c H).Bor⟩ (· < H.length) c (ZF H):=hh.env
 exact { hh1.less hgb with
   tmps:=by simp;omega
   dfr:=rfl
   slot:=fun s p hp=>by
     obtain ⟨h1,h2⟩:=hgs s _ hp
     cases h2
     have h3:=hrl.2 s h1
     have h4:s<vs.size:=by omega
     have e:(vs++Array.replicate (fn.ntmps-vs.size) undef).getD s undef=vs.getD s undef:=by
       rw [Array.getD_eq_getD_getElem?,Array.getElem?_append_left h4,Array.getD_eq_getD_getElem?]
     show Rep P c _ ((vs++Array.replicate (fn.ntmps-vs.size) undef).getD s undef)
     rw [e]
     exact h3
   isv:=fun s x hx=>⟨_,(hgs s x hx).2⟩ }
theorem WU {fn:Func} {code:Code} {args:List PV} {H:Hp} {l0:L} {Q:Cx→(Nat→Prop)→Yq}
  (hn:Nat.ble args.length fn.ntmps=true) (hl0:Zj 0 args++ZM 0 H=l0) (h:∀ c0 (Bor:Nat→Prop),(∀ i x,c0.own i=some x→i<H.length)→T P fn.ntmps c0 ⟨Bor,[]⟩ (Q c0 Bor) H.length l0 [.code code])
  (c:Cx) (vs:Array Value) (hh:Heap (wT P c H) (· < H.length) c (ZF H)) (hrl:RL P c args vs) :
  code.wp P (fun e a' w'=>∃ cx',cx'.w=w'∧Q c (wT P c H).Bor.bor e cx' a') { tmps:=vs++Array.replicate (fn.ntmps-vs.size) undef,defers:=[] } c.w:=by
 have hn:=Nat.le_of_ble_eq_true hn
 exact h c (wT P c H).Bor.bor (fun i x hx=>hh.ids i x hx) c _ (qjr hn hl0 c vs hh hrl)
theorem zZ {f : FuncId} {fn : Func} {code : Code} {args : List PV} {H H' : Hp} {r : PV} {l0 : L} (hf : P.funcs[f]? = some fn) (hb : fn.body = some code) (hname : (fn.name == "runtime.NumGoroutine") = false) (hlen : H.length ≤ H'.length)
  (hn:Nat.ble args.length fn.ntmps=true) (hl0:Zj 0 args++ZM 0 H=l0) (h:∀ c0 (Bor:Nat→Prop),(∀ i x,c0.own i=some x→i<H.length)→T P fn.ntmps c0 ⟨Bor,[]⟩ (retQ P fn c0 ⟨Bor,[]⟩ r H') H.length l0 [.code code]):PC P f args H r H':=by
 refine ⟨⟨fn,hf,by rw [hb];rfl,hname⟩,hlen,fun c vs hh hrl=>?_⟩
 refine calls_of_wp hf hb ?_
 have key:=WU hn hl0 h c vs hh hrl
 refine wp_mono key ?_
 rintro e a' w' ⟨cx',rfl,he,hd,v,cx2,h1,h2,h3,h4⟩
 rcases he with rfl|rfl
 ·exact ⟨hd,v,h2,v,cx2,rfl,h1,h4,h3⟩
 ·exact ⟨hd,v,h2,v,cx2,rfl,h1,h4,h3⟩
theorem pc_calls {f:FuncId} {args:List PV} {v:Value} {w:World} {vs:Array Value} (h:PC P f args [] (.av v) []) (hn:vs.size=args.length) (hr:∀ i,i<args.length→SRep w (fun b=>b<w.heap.size) (args.getD i P0) (vs.getD i undef))
  (hL:Laid w (fun b=>b<w.heap.size):=by (exact ⟨fun x hx=>absurd hx (List.not_mem_nil (a:=x)),trivial⟩)) :
  Calls P f vs w fun e w'=>e = .returned v∧RowKit.Below w.heap.size w w':=by
 obtain ⟨_,_,h⟩:=h
 let c:Cx:=⟨w,fun b=>b<w.heap.size,fun _=>none⟩
 have hh:Heap (wT P c []) (· < ([]:Hp).length) c (ZF []):=by
  refine { ids:=fun i x hx=>(by cases hx),blk:=fun i T cs hx=>(by rw [QH] at hx;simp at hx),inj:=fun i j b T T' l1=>?_,apart:=fun i b T l1=>?_,bnd:=fun i b T hx=>(by cases hx),sok:=fun b hb=>hb,os:=rfl,tape:=rfl,output:=rfl,size:=Nat.le_refl _,same:=fun _ _ _=>rfl,laid:=hL,s0:=fun _ h=>h,s1:=fun _ h=>.inl h,keep:=Keep.refl _ }
  ·obtain ⟨T,cs,hx⟩:=l1
   rw [QH] at hx;simp at hx
  ·obtain ⟨T,cs,hx⟩:=l1
   rw [QH] at hx;simp at hx
 refine (h c vs hh ⟨hn,fun i hi=>.sh (hr i hi)⟩).mono ?_
 rintro e w' ⟨u,c',rfl,rfl,h1,h2⟩
 rw [qy h2]
 refine ⟨rfl,h1.os,h1.tape,h1.output,h1.size,fun k hk=>h1.same k hk ?_⟩
 rintro ⟨i,T,⟨T',cs,hx⟩,_⟩
 rw [QH] at hx
 simp at hx
end
def resP (P:Program):List ResultVar→(List PV→Plan)→Plan
 | [],k=>k []
 | .tmp t :: rs,k=>.look (ks t) fun v=>match v with | .pv p=>resP P rs fun ps=>k (p :: ps) | .blk _ _=>.fail
 | .cell t T :: rs,k=>.look (ks t) fun v=>match v with
  | .pv (.opt id off)=>.look (kb id) fun v=>match v with
   | .blk _ cs=>match wC (P.underlying T),P.info? T with
    | some true,some ti=>seg cs off ti.size .no fun l=>resP P rs fun ps=>k (.agg l :: ps)
    | some false,some _=>seg cs off 1 .no fun l=>one1 l fun p=>resP P rs fun ps=>k (p :: ps)
    | _,_=>.fail
   | .pv _=>.fail
  | _=>.fail
abbrev resF (tmps:Array Value):ResultVar→Sem Value:=fun x=>match x with
 | .tmp t=>pure (tmps.getD t undef)
 | .cell a t=>do loadVar t (← asAddr (tmps.getD a undef))
theorem qgu {E:Env} {nx:Nat→Prop} {c:Cx} {g:St} {a:Act} (hI:Inv E nx c g a):∀ {rs:List ResultVar} {k:List PV→Plan} {p:PV} {wb:L},Res g (resP E.P rs k) p wb →
  ∃ ps vs,RL E.P c ps (List.toArray vs)∧(rs.mapM (resF a.tmps)).run E.P c.w = .ok vs c.w∧Res g (k ps) p wb
 | [],k,p,wb,h=>⟨[],[],⟨rfl,fun i hi=>by simp at hi⟩,by simp,h⟩
 | .tmp t :: rs,k,p,wb,h=>by
  obtain ⟨v,h1,h2⟩:=Res.look h
  cases v with
  | blk T cs=>exact (Res.fail h2).elim
  | pv q =>
   obtain ⟨ps,vs,h3,h4,h5⟩:=qgu hI h2
   refine ⟨q :: ps,a.tmps.getD t undef :: vs,?_,?_,h5⟩
   ·have:=(QL (hI.slot t q h1)).append h3
    simpa using this
   ·simp [List.mapM_cons,h4,resF]
 | .cell t T :: rs,k,p,wb,h=>by
  obtain ⟨v,h1,h2⟩:=Res.look h
  split at h2
  case h_2=>exact (Res.fail h2).elim
  rename_i id off
  obtain ⟨bv,hg,h3⟩:=Res.look h2
  cases bv with
  | pv _=>exact (Res.fail h3).elim
  | blk T' cs =>
   simp only at h3
   obtain ⟨b,T2,hown,hv⟩:=vj (hI.slot t _ h1)
   obtain ⟨ob',hown',hone,hb⟩:=hI.blk id T' cs hg
   rw [hown] at hown'
   cases hown'
   rcases hb with ⟨hb,_⟩|⟨b',arr,hb1,hb2,hb3,hb4⟩
   ·cases hb
   obtain rfl:b'=b:=by simpa using hb1.symm
   have hcell:∀ j,j<cs.length→c.w.cell? ⟨b',0+j,none⟩=some (arr.getD j undef):=fun j hj=>by
    have:j<arr.size:=by omega
    rw [Nat.zero_add,cell_of_row c.w _ _ arr _ _ hb2]
    simp [Array.getD_eq_getD_getElem?,this]
   -- one value loaded,the rest vF it
   have key:∀ {q:PV} {u:Value} {r:Plan},Rep E.P c q u→(loadVar T ⟨b',0+off,none⟩).run E.P c.w = .ok u c.w→Res g (resP E.P rs fun ps=>k (q :: ps)) p wb →
     ∃ ps vs,RL E.P c ps (List.toArray vs)∧((ResultVar.cell t T :: rs).mapM (resF a.tmps)).run E.P c.w = .ok vs c.w∧Res g (k ps) p wb:=by
    intro q u r hq hu hr
    obtain ⟨ps,vs,h5,h6,h7⟩:=qgu hI hr
    refine ⟨q :: ps,u :: vs,?_,?_,h7⟩
    ·have:=(QL hq).append h5
     simpa using this
    ·rw [Nat.zero_add] at hu
     have e:(resF a.tmps (.cell t T)).run E.P c.w = .ok u c.w:=by
      have hv2:a.tmps.getD t undef = .pointer (some ⟨b',off,none⟩):=hv
      simp only [resF,Sem.run_bind,hv2,asAddr,Sem.run_pure,Result.andThen_ok,hu]
     rw [List.mapM_cons]
     simp only [Sem.run_bind,e,h6,Result.andThen_ok,Sem.run_pure]
   split at h3
   ·rename_i ti hag hin
    have h4:Res g (ZR cs off ti.size true .no) (.agg ((cs.drop off).take ti.size)) []∧Res g (resP E.P rs fun ps=>k (.agg ((cs.drop off).take ti.size) :: ps)) p wb:=by
     unfold seg at h3
     simp only at h3
     split at h3
     ·rename_i hb5
      refine ⟨?_,h3⟩
      simp only [ZR,seg,hb5]
      exact ⟨_,rfl,rfl,rfl,fun q hq=>by cases hq⟩
     ·exact (Res.fail h3).elim
    obtain ⟨_,u,h5,h6⟩:=qan (c:=c) (a:=0) hag hin h4.1 hcell hb4
    exact key (r:=.fail) h5 h6 h4.2
   ·rename_i ti hag hin
    unfold seg at h3
    simp only at h3
    split at h3
    ·rename_i hb5
     unfold one1 at h3
     split at h3
     ·rename_i q heq
      have h4:Res g (ZR cs off ti.size false .no) q []:=by
       simp only [ZR,seg,hb5,heq,one1]
       exact ⟨_,rfl,rfl,rfl,fun q hq=>by cases hq⟩
      obtain ⟨_,u,h5,h6⟩:=qan (c:=c) (a:=0) hag hin h4 hcell hb4
      exact key (r:=.fail) h5 h6 h3
     ·exact (Res.fail h3).elim
    ·exact (Res.fail h3).elim
   ·exact (Res.fail h3).elim
def runv (g:St) (p:Plan):Option (PV × List Prop):=match run g p with|some o=>some (o.pv,o.obs)|none=>none
theorem yC {P:Program} {n:Nat} {c0:Cx} {Bor:BorD} {n0:Nat} {fn:Func} {l':L} {r:PV} (h:runv (get l') (resP P fn.results.toList fun ps=>.done (qfe ps) [])=some (r,[])) (cx:Cx) (a:Act)
  (hI:Inv ⟨P,n,c0,Bor⟩ (· < n0) cx (get l') a):∃ v,(results fn a.tmps).run P cx.w = .ok v cx.w∧Rep P cx r v:=by
 unfold runv at h
 split at h
 case h_2=>cases h
 rename_i o h0
 simp only [Option.some.injEq,Prod.mk.injEq] at h
 obtain ⟨hr,ho⟩:=h
 obtain ⟨ps,vs,h1,h2,h3⟩:=qgu hI (p:=r) (wb:=o.wb) ⟨o,h0,hr,rfl,fun q hq=>by rw [ho] at hq;cases hq⟩
 obtain ⟨rfl,_⟩:=Res.done h3
 have e:(results fn a.tmps).run P cx.w = .ok (if hs:vs.toArray.size=1 then vs.toArray[0] else .tuple vs.toArray) cx.w:=by
  have e0:results fn a.tmps=(do let vs ← fn.results.mapM (resF a.tmps);pure (if h:vs.size=1 then vs[0] else .tuple vs)):=rfl
  rw [e0,Array.mapM_eq_mapM_toList]
  simp only [Sem.run_bind,Sem.run_map,h2,Result.andThen_ok]
  rfl
 refine ⟨_,e,?_⟩
 have hlen:vs.length=ps.length:=by simpa using h1.1
 unfold qfe
 split
 ·rename_i p
  have h5:vs.toArray.size=1:=by simpa using hlen
  rw [dif_pos h5]
  have:=h1.2 0 (by simp)
  have h6:(0:Nat)<vs.length:=by simpa using hlen▸Nat.one_pos
  simp [Array.getD_eq_getD_getElem?,h6] at this
  exact qlc (by simpa using this)
 ·rename_i hne
  have h5:¬ vs.toArray.size=1:=fun e=>by
   have:ps.length=1:=by simp at e;omega
   obtain ⟨q,rfl⟩:=List.length_eq_one_iff.1 this
   exact hne q rfl
  rw [dif_neg h5]
  refine .tup (by simp [hlen]) fun i hi=>?_
  have hi':i<ps.length:=by simpa using hi
  have:=qlc (h1.2 i hi')
  simpa [List.getD_eq_getElem?_getD,hi'] using this

/-! ### contracts of the kit's kind -/
theorem pc_ofL {P:Program} {f:FuncId} {args:List PV} {r:PV} (hf:FnOk P f) (hr:∀ w vs,Laid w (fun b=>b<w.heap.size)→RL P ⟨w,fun b=>b<w.heap.size,fun _=>none⟩ args vs→Calls P f vs w fun e w'=>∃ v,e = .returned v∧RowKit.Below w.heap.size w w'∧∀ c,Rep P c r v)
  (hargs:∀ c vs,RL P c args vs→RL P ⟨c.w,fun b=>b<c.w.heap.size,fun _=>none⟩ args vs):PC P f args [] r []:=by
 refine ⟨hf,Nat.le_refl _,fun c vs hh hrl=>(hr c.w vs ⟨fun x hx=>hh.sok _ (hh.laid.1 x hx),hh.laid.2⟩ (hargs c vs hrl)).mono ?_⟩
 rintro e w' ⟨v,rfl,hb,hv⟩
 have hbl:∀ b,b<c.w.heap.size→w'.heap[b]? = c.w.heap[b]? := hb.block
 have hno:∀ i,¬ vD (ZF []) i:=fun i ⟨T,cs,hx⟩=>by rw [QH] at hx;simp at hx
 have hk:Keep c ⟨w',c.S,c.own⟩:=⟨fun b hb=>⟨hb,hbl b (hh.sok b hb)⟩,fun _ _ h=>h,fun b cs T z h=>⟨cs,z,by rw [hbl b (some_lt h)];exact h,rfl⟩⟩
 exact ⟨v,⟨w',c.S,c.own⟩,rfl,rfl,{ ids:=hh.ids,blk:=fun i T cs hx=>absurd ⟨T,cs,hx⟩ (hno i),inj:=fun i j b T T' l1=>absurd l1 (hno i),apart:=fun i b T l1=>absurd l1 (hno i),bnd:=fun i b T hx=>Nat.lt_of_lt_of_le (hh.bnd i b T hx) hb.size,sok:=fun b hS=>Nat.lt_of_lt_of_le (hh.sok b hS) hb.size,os:=hb.os,tape:=hb.tape,output:=hb.output,size:=hb.size,same:=fun b hb' _=>hbl b hb',laid:=hh.laid,s0:=fun _ h=>h,s1:=fun _ h=>.inl h,keep:=hk },hv _⟩

/-! ### small words -/
section
variable {P:Program} {n:Nat} {c0:Cx} {Bor:BorD} {Q:Yq} {n0:Nat} {l:L} {rs:List Item}
theorem qU {t:Nat} {x y:Code} {b:Bool} (hb:get l (ks t)=some (.pv (.av (.bool b)))) (hv:b=true) (h:T P n c0 Bor Q n0 l (.code x :: rs)):T P n c0 Bor Q n0 l (.code (.cond (.tmp t) x y) :: rs) :=
 T_cond hb (fun _=>h) fun e=>by rw [hv] at e;cases e
theorem zD {t:Nat} {x y:Code} {b:Bool} (hb:get l (ks t)=some (.pv (.av (.bool b)))) (hv:b=false) (h:T P n c0 Bor Q n0 l (.code y :: rs)):T P n c0 Bor Q n0 l (.code (.cond (.tmp t) x y) :: rs) :=
 T_cond hb (fun e=>by rw [hv] at e;cases e) fun _=>h
end
theorem oz:∀ p∈([]:List Prop),p:=fun p hp=>by cases hp
theorem oc {p:Prop} {l:List Prop} (h:p) (k:∀ q∈l,q):∀ q∈p :: l,q:=fun q hq=>by
 rcases List.mem_cons.1 hq with rfl|hq
 ·exact h
 ·exact k q hq
theorem Wk.eq {P:Program} {n:Nat} {c0:Cx} {Bor:BorD} {n0:Nat} {l l':L} (h:l=l'):Wk P n c0 Bor n0 l n0 l':=h▸Wk.refl
abbrev iv (n:Int):PV:=.av (.int .i64 n)
abbrev bv (b:Bool):PV:=.av (.bool b)
abbrev sv (s:ByteArray):PV:=.av (.string s)
abbrev ps (s:Nat) (p:PV):Nat × Option Val:=(ks s,some (.pv p))
abbrev pb (i:Nat) (T:TypeId) (cs:List PV):Nat × Option Val:=(kb i,some (.blk T cs))
theorem Zv {α:Type} (f:α→List PV) (s:Nat) (hf:∀ x,(f x).length=s):∀ l:List α,(l.flatMap f).length=l.length*s
 | []=>by simp
 | x :: l=>by rw [List.flatMap_cons,List.length_append,hf,Zv f s hf l,List.length_cons,Nat.succ_mul];omega
theorem vN {α:Type} (f:α→List PV) (s:Nat) (hf:∀ x,(f x).length=s) (d:α):∀ (l:List α) (k j m:Nat),k<l.length→j+m≤s →
  k*s+j+m≤(l.flatMap f).length∧((l.flatMap f).drop (k*s+j)).take m=((f (l.getD k d)).drop j).take m
 | x :: l,0,j,m,_,hj=>by
  refine ⟨by rw [Zv f s hf,List.length_cons,Nat.succ_mul];omega,?_⟩
  rw [Nat.zero_mul,Nat.zero_add,List.flatMap_cons,List.drop_append_of_le_length (by rw [hf];omega),List.take_append_of_le_length (by rw [List.length_drop,hf];omega)]
  rfl
 | x :: l,k+1,j,m,hk,hj=>by
  have hk':k<l.length:=by simpa using hk
  obtain ⟨h1,h2⟩:=vN f s hf d l k j m hk' hj
  refine ⟨by rw [List.flatMap_cons,List.length_append,hf,Nat.succ_mul];omega,?_⟩
  have e:(k+1)*s+j=s+(k*s+j):=by rw [Nat.succ_mul];omega
  rw [List.flatMap_cons,e,← List.drop_drop,show s=(f x).length from (hf x).symm,List.drop_left,hf x,h2]
  rfl
theorem qdr {P:Program} {f:FuncId} {args:List PV} {r:PV} {us:List Value} {v:Value} (hf:FnOk P f) (ha:jY args=some us) (hr:qgc r=some v)
  (h:∀ w,Laid w (fun b=>b<w.heap.size)→Calls P f us.toArray w fun e w'=>e = .returned v∧RowKit.Below w.heap.size w w'):PC P f args [] r []:=by
 refine pc_ofL hf (fun w vs hL hrl=>?_) fun c vs hrl=>?_
 ·rw [ZB (f:=ZD) (fs:=jY) rfl (fun _ _=>rfl) (fun _ _ _ h k=>ZC h k) ha hrl]
  exact (h w hL).mono fun e w' ⟨he,hb⟩=>⟨v,he,hb,fun c=>.sh (qeh hr)⟩
 ·rw [ZB (f:=ZD) (fs:=jY) rfl (fun _ _=>rfl) (fun _ _ _ h k=>ZC h k) ha hrl]
  obtain ⟨h1,h2⟩:=VI (w:=c.w) (S:=fun b=>b<c.w.heap.size) (f:=ZD) (fs:=jY) rfl (fun _ _=>rfl) (fun _ _ h=>qau h) ha
  exact ⟨by simpa using h1,fun i hi=>by rw [qbd];exact .sh (h2 i hi)⟩
theorem wF {P:Program} {f:FuncId} {args:List PV} {r:PV} {us:List Value} {v:Value} (hf:FnOk P f) (ha:jY args=some us) (hr:qgc r=some v)
  (h:∀ w,Calls P f us.toArray w fun e w'=>e = .returned v∧RowKit.Below w.heap.size w w'):PC P f args [] r []:=qdr hf ha hr fun w _=>h w
theorem ww {P : Program} {f : FuncId} {fn : Func} (hf : P.funcs[f]? = some fn) (hb : fn.body.isNone = false) (hn : (fn.name == "runtime.NumGoroutine") = false) : FnOk P f := ⟨fn, hf, hb, hn⟩
theorem flat_app {α:Type} (f:α→List PV) (l m:List α):(l++m).flatMap f=l.flatMap f++m.flatMap f:=List.flatMap_append
def rkey (σ:Nat→Nat) (k:Nat):Nat:=match Nat.beq (k % 2) 1 with|true=>kb (σ (k / 2))|false=>k
def rval (σ:Nat→Nat):Option Val→Option Val
 | some (.pv p)=>some (.pv (ren σ p))
 | some (.blk T cs)=>some (.blk T (qT σ cs))
 | none=>none
def Yx (n1:Nat) (l:L):Bool:=l.all fun x=>match x.2 with|some (.blk _ _)=>Nat.beq (x.1 % 2) 1 && Nat.blt (x.1 / 2) n1|some (.pv _)=>Nat.beq (x.1 % 2) 0|none=>true
theorem qgw {σ:Nat→Nat} {n1:Nat} {g:St}:∀ {l:L},l.map (fun x=>g (rkey σ x.1))=l.map (fun x=>rval σ x.2)→Yx n1 l=true→∀ p∈reSt σ n1 l g,p
 | [],_,_,p,hp=>by cases hp
 | x :: l,h,hb,p,hp=>by
  simp only [List.map_cons,List.cons.injEq] at h
  simp only [Yx,List.all_cons,Bool.and_eq_true] at hb
  simp only [reSt,List.map_cons,List.mem_cons] at hp
  rcases hp with rfl|hp
  ·obtain ⟨k,v⟩:=x
   cases v with
   | none=>trivial
   | some v =>
    cases v with
    | pv p =>
     have h0:k % 2=0:=Nat.eq_of_beq_eq_true hb.1
     have h1:=h.1
     simp only [rkey,rval,h0] at h1
     exact h1
    | blk T cs =>
     have hb1:=hb.1
     simp only [Bool.and_eq_true,Nat.blt_eq] at hb1
     have h0:k % 2=1:=Nat.eq_of_beq_eq_true hb1.1
     have h1:=h.1
     simp only [rkey,rval,h0,Nat.beq_refl] at h1
     exact ⟨h0,hb1.2,h1⟩
  ·exact qgw h.2 hb.2 p hp
theorem Wk.ren2 {P:Program} {n:Nat} {c0:Cx} {Bor:BorD} {n0:Nat} {l:L} (l':L) (m:Nat) (hc0:∀ i x,c0.own i=some x→i<m) (σl:List Nat) (hσ:σl.take m=List.range m) (hnd:vE σl=true) (hb:Yx σl.length l'=true)
  (h:l'.map (fun x=>get l (rkey (WY n0 σl) x.1))=l'.map (fun x=>rval (WY n0 σl) x.2)):Wk P n c0 Bor n0 l σl.length l':=Wk.ren m hc0 σl hσ hnd (qgw h hb)
theorem qhd {P:Program} {f:FuncId} {args:List PV} {r:PV} {v:Value} (H':Hp) (hr:qgc r=some v) (_hd:∀ i,H'.getD i none=none) (h:PC P f args [] r H'):PC P f args [] r []:=by
 obtain ⟨h1,_,h2⟩:=h
 refine ⟨h1,Nat.le_refl _,fun c vs hh hrl=>(h2 c vs hh hrl).mono ?_⟩
 rintro e w' ⟨u,c',rfl,rfl,h3,h4⟩
 have hno:∀ (H:Hp),(∀ i,H.getD i none=none)→∀ i,¬ vD (ZF H) i:=fun H hH i ⟨T,cs,hx⟩=>by rw [QH,hH] at hx;cases hx
 have hno0:=hno [] (fun i=>by simp)
 have hown:∀ i x,c.own i=some x→False:=fun i x hx=>by have:i<0:=hh.ids i x hx;omega
 have hk:=h3.keep
 refine ⟨u,⟨c'.w,c'.S,fun _=>none⟩,rfl,rfl,{ ids:=fun i x hx=>(by cases hx),blk:=fun i T cs hx=>absurd ⟨T,cs,hx⟩ (hno0 i),inj:=fun i j b T T' l1=>absurd l1 (hno0 i),apart:=fun i b T l1=>absurd l1 (hno0 i),bnd:=fun i b T hx=>(by cases hx),sok:=h3.sok,os:=h3.os,tape:=h3.tape,output:=h3.output,size:=h3.size,same:=h3.same,laid:=h3.laid,s0:=h3.s0,s1:=h3.s1,keep:=⟨hk.S,fun i x hx=>(hown i x hx).elim,hk.shape⟩ },?_⟩
 have e:u=v:=by
  unfold qgc at hr
  split at hr
  ·split at hr
   case h_2=>cases hr
   rename_i cs l hl
   cases hr
   obtain ⟨vs2,rfl,q1,q2⟩:=qgv h4
   rw [ZB (f:=ZD) (fs:=jY) rfl (fun _ _=>rfl) (fun _ _ _ h k=>ZC h k) hl ⟨q1,q2⟩]
  ·exact ZC hr h4
 rw [e]
 exact .sh (qeh hr)
theorem ren_shd {σ:Nat→Nat} {p:PV} (h:p.shd=true):ren σ p=p:=by
 cases p <;> first|rfl|cases h
theorem qQ {σ:Nat→Nat}:∀ {cs:List PV},YY cs→qT σ cs=cs
 | [],_=>rfl
 | p :: l,h=>by
  rw [qT,ren_shd (h p (by simp)),qQ (fun q hq=>h q (by simp [hq]))]
theorem qat {α:Type} (f:α→List PV) (hf:∀ x,(f x).all PV.shd=true) (l:List α):YY (l.flatMap f):=fun p hp=>by
 obtain ⟨x,_,hx⟩:=List.mem_flatMap.1 hp
 exact List.all_eq_true.1 (hf x) p hx
def lf (k:Nat):List (Nat × List PV)→Option (List PV)
 | []=>none
 | x :: F=>match Nat.beq k x.1 with | true=>some x.2 | false=>lf k F
def fixF (F:List (Nat × List PV)) (x:Nat × Option Val):Option Val:=match x.2 with
 | some (.blk T cs)=>match lf x.1 F with | some ds=>some (.blk T ds) | none=>some (.blk T cs)
 | some (.pv p)=>some (.pv p)
 | none=>none
def rvalF (σ:Nat→Nat) (F:List (Nat × List PV)) (x:Nat × Option Val):Option Val:=match x.2 with
 | some (.blk T cs)=>match lf x.1 F with | some ds=>some (.blk T ds) | none=>some (.blk T (qT σ cs))
 | some (.pv p)=>some (.pv (ren σ p))
 | none=>none
theorem lf_shd {k:Nat} {cs:List PV}:∀ {F:List (Nat × List PV)},(∀ q∈F.map (fun x=>YY x.2),q)→lf k F=some cs→YY cs
 | [],_,h=>by cases h
 | x :: F,hF,h=>by
  simp only [lf] at h
  split at h
  ·cases h
   exact hF _ (by simp)
  ·exact lf_shd (F:=F) (fun q hq=>hF q (by simp only [List.map_cons,List.mem_cons];exact .inr hq)) h
theorem Wk.ren3 {P:Program} {n:Nat} {c0:Cx} {Bor:BorD} {n0:Nat} {l:L} (l':L) (m:Nat) (hc0:∀ i x,c0.own i=some x→i<m) (σl:List Nat) (F:List (Nat × List PV)) (hF:∀ q∈F.map (fun x=>YY x.2),q) (hx:l'.map (fixF F)=l'.map (fun x=>x.2)) (hσ:σl.take m=List.range m) (hnd:vE σl=true) (hb:Yx σl.length l'=true)
  (h:l'.map (fun x=>get l (rkey (WY n0 σl) x.1))=l'.map (rvalF (WY n0 σl) F)):Wk P n c0 Bor n0 l σl.length l' :=
 Wk.ren2 l' m hc0 σl hσ hnd hb (h.trans (List.map_congr_left fun x hxl=>by
  have h1:=List.map_inj_left.1 hx x hxl
  obtain ⟨k,v⟩:=x
  cases v with
  | none=>rfl
  | some v =>
   cases v with
   | pv p=>rfl
   | blk T cs =>
    simp only [fixF,rvalF,rval] at h1 ⊢
    cases hl:lf k F with
    | none=>rfl
    | some ds =>
     rw [hl] at h1
     simp only [Option.some.injEq,Val.blk.injEq] at h1
     simp only [Option.some.injEq,Val.blk.injEq,true_and]
     rw [← h1.2,qQ (lf_shd hF hl)]))
theorem Wk.slot {P:Program} {n:Nat} {c0:Cx} {Bor:BorD} {n0:Nat} {l:L} (s:Nat) (p q:PV) (hs:get l (Pm.ks s)=some (.pv p)) (hpq:∀ c v,Rep P c p v→Rep P c q v):Wk P n c0 Bor n0 l n0 ([(ks s,some (.pv q))]++l):=fun cx a hI=>by
 have hge:∀ k,get ([(Pm.ks s,some (.pv q))]++l) k=if Nat.beq k (Pm.ks s) then some (.pv q) else get l k:=fun k=>by
  rw [vI]
  simp only [zC,lk]
  by_cases h1:Nat.beq k (Pm.ks s)=true
  ·simp [h1]
  ·simp only [h1];rfl
 have hb:∀ i,get ([(Pm.ks s,some (.pv q))]++l) (kb i)=get l (kb i):=fun i=>by
  rw [hge,qba];rfl
 have hl:∀ i,vD (get ([(Pm.ks s,some (.pv q))]++l)) i→vD (get l) i:=fun i ⟨T',cs,hx⟩=>⟨T',cs,by rw [← hb];exact hx⟩
 refine ⟨cx,rfl,{ ids:=hI.ids,blk:=fun i T' cs hx=>hI.blk i T' cs (by rw [← hb];exact hx),inj:=fun i j b T T' l1 l2=>hI.inj i j b T T' (hl i l1) (hl j l2),apart:=fun i b T l1=>hI.apart i b T (hl i l1),bnd:=hI.bnd,sok:=hI.sok,os:=hI.os,tape:=hI.tape,output:=hI.output,size:=hI.size,same:=hI.same,laid:=hI.laid,s0:=hI.s0,s1:=hI.s1,keep:=hI.keep,tmps:=hI.tmps,dfr:=hI.dfr,slot:=fun s' p' hp=>?_,isv:=fun s' x hx=>?_ }⟩
 ·rw [hge,ZU] at hp
  by_cases e:s'=s
  ·subst e
   rw [decide_eq_true rfl,if_pos rfl] at hp
   cases hp
   exact hpq _ _ (hI.slot s' _ hs)
  ·rw [decide_eq_false e,if_neg (by simp)] at hp
   exact hI.slot s' p' hp
 ·rw [hge,ZU] at hx
  by_cases e:s'=s
  ·subst e
   rw [decide_eq_true rfl,if_pos rfl] at hx
   cases hx
   exact ⟨_,rfl⟩
  ·rw [decide_eq_false e,if_neg (by simp)] at hx
   exact hI.isv s' x hx
def qao (σl:List Nat) (l:L):List Nat:=l.filterMap fun x=>match x.2 with|some (.blk _ _)=>some (σl.getD (x.1 / 2) 0)|_=>none
theorem qfo {l:L} {k:Nat} {T:TypeId} {cs:List PV} (h:get l k=some (.blk T cs)):∃ i,∃ h:i<l.length,(l[i]).1=k∧∃ T cs,(l[i]).2=some (.blk T cs):=by
 induction l with
 | nil=>simp [get,lk] at h
 | cons x l ih =>
  simp only [get,lk] at h ih
  by_cases e:Nat.beq k x.1=true
  ·rw [if_pos e] at h
   exact ⟨0,by simp,(Nat.eq_of_beq_eq_true e).symm,T,cs,by simpa using h⟩
  ·rw [if_neg e] at h
   obtain ⟨i,hi,h1,h2⟩:=ih h
   exact ⟨i+1,by simp;omega,h1,h2⟩
theorem qfp {σl:List Nat}:∀ {l:L},vE (qao σl l)=true→∀ i j (hi:i<l.length) (hj:j<l.length),(∃ T cs,(l[i]).2=some (.blk T cs))→(∃ T cs,(l[j]).2=some (.blk T cs))→σl.getD ((l[i]).1 / 2) 0=σl.getD ((l[j]).1 / 2) 0→i=j
 | [],_,i,_,hi,_,_,_,_=>absurd hi (Nat.not_lt_zero _)
 | x :: l,h,i,j,hi,hj,⟨T1,c1,h1⟩,⟨T2,c2,h2⟩,he=>by
  have mem:∀ q (hq:q<l.length),(∃ T cs,(l[q]).2=some (.blk T cs))→σl.getD ((l[q]).1 / 2) 0∈qao σl l:=fun q hq ⟨T,cs,hh⟩ =>
   List.mem_filterMap.2 ⟨l[q],List.getElem_mem hq,by rw [hh]⟩
  cases i with
  | zero =>
   cases j with
   | zero=>rfl
   | succ j =>
    exfalso
    simp only [List.getElem_cons_zero,List.getElem_cons_succ] at h1 h2 he
    have hm:=mem j (by simpa using hj) ⟨T2,c2,h2⟩
    simp only [qao,List.filterMap_cons,h1] at h
    rw [← he] at hm
    simp only [vE,Bool.and_eq_true] at h
    have:=List.all_eq_true.1 h.1 _ hm
    rw [Nat.beq_refl] at this
    cases this
  | succ i =>
   have hl:vE (qao σl l)=true:=by
    simp only [qao,List.filterMap_cons] at h
    split at h
    ·exact h
    ·simp only [vE,Bool.and_eq_true] at h
     exact h.2
   cases j with
   | zero =>
    exfalso
    simp only [List.getElem_cons_zero,List.getElem_cons_succ] at h1 h2 he
    have hm:=mem i (by simpa using hi) ⟨T1,c1,h1⟩
    simp only [qao,List.filterMap_cons,h2] at h
    rw [he] at hm
    simp only [vE,Bool.and_eq_true] at h
    have:=List.all_eq_true.1 h.1 _ hm
    rw [Nat.beq_refl] at this
    cases this
   | succ j =>
    have:=qfp hl i j (by simpa using hi) (by simpa using hj) ⟨T1,c1,h1⟩ ⟨T2,c2,h2⟩ he
    omega
section
variable {P:Program} {n:Nat} {c0:Cx} {Bor:BorD} {n0:Nat} {l:L}
theorem Wk.renD {l':L} (m:Nat) (hc0:∀ i x,c0.own i=some x→i<m) (σl:List Nat) (hσ:σl.take m=List.range m) (hnd:vE (qao σl l')=true) (h:∀ p∈reSt (WY n0 σl) σl.length l' (get l),p):Wk P n c0 Bor n0 l σl.length l':=fun cx a hI=>by
 have hsp:=qbk h
 have hs1:∀ i,i<σl.length→WY n0 σl i=σl.getD i 0:=fun i hi=>by
  unfold WY
  rw [show Nat.blt i σl.length=true from by simpa [Nat.blt_eq] using hi]
 have hs2:∀ i,σl.length≤i→cx.own (WY n0 σl i)=none:=fun i hi=>by
  unfold WY
  rw [show Nat.blt i σl.length=false from by rw [Bool.eq_false_iff,Ne,Nat.blt_eq];omega]
  cases ho:cx.own (n0+i) with
  | none=>rfl
  | some x=>have:n0+i<n0:=hI.ids _ x ho;omega
 have hlv:∀ i,vD (get l') i→i<σl.length∧vD (get l) (WY n0 σl i):=fun i ⟨T,cs,hx⟩=>by
  have h1:=hsp _ _ hx
  simp only at h1
  rw [show kb i / 2=i by simp only [kb];omega] at h1
  exact ⟨h1.2.1,T,_,h1.2.2⟩
 refine ⟨cx.via (WY n0 σl),rfl,{ ids:=fun i x hx=>?_,blk:=fun i T cs hx=>?_,inj:=fun i j b T T' l1 l2 h3 h4=>?_,apart:=fun i b T l1 h2=>hI.apart _ b T (hlv i l1).2 h2,bnd:=fun i b T h1=>hI.bnd _ b T h1,sok:=hI.sok,os:=hI.os,tape:=hI.tape,output:=hI.output,size:=hI.size,same:=hI.same,laid:=hI.laid,s0:=hI.s0,s1:=hI.s1,keep:=⟨hI.keep.S,fun i x hx=>?_,hI.keep.shape⟩,tmps:=hI.tmps,dfr:=hI.dfr,slot:=fun s p hp=>?_,isv:=fun s x hx=>?_ }⟩
 ·show i<σl.length
  rcases Nat.lt_or_ge i σl.length with h1|h1
  ·exact h1
  ·have:cx.own (WY n0 σl i)=some x:=hx
   rw [hs2 i h1] at this
   cases this
 ·have h1:=hsp _ _ hx
  simp only at h1
  rw [show kb i / 2=i by simp only [kb];omega] at h1
  obtain ⟨ob,h5,h6,h7⟩:=hI.blk _ _ _ h1.2.2
  refine ⟨ob,h5,ones_renL.1 h6,?_⟩
  rcases h7 with ⟨h7,h8⟩|⟨b,arr,h7,h8,h9,h10⟩
  ·exact .inl ⟨h7,qir h8⟩
  ·rw [qw] at h9 h10
   exact .inr ⟨b,arr,h7,h8,h9,fun j hj=>jI (h10 j hj) _ (yk _ _ j hj)⟩
 ·obtain ⟨e1,l1'⟩:=hlv i l1
  obtain ⟨e2,l2'⟩:=hlv j l2
  have h5:=hI.inj _ _ b T T' l1' l2' h3 h4
  rw [hs1 i e1,hs1 j e2] at h5
  obtain ⟨_,_,hx1⟩:=l1
  obtain ⟨_,_,hx2⟩:=l2
  obtain ⟨p,hp,h6,h7⟩:=qfo hx1
  obtain ⟨q,hq,h8,h9⟩:=qfo hx2
  have h10:=qfp hnd p q hp hq h7 h9 (by rw [h6,h8,show kb i / 2=i by simp only [kb];omega,show kb j / 2=j by simp only [kb];omega];exact h5)
  subst h10
  rw [h6] at h8
  simp only [kb] at h8
  omega
 ·have h1:=hc0 i x hx
  have h2:i<σl.length:=by
   have:=congrArg List.length hσ
   simp at this
   omega
  have h3:σl.getD i 0=i:=by
   have h4:=List.getElem?_take_of_lt (l:=σl) h1
   rw [hσ] at h4
   rw [List.getD_eq_getElem?_getD,← h4]
   simp [h1]
  show cx.own (WY n0 σl i)=some x
  rw [hs1 i h2,h3]
  exact hI.keep.own i x hx
 ·have h1:=hsp _ _ hp
  exact jI (hI.slot s _ h1) _ rfl
 ·cases x with
  | pv p=>exact ⟨p,rfl⟩
  | blk T cs =>
   have h1:=hsp _ _ hx
   simp only [Pm.ks] at h1
   omega
theorem Wk.ren2D (l':L) (m:Nat) (hc0:∀ i x,c0.own i=some x→i<m) (σl:List Nat) (hσ:σl.take m=List.range m) (hnd:vE (qao σl l')=true) (hb:Yx σl.length l'=true)
  (h:l'.map (fun x=>get l (rkey (WY n0 σl) x.1))=l'.map (fun x=>rval (WY n0 σl) x.2)):Wk P n c0 Bor n0 l σl.length l':=Wk.renD m hc0 σl hσ hnd (qgw h hb)
theorem Wk.ren3D (l':L) (m:Nat) (hc0:∀ i x,c0.own i=some x→i<m) (σl:List Nat) (F:List (Nat × List PV)) (hF:∀ q∈F.map (fun x=>YY x.2),q) (hx:l'.map (fixF F)=l'.map (fun x=>x.2)) (hσ:σl.take m=List.range m) (hnd:vE (qao σl l')=true) (hb:Yx σl.length l'=true)
  (h:l'.map (fun x=>get l (rkey (WY n0 σl) x.1))=l'.map (rvalF (WY n0 σl) F)):Wk P n c0 Bor n0 l σl.length l' :=
 Wk.ren2D l' m hc0 σl hσ hnd hb (h.trans (List.map_congr_left fun x hxl=>by
  have h1:=List.map_inj_left.1 hx x hxl
  obtain ⟨k,v⟩:=x
  cases v with
  | none=>rfl
  | some v =>
   cases v with
   | pv p=>rfl
   | blk T cs =>
    simp only [fixF,rvalF,rval] at h1 ⊢
    cases hl:lf k F with
    | none=>rfl
    | some ds =>
     rw [hl] at h1
     simp only [Option.some.injEq,Val.blk.injEq] at h1
     simp only [Option.some.injEq,Val.blk.injEq,true_and]
     rw [← h1.2,qQ (lf_shd hF hl)]))
theorem Wk.nilc (id j:Nat) (T:TypeId) {B:TypeId} {cells:List PV} (hs:get l (kb id)=some (.blk B cells)) (hj:cells[j]? = some (.av (.slice none 0 0))):Wk P n c0 Bor n0 l (n0+1) ([(kb id,some (.blk B (cells.set j (.osl n0 0 0)))),(kb n0,some (.blk T []))]++l):=fun cx a hI=>by
 obtain ⟨hk,hh⟩:=YN hI.toHeap (id:=n0) (fun h=>absurd h (Nat.lt_irrefl _)) T
 obtain ⟨ob0,ho0,_⟩:=hI.blk id B cells hs
 have hid:id<n0:=hI.ids id _ ho0
 have hg:zC [(kb n0,some (.blk T []))] (get l) (kb id)=some (.blk B cells):=by rw [jK,if_neg (by omega)];exact hs
 refine ⟨⟨cx.w,cx.S,yH cx.own n0 (none,T)⟩,rfl,?_⟩
 have hge:∀ k,get ([(kb id,some (.blk B (cells.set j (.osl n0 0 0)))),(kb n0,some (.blk T []))]++l) k=if Nat.beq k (kb id) then some (.blk B (cells.set j (.osl n0 0 0))) else zC [(kb n0,some (.blk T []))] (get l) k:=fun k=>by
  rw [vI]
  simp only [zC,lk]
  by_cases h1:Nat.beq k (kb id)=true
  ·simp [h1]
  ·simp only [h1];rfl
 have hb:∀ i,get ([(kb id,some (.blk B (cells.set j (.osl n0 0 0)))),(kb n0,some (.blk T []))]++l) (kb i)=if i=id then some (.blk B (cells.set j (.osl n0 0 0))) else zC [(kb n0,some (.blk T []))] (get l) (kb i):=fun i=>by
  rw [hge,ZV];by_cases e:i=id <;> simp [e]
 have hsl:∀ s,get ([(kb id,some (.blk B (cells.set j (.osl n0 0 0)))),(kb n0,some (.blk T []))]++l) (Pm.ks s)=get l (Pm.ks s):=fun s=>by
  rw [hge,jD,if_neg (by simp),WM]
 have hl:∀ i,vD (get ([(kb id,some (.blk B (cells.set j (.osl n0 0 0)))),(kb n0,some (.blk T []))]++l)) i→vD (zC [(kb n0,some (.blk T []))] (get l)) i:=fun i ⟨T',cs,hx⟩=>by
  rw [hb] at hx
  by_cases e:i=id
  ·subst e;exact ⟨B,cells,hg⟩
  ·rw [if_neg e] at hx;exact ⟨T',cs,hx⟩
 exact { ids:=fun i x hx=>by
           rcases hh.ids i x hx with h|h
           · exact Nat.lt_succ_of_lt h
           · subst h;exact Nat.lt_succ_self _
         blk:=fun i T' cs hx=>by
           rw [hb] at hx
           by_cases e:i=id
           · subst e
             rw [if_pos rfl] at hx
             cases hx
             obtain ⟨ob,h1,h2,h3⟩:=hh.blk i B cells hg
             refine ⟨ob,h1,fun p hp=>?_,?_⟩
             · rcases List.mem_or_eq_of_mem_set hp with h|h
               · exact h2 p h
               · rw [h];rfl
             · rcases h3 with ⟨_,h4⟩|⟨b,arr,h4,h5,h6,h7⟩
               · rw [h4] at hj;simp at hj
               · refine .inr ⟨b,arr,h4,h5,by rw [List.length_set];exact h6,fun q hq=>?_⟩
                 rw [List.length_set] at hq
                 by_cases e:q=j
                 · subst e
                   have h8:=h7 q hq
                   have e2:cells.getD q P0 = .av (.slice none 0 0):=by rw [List.getD_eq_getElem?_getD,hj];rfl
                   rw [e2] at h8
                   rw [show (cells.set q (.osl n0 0 0)).getD q P0 = .osl n0 0 0 from by rw [List.getD_eq_getElem?_getD,List.getElem?_set_self hq];rfl,qy h8]
                   exact .osl zk (.inl ⟨_,rfl,rfl⟩)
                 · rw [show (cells.set j (.osl n0 0 0)).getD q P0=cells.getD q P0 from by rw [List.getD_eq_getElem?_getD,List.getD_eq_getElem?_getD,List.getElem?_set_ne (Ne.symm e)]]
                   exact h7 q hq
           · rw [if_neg e] at hx
             exact hh.blk i T' cs hx
         inj:=fun i j b T T' l1 l2=>hh.inj i j b T T' (hl i l1) (hl j l2),apart:=fun i b T l1=>hh.apart i b T (hl i l1),bnd:=hh.bnd,sok:=hh.sok,
         os:=hh.os,tape:=hh.tape,output:=hh.output,size:=hh.size,same:=hh.same,laid:=hh.laid,s0:=hh.s0,s1:=hh.s1,keep:=hh.keep,tmps:=hI.tmps,dfr:=hI.dfr
         slot:=fun s' p hp=>by
           rw [hsl] at hp
           exact (hI.slot s' p hp).mono hk
         isv:=fun s' x hx=>by
           rw [hsl] at hx
           exact hI.isv s' x hx }
end
def apartK (ws:Nat→List Nat) (rd:Nat→List Nat) (bf:List (List Nat)) (n:Nat):Bool :=
 (List.range n).all fun j=>(List.range j).all fun i=>(bf.getD j []).contains i ||
  (((ws i).all fun k=>!(ws j).contains k && !(rd j).contains k) && (ws j).all fun k=>!(rd i).contains k)
theorem hits_mem {l:L} {k:Nat}:jP l k=true→k∈l.map (·.1):=fun h=>by
 obtain ⟨x,hx,rfl⟩:=VF h
 exact List.mem_map.2 ⟨x,hx,rfl⟩
theorem apart_of {W:Nat→L} {rd:Nat→List Nat} {ws rs:Nat→List Nat} {bf:List (List Nat)} {n:Nat} (hw:∀ i,i<n→∀ x∈W i,x.1∈ws i) (hr:∀ i,i<n→∀ k∈rd i,k∈rs i) (h:apartK ws rs bf n=true):YO W rd bf n=true:=by
 simp only [apartK,YO,List.all_eq_true,List.mem_range,Bool.or_eq_true,Bool.and_eq_true,Bool.not_eq_true'] at h ⊢
 intro j hj i hi
 rcases h j hj i hi with h1|⟨h1,h2⟩
 ·exact .inl h1
 ·refine .inr ⟨fun x hx=>?_,fun x hx=>?_⟩
  ·obtain ⟨h3,h4⟩:=h1 x.1 (hw i (by omega) x hx)
   refine ⟨?_,?_⟩
   ·cases hh:jP (W j) x.1 with
    | false=>rfl
    | true =>
     obtain ⟨y,hy,e⟩:=List.mem_map.1 (hits_mem hh)
     have:=hw j hj y hy
     rw [e] at this
     rw [List.contains_iff_mem.2 this] at h3
     cases h3
   ·cases hh:(rd j).contains x.1 with
    | false=>rfl
    | true =>
     have:=hr j hj x.1 (List.contains_iff_mem.1 hh)
     rw [List.contains_iff_mem.2 this] at h4
     cases h4
  ·have h3:=h2 x.1 (hw j hj x hx)
   cases hh:(rd i).contains x.1 with
   | false=>rfl
   | true =>
    have:=hr i (by omega) x.1 (List.contains_iff_mem.1 hh)
    rw [List.contains_iff_mem.2 this] at h3
    cases h3
def subK (l m:List Nat):Bool:=l.all fun k=>m.contains k
def qjl:List Oper→List Out→List (List Nat × List Nat)→Bool
 | [],[],[]=>true
 | o :: os,x :: xs,k :: ks=>match subK ((wr o.dst x).map (·.1)) k.1,subK x.reads k.2 with
  | true,true=>qjl os xs ks
  | _,_=>false
 | _,_,_=>false
theorem WQ:∀ {os:List Oper} {xs:List Out} {ks:List (List Nat × List Nat)},qjl os xs ks=true→∀ i o x,os[i]? = some o→xs[i]? = some x →
  (∀ y∈wr o.dst x,y.1∈(ks.getD i ([],[])).1)∧∀ k∈x.reads,k∈(ks.getD i ([],[])).2
 | o :: os,x :: xs,k :: ks,h,0,o',x',ho,hx=>by
  simp only [qjl] at h
  split at h
  ·rename_i h1 h2
   simp only [List.getElem?_cons_zero,Option.some.injEq] at ho hx
   subst ho;subst hx
   refine ⟨fun y hy=>?_,fun q hq=>?_⟩
   ·exact List.contains_iff_mem.1 (List.all_eq_true.1 h1 y.1 (List.mem_map.2 ⟨y,hy,rfl⟩))
   ·exact List.contains_iff_mem.1 (List.all_eq_true.1 h2 q hq)
  ·cases h
 | o :: os,x :: xs,k :: ks,h,i+1,o',x',ho,hx=>by
  simp only [qjl] at h
  split at h
  ·exact WQ h i o' x' (by simpa using ho) (by simpa using hx)
  ·cases h
 | [],_,_,_,i,_,_,ho,_=>by simp at ho
 | _ :: _,[],_,_,i,_,_,_,hx=>by simp at hx
def evrK (P:Program) (n:Nat) (ops:List Oper) (n0:Nat) (ans:List (Nat × Ans)) (ks:List (List Nat × List Nat)) (live:List Nat) (l:L):Option (L × List Prop) :=
 match evs P n ops n0 ans ops 0 l with
 | some (l',obs,outs)=>match qjl ops outs ks with
  | true=>some (live.map fun k=>(k,get l' k),obs)
  | false=>none
 | none=>none
def qkf (ops:List Oper) (bf:List (List Nat)) (ks:List (List Nat × List Nat)):Bool:=befB ops bf && apartK (fun i=>(ks.getD i ([],[])).1) (fun i=>(ks.getD i ([],[])).2) bf ops.length
theorem evs_len {P:Program} {n:Nat} {ops:List Oper} {n0:Nat} {ans:List (Nat × Ans)}:∀ {r:List Oper} {i:Nat} {l l':L} {obs:List Prop} {outs:List Out},evs P n ops n0 ans r i l=some (l',obs,outs)→outs.length=r.length
 | [],i,l,l',obs,outs,h=>by
  simp only [evs,Option.some.injEq,Prod.mk.injEq] at h
  obtain ⟨_,_,rfl⟩:=h
  rfl
 | o :: r,i,l,l',obs,outs,h=>by
  simp only [evs] at h
  split at h
  case h_2=>cases h
  split at h
  case h_2=>cases h
  rename_i l1 obs1 outs1 he
  simp only [Option.some.injEq,Prod.mk.injEq] at h
  obtain ⟨_,_,rfl⟩:=h
  simp [evs_len he]
theorem regionK_ok {E:Env} {n0:Nat} {l l':L} {id:Nat} {ops:Array Oper} {ans:List (Nat × Ans)} {bf:List (List Nat)} {ks:List (List Nat × List Nat)} {live:List Nat} {obs:List Prop} (hm:E.P.follows .mixedOrders=true) (h:evrK E.P E.n ops.toList n0 ans ks live l=some (l',obs)) (hd:qkf ops.toList bf ks=true) (hob:∀ p∈obs,p)
  {Q:Exit→Act→World→Prop} (hQ:∀ c a,Inv E (· < n0+8*ops.size) c (get l') a→Q .normal a c.w) {c:Cx} {a:Act} (hI:Inv E (· < n0) c (get l) a):(Code.region id ops true).wp E.P Q a c.w:=by
 unfold evrK at h
 split at h
 case h_2=>cases h
 rename_i l1 obs1 outs he
 split at h
 case h_2=>cases h
 rename_i hk
 simp only [Option.some.injEq,Prod.mk.injEq] at h
 obtain ⟨rfl,rfl⟩:=h
 simp only [qkf,Bool.and_eq_true] at hd
 have hl:=evs_len he
 have hap:YO (Wt ops.toList.toArray fun i=>outs.getD i jL) (fun i=>(outs.getD i jL).reads) bf ops.toList.length=true:=by
  refine apart_of (fun i hi x hx=>?_) (fun i hi k hk'=>?_) hd.2
  ·have h1:ops.toList[i]? = some ops.toList[i]:=by simp only [List.getElem?_eq_getElem hi]
   have h2:outs[i]? = some (outs.getD i jL):=by rw [List.getD_eq_getElem?_getD,List.getElem?_eq_getElem (by omega)];rfl
   refine (WQ hk i _ _ h1 h2).1 x ?_
   have:Wt ops.toList.toArray (fun i=>outs.getD i jL) i=wr ops.toList[i].dst (outs.getD i jL):=by
    unfold Wt
    rw [List.getElem?_toArray,h1]
    rfl
   rw [this] at hx
   exact hx
  ·have h1:ops.toList[i]? = some ops.toList[i]:=by simp only [List.getElem?_eq_getElem hi]
   have h2:outs[i]? = some (outs.getD i jL):=by rw [List.getD_eq_getElem?_getD,List.getElem?_eq_getElem (by omega)];rfl
   exact (WQ hk i _ _ h1 h2).2 k hk'
 obtain ⟨h1,h2,h3⟩:=qek (g0:=get l) (tab:=fun i=>outs.getD i jL) he (by simp) (fun j _=>by simp) (by
  funext k
  have:∀ m,yj (get l) (Wt ops.toList.toArray fun i=>outs.getD i jL) (fun j=>decide (j<0)) m=get l:=fun m=>by
   induction m with
   | zero=>rfl
   | succ m ih=>simp only [yj,Nat.not_lt_zero,decide_false,Bool.false_eq_true,if_false];exact ih
  rw [this])
 have hops:ops.toList.toArray=ops:=by simp
 have hlen:ops.toList.length=ops.size:=by simp
 have hstep:∀ i o,ops.toList[i]? = some o→∀ g,(∀ k∈(outs.getD i jL).reads,g k=yj (get l) (Wt ops.toList.toArray fun i=>outs.getD i jL) (fun j=>decide (j<i)) ops.toList.length k)→VO E ops.toList.toArray i o (outs.getD i jL) (n0+8*i) g:=by
  intro i o ho g hg
  obtain ⟨h4,h5,h6⟩:=h3 i o (Nat.zero_le _) ho
  exact qed ho h6 (QX h4 hg) fun p hp=>hob p (h5 p hp)
 have hfin:∀ {c:Cx} {a:Act},Inv E (fun id=>id<n0+8*ops.toList.length) c (yj (get l) (Wt ops.toList.toArray fun i=>outs.getD i jL) (fun _=>true) ops.toList.length) a→Q .normal a c.w:=by
  intro c a h
  rw [← h2,hlen] at h
  exact hQ c a (h.less fun k v hk=>qeg k v hk)
 have hs:=any_ops (E:=E) (l:=ops.toList) (g0:=get l) (tab:=fun i=>outs.getD i jL) (n0:=n0) hd.1 hap hstep (Q:=Q) (fun c a h=>hfin h)
   ops.toList.length (Array.replicate ops.toList.length false) ⟨{ c.w with drawn:=c.w.drawn+1 },c.S,c.own⟩ a (by simp) (by
    rw [Qw (g:=fun _=>false) fun i _=>vv _ _]
    exact YM _) (fun j o _ hj=>by
    have hj':(Array.replicate ops.toList.length false).getD j false=true:=hj
    rw [vv] at hj'
    cases hj') (by
    have h0:yj (get l) (Wt ops.toList.toArray fun i=>outs.getD i jL) (fun j=>(Array.replicate ops.toList.length false).getD j false) ops.toList.length=get l:=by
     have e:(fun j=>(Array.replicate ops.toList.length false).getD j false)=fun _=>false:=funext fun j=>vv _ j
     rw [e]
     have:∀ m,yj (get l) (Wt ops.toList.toArray fun i=>outs.getD i jL) (fun _=>false) m=get l:=fun m=>by
      induction m with
      | zero=>rfl
      | succ m ih=>simp only [yj,Bool.false_eq_true,if_false];exact ih
     exact this _
    rw [h0]
    exact (hI.drawn _).more fun i hi=>.inl hi)
 rw [hops] at hs
 refine wp_region_any hm ?_
 rw [hlen] at hs
 exact hs
theorem T_regionD {P:Program} {n:Nat} {c0:Cx} {Bor:BorD} {Q:Yq} {n0:Nat} {l:L} {rs:List Item} {id:Nat} {ops:Array Oper} (ans:List (Nat × Ans)) (bf:List (List Nat)) (ks:List (List Nat × List Nat)) (live:List Nat) {l':L} {obs:List Prop} (hm:P.follows .mixedOrders=true) (h:evrK P n ops.toList n0 ans ks live l=some (l',obs)) (hd:qkf ops.toList bf ks=true) (hob:∀ p∈obs,p)
  (hT:T P n c0 Bor Q (n0+8*ops.size) l' rs):T P n c0 Bor Q n0 l (.code (.region id ops true) :: rs):=fun _ _ hI =>
 regionK_ok (E:=⟨P,n,c0,Bor⟩) hm h hd hob (fun c a h=>⟨c,rfl,hT c a h⟩) hI
abbrev nv (n:Nat):PV:=iv (n:Int)
abbrev fv (n:FuncId):PV:=.av (.func (.func n) #[] #[])
section
variable {P:Program} {n:Nat} {c0:Cx} {Bor:BorD} {Q:Yq} {n0:Nat} {l:L} {rs:List Item}
theorem zU (hm:P.follows .mixedOrders=true) {id:Nat} {ops:Array Oper} {draw:Bool} (ans:List (Nat × Ans)) (l':L) {obs:List Prop} (hob:∀ p∈obs,p) (hT:T P n c0 Bor Q (n0+8*ops.size) l' rs)
  (h:evr P n ops.toList n0 ans draw (l'.map (·.1)) l=some (l',obs):=by kernel_rfl):T P n c0 Bor Q n0 l (.code (.region id ops draw) :: rs) :=
 T_region ans _ (fun _=>hm) h hob hT
theorem jQ (hm:P.follows .mixedOrders=true) {id:Nat} {ops:Array Oper} (ans:List (Nat × Ans)) (bf:List (List Nat)) (ks:List (List Nat × List Nat)) (l':L) {obs:List Prop} (hob:∀ p∈obs,p) (hT:T P n c0 Bor Q (n0+8*ops.size) l' rs)
  (h:evrK P n ops.toList n0 ans ks (l'.map (·.1)) l=some (l',obs):=by kernel_rfl) (hd:qkf ops.toList bf ks=true:=by kernel_rfl):T P n c0 Bor Q n0 l (.code (.region id ops true) :: rs) :=
 T_regionD ans bf ks _ hm h hd hob hT
theorem qX {t:Nat} {x y:Code} {b:Bool} (hv:b=true) (h:T P n c0 Bor Q n0 l (.code x :: rs)) (hb:get l (ks t)=some (.pv (.av (.bool b))):=by rfl):T P n c0 Bor Q n0 l (.code (.cond (.tmp t) x y) :: rs):=qU hb hv h
theorem qW {t:Nat} {x y:Code} {b:Bool} (hv:b=false) (h:T P n c0 Bor Q n0 l (.code y :: rs)) (hb:get l (ks t)=some (.pv (.av (.bool b))):=by rfl):T P n c0 Bor Q n0 l (.code (.cond (.tmp t) x y) :: rs):=zD hb hv h
theorem rt {m:Nat} {fn:Func} {r:PV} {H':Hp} (hc0:∀ i x,c0.own i=some x→i<m) (l':L) (σl:List Nat) {cx:Cx} {a:Act} (hI:Inv ⟨P,n,c0,Bor⟩ (· < n0) cx (get l) a)
  (hσ:σl.take m=List.range m:=by rfl) (hnd:vE σl=true:=by rfl) (hb:Yx σl.length l'=true:=by kernel_rfl)
  (h:l'.map (fun x=>get l (rkey (WY n0 σl) x.1))=l'.map (fun x=>rval (WY n0 σl) x.2):=by kernel_rfl) (hn:σl.length=H'.length:=by rfl)
  (hr:runv (get l') (resP P fn.results.toList fun ps=>.done (qfe ps) [])=some (r,[]):=by kernel_rfl) (hbk:∀ p∈qci l' 0 H',p:=by exact oz):retQ P fn c0 Bor r H' .ret cx a :=
 yw (.inr rfl) (Wk.ren2 l' m hc0 σl hσ hnd hb h) hn hbk (fun cx a hI=>yC hr cx a hI) hI
abbrev Ren0 (k:Nat) (a:List PV):Prop:=a=qT (qY [] k) a
end
theorem bt {p:Prop} [Decidable p] (h:p):(!decide p)=false:=by rw [decide_eq_true h];rfl
theorem bf {p:Prop} [Decidable p] (h:¬ p):(!decide p)=true:=by rw [decide_eq_false h];rfl
section
variable {P:Program} {n:Nat} {c0:Cx} {Bor:BorD} {Q:Yq} {n0:Nat} {l:L} {rs:List Item}
theorem zR {p:Prop} [Decidable p] (h:p):decide p=true:=decide_eq_true h
theorem zP {p:Prop} [Decidable p] (h:¬ p):decide p=false:=decide_eq_false h
/-! ### a state told by what changes -/
inductive Mk where
 | k1 | k2 | k3 | k4 | k5 | k6 | k7 | k8 | d | n | r
structure Kl (l:L):Type where
structure Kc (m:List Mk) (ch:L):Type where
instance kpe:HXor (Kl []) (Kc [] []) (Kl []):=⟨fun _ _=>⟨⟩⟩
instance kpr (l:L):HXor (Kl l) (Kc [.r] []) (Kl l):=⟨fun _ _=>⟨⟩⟩
instance kpn (l:L) (m:List Mk) (ch l':L) (c:Nat × Option Val) [HXor (Kl l) (Kc m ch) (Kl l')]:HXor (Kl l) (Kc (.n :: m) (c :: ch)) (Kl (c :: l')):=⟨fun _ _=>⟨⟩⟩
instance kpd (l:L) (m:List Mk) (ch l':L) (a:Nat × Option Val) [HXor (Kl l) (Kc m ch) (Kl l')]:HXor (Kl (a :: l)) (Kc (.d :: m) ch) (Kl l'):=⟨fun _ _=>⟨⟩⟩
instance kp1 (l:L) (m:List Mk) (ch l':L) (a0:Nat × Option Val) [HXor (Kl l) (Kc m ch) (Kl l')]:HXor (Kl (a0 :: l)) (Kc (.k1 :: m) ch) (Kl (a0 :: l')):=⟨fun _ _=>⟨⟩⟩
instance kp2 (l:L) (m:List Mk) (ch l':L) (a0 a1:Nat × Option Val) [HXor (Kl l) (Kc m ch) (Kl l')]:HXor (Kl (a0 :: a1 :: l)) (Kc (.k2 :: m) ch) (Kl (a0 :: a1 :: l')):=⟨fun _ _=>⟨⟩⟩
instance kp3 (l:L) (m:List Mk) (ch l':L) (a0 a1 a2:Nat × Option Val) [HXor (Kl l) (Kc m ch) (Kl l')]:HXor (Kl (a0 :: a1 :: a2 :: l)) (Kc (.k3 :: m) ch) (Kl (a0 :: a1 :: a2 :: l')):=⟨fun _ _=>⟨⟩⟩
instance kp4 (l:L) (m:List Mk) (ch l':L) (a0 a1 a2 a3:Nat × Option Val) [HXor (Kl l) (Kc m ch) (Kl l')]:HXor (Kl (a0 :: a1 :: a2 :: a3 :: l)) (Kc (.k4 :: m) ch) (Kl (a0 :: a1 :: a2 :: a3 :: l')):=⟨fun _ _=>⟨⟩⟩
instance kp5 (l:L) (m:List Mk) (ch l':L) (a0 a1 a2 a3 a4:Nat × Option Val) [HXor (Kl l) (Kc m ch) (Kl l')]:HXor (Kl (a0 :: a1 :: a2 :: a3 :: a4 :: l)) (Kc (.k5 :: m) ch) (Kl (a0 :: a1 :: a2 :: a3 :: a4 :: l')):=⟨fun _ _=>⟨⟩⟩
instance kp6 (l:L) (m:List Mk) (ch l':L) (a0 a1 a2 a3 a4 a5:Nat × Option Val) [HXor (Kl l) (Kc m ch) (Kl l')]:HXor (Kl (a0 :: a1 :: a2 :: a3 :: a4 :: a5 :: l)) (Kc (.k6 :: m) ch) (Kl (a0 :: a1 :: a2 :: a3 :: a4 :: a5 :: l')):=⟨fun _ _=>⟨⟩⟩
instance kp7 (l:L) (m:List Mk) (ch l':L) (a0 a1 a2 a3 a4 a5 a6:Nat × Option Val) [HXor (Kl l) (Kc m ch) (Kl l')]:HXor (Kl (a0 :: a1 :: a2 :: a3 :: a4 :: a5 :: a6 :: l)) (Kc (.k7 :: m) ch) (Kl (a0 :: a1 :: a2 :: a3 :: a4 :: a5 :: a6 :: l')):=⟨fun _ _=>⟨⟩⟩
instance kp8 (l:L) (m:List Mk) (ch l':L) (a0 a1 a2 a3 a4 a5 a6 a7:Nat × Option Val) [HXor (Kl l) (Kc m ch) (Kl l')]:HXor (Kl (a0 :: a1 :: a2 :: a3 :: a4 :: a5 :: a6 :: a7 :: l)) (Kc (.k8 :: m) ch) (Kl (a0 :: a1 :: a2 :: a3 :: a4 :: a5 :: a6 :: a7 :: l')):=⟨fun _ _=>⟨⟩⟩
theorem zE (hm:P.follows .mixedOrders=true) {id:Nat} {ops:Array Oper} {draw:Bool} (ans:List (Nat × Ans)) (m:List Mk) (ch:L) {l':L} [HXor (Kl l) (Kc m ch) (Kl l')] {obs:List Prop} (hob:∀ p∈obs,p) (hT:T P n c0 Bor Q (n0+8*ops.size) l' rs)
  (h:evr P n ops.toList n0 ans draw (l'.map (·.1)) l=some (l',obs):=by kernel_rfl):T P n c0 Bor Q n0 l (.code (.region id ops draw) :: rs) :=
 zU hm ans l' hob hT h
theorem ZG (hm:P.follows .mixedOrders=true) {id:Nat} {ops:Array Oper} (ans:List (Nat × Ans)) (bf:List (List Nat)) (ks:List (List Nat × List Nat)) (m:List Mk) (ch:L) {l':L} [HXor (Kl l) (Kc m ch) (Kl l')] {obs:List Prop} (hob:∀ p∈obs,p) (hT:T P n c0 Bor Q (n0+8*ops.size) l' rs)
  (h:evrK P n ops.toList n0 ans ks (l'.map (·.1)) l=some (l',obs):=by kernel_rfl) (hd:qkf ops.toList bf ks=true:=by kernel_rfl):T P n c0 Bor Q n0 l (.code (.region id ops true) :: rs) :=
 jQ hm ans bf ks l' hob hT h hd
/-! ### what several branches come to -/
end
theorem ik {n:Int} (h : -9223372036854775808≤n∧n≤9223372036854775807):InK .i64 n:=by simp only [InK];omega
def bfr (l:List (Nat × Nat)):List (List Nat):=l.map fun x=>List.range' x.1 x.2
abbrev TX:=List UInt8
theorem tt:true=true:=rfl
theorem ff:false=false:=rfl
theorem oi (n:Int) {l:List Prop} (h : -9223372036854775808≤n∧n≤9223372036854775807) (k:∀ q∈l,q):∀ q∈InK .i64 n :: l,q:=oc (ik h) k
def bfm (l:List (List (Nat × Nat))):List (List Nat):=l.map fun x=>x.flatMap fun y=>List.range' y.1 y.2
def gy (a n:Nat):List (Nat × Ans):=(List.range' a n).map fun i=>(i,.gd true .no)
def gn (a n:Nat):List (Nat × Ans):=(List.range' a n).map fun i=>(i,.gd false .no)
theorem on {p:Prop} {l:List Prop} (n:Nat) (h:p) (k:∀ q∈l,q):∀ q∈List.replicate n p++l,q:=fun q hq=>by
 rcases List.mem_append.1 hq with hq|hq
 ·rw [(List.mem_replicate.1 hq).2];exact h
 ·exact k q hq
abbrev sn:PV:=.av (.slice none 0 0)
abbrev rsA (i:List Nat) (n:Nat) (A:List PV):Prop:=qT (qY i n) A=qT (qY i n) A
theorem zY {P:Program} {f:FuncId} {A:List PV} {r:PV} {H':Hp} {l:List Prop} (n:Nat) (h:PC P f A [] r H') (k:∀ q∈l,q):∀ q∈PC P f A [] r H' :: rsA [] n A :: l,q:=oc h (oc rfl k)
theorem wM {P:Program} {f:FuncId} {A cs:List PV} {T:TypeId} {r:PV} {H':Hp} {l:List Prop} (i:List Nat) (n:Nat) (h:PC P f A [some (T,cs)] r H') (k:∀ q∈l,q):∀ q∈PC P f A [some (T,cs)] r H' :: rsA i n A :: rsA i n cs :: l,q:=oc h (oc rfl (oc rfl k))
def invS (σ:List Nat) (i:Nat):Nat:=σ.idxOf i
def cutS (σ ss:List Nat) (l:L):L:=ss.map (fun r=>(ks r,rval (invS σ) (get l (ks r))))++(List.range σ.length).map fun j=>(kb j,rval (invS σ) (get l (kb (σ.getD j 0))))
section
variable {P:Program} {n:Nat} {c0:Cx} {Bor:BorD} {Q:Yq} {n0:Nat} {l:L} {rs:List Item}
theorem qL (hm:P.follows .mixedOrders=true) {id:Nat} {ops:Array Oper} {draw:Bool} (m:List Mk) (ch:L) {l':L} [HXor (Kl l) (Kc m ch) (Kl l')] (hT:T P n c0 Bor Q (n0+8*ops.size) l' rs)
  (h:evr P n ops.toList n0 [] draw (l'.map (·.1)) l=some (l',[]):=by kernel_rfl):T P n c0 Bor Q n0 l (.code (.region id ops draw) :: rs):=zU hm [] l' oz hT h
theorem zN {m:Nat} {fn:Func} {r:PV} {H':Hp} (hc0:∀ i x,c0.own i=some x→i<m) (ss σl:List Nat)
  (hσ:σl.take m=List.range m:=by rfl) (hnd:vE σl=true:=by rfl) (hb:Yx σl.length (cutS σl ss l)=true:=by kernel_rfl)
  (h:(cutS σl ss l).map (fun x=>get l (rkey (WY n0 σl) x.1))=(cutS σl ss l).map (fun x=>rval (WY n0 σl) x.2):=by kernel_rfl) (hn:σl.length=H'.length:=by rfl)
  (hr:runv (get (cutS σl ss l)) (resP P fn.results.toList fun ps=>.done (qfe ps) [])=some (r,[]):=by kernel_rfl) (hbk:∀ p∈qci (cutS σl ss l) 0 H',p:=by exact oz):T P n c0 Bor (retQ P fn c0 Bor r H') n0 l (.code .ret :: rs) :=
 wV fun _ _ hI=>rt hc0 (cutS σl ss l) σl hI hσ hnd hb h hn hr hbk
theorem yJ (hm:P.follows .mixedOrders=true) {id:Nat} {ops:Array Oper} {draw:Bool} (pos:Nat) (m:List Mk) (ch:L) {l':L} [HXor (Kl l) (Kc m ch) (Kl l')] {f:FuncId} {A:List PV} {r:PV} {H':Hp} {k:Nat} {obs:List Prop} (hob:∀ p∈PC P f A [] r H' :: rsA [] k A :: obs,p) (hT:T P n c0 Bor Q (n0+8*ops.size) l' rs)
  (h:evr P n ops.toList n0 [(pos,.call [] A [] r H')] draw (l'.map (·.1)) l=some (l',PC P f A [] r H' :: rsA [] k A :: obs):=by kernel_rfl):T P n c0 Bor Q n0 l (.code (.region id ops draw) :: rs):=zU hm _ l' hob hT h
theorem vX (hm:P.follows .mixedOrders=true) {id:Nat} {ops:Array Oper} {draw:Bool} (pos:Nat) (m:List Mk) (ch:L) {l':L} [HXor (Kl l) (Kc m ch) (Kl l')] {f:FuncId} {A cs:List PV} {T':TypeId} {r:PV} {H':Hp} {i:List Nat} {k:Nat} {obs:List Prop} (hob:∀ p∈PC P f A [some (T',cs)] r H' :: rsA i k A :: rsA i k cs :: obs,p) (hT:T P n c0 Bor Q (n0+8*ops.size) l' rs)
  (h:evr P n ops.toList n0 [(pos,.call i A [some (T',cs)] r H')] draw (l'.map (·.1)) l=some (l',PC P f A [some (T',cs)] r H' :: rsA i k A :: rsA i k cs :: obs):=by kernel_rfl):T P n c0 Bor Q n0 l (.code (.region id ops draw) :: rs):=zU hm _ l' hob hT h
theorem T_r0 (hm:P.follows .mixedOrders=true) {id:Nat} {ops:Array Oper} {draw:Bool} (pos:Nat) (l':L) {f:FuncId} {A:List PV} {r:PV} {H':Hp} {k:Nat} {obs:List Prop} (hob:∀ p∈PC P f A [] r H' :: rsA [] k A :: obs,p) (hT:T P n c0 Bor Q (n0+8*ops.size) l' rs)
  (h:evr P n ops.toList n0 [(pos,.call [] A [] r H')] draw (l'.map (·.1)) l=some (l',PC P f A [] r H' :: rsA [] k A :: obs):=by kernel_rfl):T P n c0 Bor Q n0 l (.code (.region id ops draw) :: rs):=zU hm _ l' hob hT h
theorem T_r1 (hm:P.follows .mixedOrders=true) {id:Nat} {ops:Array Oper} {draw:Bool} (pos:Nat) (l':L) {f:FuncId} {A cs:List PV} {T':TypeId} {r:PV} {H':Hp} {i:List Nat} {k:Nat} {obs:List Prop} (hob:∀ p∈PC P f A [some (T',cs)] r H' :: rsA i k A :: rsA i k cs :: obs,p) (hT:T P n c0 Bor Q (n0+8*ops.size) l' rs)
  (h:evr P n ops.toList n0 [(pos,.call i A [some (T',cs)] r H')] draw (l'.map (·.1)) l=some (l',PC P f A [some (T',cs)] r H' :: rsA i k A :: rsA i k cs :: obs):=by kernel_rfl):T P n c0 Bor Q n0 l (.code (.region id ops draw) :: rs):=zU hm _ l' hob hT h
end
abbrev st (l:List UInt8):ByteArray:=⟨l.toArray⟩
theorem qj (a b:List UInt8):st a++st b=st (a++b):=by
 apply ByteArray.ext
 rw [ByteArray.data_append]
 simp
theorem qfd (l:List UInt8):(st l).toList=l:=by
 rw [ByteArray.toList_eq]
theorem zj (a b:List UInt8):((st a).toList == (st b).toList)=decide (a=b):=by
 rw [qfd,qfd]
 rw [Bool.eq_iff_iff];simp
theorem zw (a b:List UInt8):(!((st a).toList == (st b).toList)) = !decide (a=b):=by rw [zj]
theorem qdd (l:List UInt8) (i j:Nat):(st l).extract i j=st ((l.drop i).take (j-i)):=by
 apply ByteArray.ext
 rw [ByteArray.data_extract]
 apply Array.ext'
 simp
theorem QQ (l:List UInt8) (i:Nat) (j:Nat) (hj:j=l.length):(st l).extract i j=st (l.drop i):=by
 rw [qdd,List.take_of_length_le (by simp;omega)]
theorem st_upto (l:List UInt8) (j:Nat):(st l).extract 0 j=st (l.take j):=by
 rw [qdd,List.drop_zero,Nat.sub_zero]
abbrev r3 (s:List UInt8) (x:Nat) (k:Int):List PV:=[sv (st s),nv x,iv k]
abbrev vC (s:List UInt8) (x k:Nat):List PV:=[sv (st s),nv x,nv k]
abbrev r5 (s:List UInt8) (x:Nat) (e f k:Int):List PV:=[sv (st s),nv x,iv e,iv f,iv k]
abbrev r5n (s:List UInt8) (x:Nat) (e f:Int) (k:Nat):List PV:=[sv (st s),nv x,iv e,iv f,nv k]
abbrev r5b (s:List UInt8) (x:Nat) (e:Int) (f:Nat) (k:Int):List PV:=[sv (st s),nv x,iv e,nv f,iv k]
abbrev r5m (s:List UInt8) (x:Nat) (e:Int) (f k:Nat):List PV:=[sv (st s),nv x,iv e,nv f,nv k]
abbrev se:PV:=sv (st [])
end Go.Proofs.YtmlnilkbolcknaaGreatDoor.Pm
namespace Go.Proofs.YtmlnilkbolcknaaGreatDoor.Pi
def nat7 (l:Int):Int:=if l=0 then 0 else if l=1 then 2 else if l=2 then 4 else if l=3 then 5 else if l=4 then 7 else if l=5 then 9 else 11
theorem nat7_range (l:Int):0≤nat7 l∧nat7 l≤11:=by unfold nat7;omega
def rightB (l a o:Int):Bool:=decide (0≤l∧l≤6 ∧ -3≤a∧a≤3 ∧ -12≤o∧o≤12)
theorem rightB_iff {l a o:Int}:rightB l a o=true↔0≤l∧l≤6 ∧ -3≤a∧a≤3 ∧ -12≤o∧o≤12:=by simp [rightB]
def withinB (s h:Int):Bool:=decide (-200≤s∧s≤200 ∧ -4096≤h∧h≤4096)
theorem withinB_iff {s h:Int}:withinB s h=true ↔ -200≤s∧s≤200 ∧ -4096≤h∧h≤4096:=by simp [withinB]
def qik (l o:Int):Int:=7*o+l
def qeb (l a o:Int):Int:=12*o+nat7 l+a
def key (l a o:Int):Int × Int:=if rightB l a o then (qeb l a o+12,0) else (0,2)
def at_ (s h:Int):Int × Int × Int × Int :=
 if rightB (s % 7) (h-(12*(s / 7)+nat7 (s % 7))) (s / 7) then (s % 7,h-(12*(s / 7)+nat7 (s % 7)),s / 7,0) else (0,0,0,3)
def move (l a o s h:Int):Int × Int × Int × Int :=
 if rightB l a o then (if withinB s h then at_ (qik l o+s) (qeb l a o+h) else (0,0,0,3)) else (0,0,0,2)
def sum (s h s' h':Int):Int × Int × Int :=
 if withinB s h && withinB s' h' && withinB (s+s') (h+h') then (s+s',h+h',0) else (0,0,3)
theorem one {l a o l' a' o':Int} (h1:rightB l a o=true) (h2:rightB l' a' o'=true) (hs:qik l o=qik l' o') (hh:qeb l a o=qeb l' a' o'):l=l'∧a=a'∧o=o':=by
 have:=rightB_iff.1 h1
 have:=rightB_iff.1 h2
 unfold qik at hs
 unfold qeb at hh
 have e1:o=o':=by omega
 have e2:l=l':=by omega
 subst e1 e2
 omega

/-! TWICE MIRRORED -/
/-! INTERVALS MOVE PITCHES -/
end Go.Proofs.YtmlnilkbolcknaaGreatDoor.Pi
namespace Go.Proofs.YtmlnilkbolcknaaGreatDoor.Pm
open Go Go.Proofs.YtmlnilkbolcknaaGreatDoor.Pi
def letB:List UInt8:=[67,68,69,70,71,65,66]
def vJ (a:Int):List UInt8 :=
 if a=1 then [226,153,175] else if a=2 then [240,157,132,170] else if a=3 then [240,157,132,170,226,153,175]
 else if a = -1 then [226,153,173] else if a = -2 then [240,157,132,171] else if a = -3 then [240,157,132,171,226,153,173] else []
def wJ (l a o:Int):List UInt8 × Int:=if rightB l a o=true then ((letB.drop l.toNat).take 1++vJ a++Lib.itoa o,0) else ([],2)
def zV (r:Int):Int × Bool :=
 if r=9839∨r=35 then (1,true) else if r=119082∨r=120 then (2,true) else if r=9837∨r=98 then (-1,true) else if r=119083 then (-2,true) else (0,false)
def digs:List UInt8:=[48,49,50,51,52,53,54,55,56,57]
def yE (t:List UInt8):Int:=(Lib.atoi t).getD 0
def body (s:List UInt8):List UInt8:=if Lib.hasPrefix s [45]=true then s.drop 1 else s
def WE (m:Bool) (t:List UInt8):Prop:=t=[]∨4<t.length∨((t.getD 0 0).toNat=48∧(1<t.length∨m=true))∨Lib.trimS t digs≠[]
instance (m:Bool) (t:List UInt8):Decidable (WE m t):=by unfold WE;infer_instance
def qG (s:List UInt8):Int × Bool :=
 if WE (Lib.hasPrefix s [45]) (body s) then (0,false) else (if Lib.hasPrefix s [45]=true then 0-yE (body s) else yE (body s),true)
def zS (l:List UInt8):Nat:=(Lib.decodeGo (st l)).1
def zB (l:List UInt8):Nat:=(Lib.decodeGo (st l)).2
def vB (l:List UInt8) (a:Int) (n:Nat):Bool × Int × Nat :=
 if _h:(zV (zS l)).2=true∧1≤zB l∧1≤l.length then
  if (a+(zV (zS l)).1)*(zV (zS l)).1<0∨3<max (a+(zV (zS l)).1) (0-(a+(zV (zS l)).1)) then (false,a+(zV (zS l)).1,n)
  else vB (l.drop (zB l)) (a+(zV (zS l)).1) (n+zB l)
 else (true,a,n)
termination_by l.length
decreasing_by rw [List.length_drop];omega
def vF (s:List UInt8):Bool × Int × Nat:=if Lib.hasPrefix (s.drop 1) [226,153,174]=true then (true,0,4) else vB (s.drop 1) 0 1
def zq (s:List UInt8):(Int × Int × Int) × Int × Int :=
 if s=[]∨¬ 0≤Lib.indexByte letB (s.getD 0 0) then ((0,0,0),2,0)
 else if (vF s).1=false then ((0,0,0),3,(vF s).2.2)
 else if (qG (s.drop (vF s).2.2)).2=false then ((0,0,0),2,(vF s).2.2)
 else if rightB (Lib.indexByte letB (s.getD 0 0)) (vF s).2.1 (qG (s.drop (vF s).2.2)).1=true then ((Lib.indexByte letB (s.getD 0 0),(vF s).2.1,(qG (s.drop (vF s).2.2)).1),0,0)
 else ((0,0,0),3,(vF s).2.2)

/-! ### decoding -/
theorem jC {l:List UInt8} (h:l≠[]):1≤zB l:=by
 have hs:(st l).size≠0:=by
  intro e
  exact h (List.length_eq_zero_iff.1 e)
 unfold zB Lib.decodeGo
 rw [if_neg hs]
 unfold Utf8.decode
 dsimp only
 repeat' split
 all_goals first|decide|(show 1≤_;omega)
theorem jy (l:List UInt8):zB l≤l.length:=by
 by_cases h:l=[]
 ·subst h;exact Nat.le_refl 0
 have hs:(st l).size≠0:=by
  intro e
  exact h (List.length_eq_zero_iff.1 e)
 have hl:(st l).size=l.length:=rfl
 unfold zB Lib.decodeGo
 rw [if_neg hs]
 unfold Utf8.decode
 dsimp only
 repeat' split
 all_goals simp only [Bool.and_eq_true,decide_eq_true_eq] at *
 all_goals omega
theorem qbg {l:List UInt8} (h:(zV (zS l)).2=true):l≠[]∧1≤zB l∧1≤l.length:=by
 have h1:l≠[]:=by
  rintro rfl
  revert h
  decide
 exact ⟨h1,jC h1,by cases l with|nil=>exact absurd rfl h1|cons a l=>simp⟩
theorem YE {l:List UInt8} {a:Int} {n:Nat} (h:¬ (zV (zS l)).2=true):vB l a n=(true,a,n):=by
 rw [vB,dif_neg (fun c=>h c.1)]
theorem qdf {l:List UInt8} {a:Int} {n:Nat} (h:(zV (zS l)).2=true) (hb:(a+(zV (zS l)).1)*(zV (zS l)).1<0∨3<max (a+(zV (zS l)).1) (0-(a+(zV (zS l)).1))):vB l a n=(false,a+(zV (zS l)).1,n):=by
 rw [vB,dif_pos ⟨h,(qbg h).2⟩,if_pos hb]
theorem qbf {l:List UInt8} {a:Int} {n:Nat} (h:(zV (zS l)).2=true) (hb:¬ ((a+(zV (zS l)).1)*(zV (zS l)).1<0∨3<max (a+(zV (zS l)).1) (0-(a+(zV (zS l)).1)))):vB l a n=vB (l.drop (zB l)) (a+(zV (zS l)).1) (n+zB l):=by
 rw [vB,dif_pos ⟨h,(qbg h).2⟩,if_neg hb]
theorem signB_bd (r:Int) : -2≤(zV r).1∧(zV r).1≤2:=by
 unfold zV
 repeat' split
 all_goals decide
theorem ZT {p:UInt8→Bool}:∀ {l:List UInt8},l.dropWhile p=[]→∀ b∈l,p b=true
 | [],_,b,hb=>by simp at hb
 | a :: l,h,b,hb=>by
  by_cases ha:p a=true
  ·rw [List.dropWhile_cons_of_pos ha] at h
   rcases List.mem_cons.1 hb with rfl|hb
   ·exact ha
   ·exact ZT h b hb
  ·rw [List.dropWhile_cons_of_neg ha] at h
   cases h
theorem ZQ {p:UInt8→Bool}:∀ {l:List UInt8},∀ b∈l.takeWhile p,p b=true
 | [],b,hb=>by simp at hb
 | a :: l,b,hb=>by
  by_cases ha:p a=true
  ·rw [List.takeWhile_cons_of_pos ha] at hb
   rcases List.mem_cons.1 hb with rfl|hb
   ·exact ha
   ·exact ZQ b hb
  ·rw [List.takeWhile_cons_of_neg ha] at hb
   cases hb
theorem trim_all {t:List UInt8} (h:Lib.trimS t digs=[]):∀ b∈t,b∈digs:=by
 unfold Lib.trimS Lib.trimLeftS Lib.trimRightS at h
 replace h:=ZT h
 intro b hb
 have hb':b∈t.reverse:=by simpa using hb
 rw [← List.takeWhile_append_dropWhile (p:=fun x=>digs.contains x) (l:=t.reverse),List.mem_append] at hb'
 rcases hb' with hb'|hb'
 ·have:=ZQ b hb'
  simpa using this
 ·have:=h b (by simpa using hb')
  simpa using this
theorem qay {b:UInt8} (h:b∈digs):∃ d,Lib.digitVal b=some d∧d≤9∧b.toNat=48+d:=by
 have:∀ b∈digs,∃ d:Fin 10,Lib.digitVal b=some d.1∧b.toNat=48+d.1:=by decide
 obtain ⟨d,h1,h2⟩:=this b h
 exact ⟨d.1,h1,by omega,h2⟩
theorem qkh:∀ {t:List UInt8} {acc:Nat},(∀ b∈t,b∈digs)→∃ n,Lib.decFrom acc t=some n∧n<(acc+1)*10 ^ t.length
 | [],acc,_=>⟨acc,rfl,by simp⟩
 | b :: r,acc,h=>by
  obtain ⟨d,h1,h2,_⟩:=qay (h b (by simp))
  obtain ⟨n,h3,h4⟩:=qkh (t:=r) (acc:=acc*10+d) (fun c hc=>h c (by simp [hc]))
  refine ⟨n,?_,?_⟩
  ·simp only [Lib.decFrom,h1]
   exact h3
  ·rw [List.length_cons,Nat.pow_succ]
   have hp:=Nat.pow_pos (n:=r.length) (show 0<10 by decide)
   have:(acc*10+d+1)*10 ^ r.length≤(acc+1)*(10 ^ r.length*10):=by
    rw [Nat.mul_comm (10 ^ r.length) 10,← Nat.mul_assoc]
    exact Nat.mul_le_mul_right _ (by omega)
   omega
theorem qkg {t:List UInt8} (h0:t≠[]) (h:∀ b∈t,b∈digs):∃ n:Nat,Lib.atoi t=some (n:Int)∧n<10 ^ t.length:=by
 cases t with
 | nil=>exact absurd rfl h0
 | cons b r =>
  obtain ⟨d,_,h2,h3⟩:=qay (h b (by simp))
  obtain ⟨n,h4,h5⟩:=qkh (acc:=0) h
  refine ⟨n,?_,by simpa using h5⟩
  have e1:(b == 45)=false:=by
   rw [beq_eq_false_iff_ne];rintro rfl
   have:(45:UInt8).toNat=45:=rfl
   omega
  have e2:(b == 43)=false:=by
   rw [beq_eq_false_iff_ne];rintro rfl
   have:(43:UInt8).toNat=43:=rfl
   omega
  simp only [Lib.atoi,e1,e2,Lib.decNat,Bool.false_eq_true,if_false,List.isEmpty_cons,h4]
  rfl
theorem qcm {m:Bool} {t:List UInt8} (h:¬ WE m t):Lib.atoi t=some (yE t)∧0≤yE t∧yE t≤9999∧t.length≤4∧1≤t.length:=by
 unfold WE at h
 simp only [not_or] at h
 obtain ⟨h1,h2,_,h4⟩:=h
 obtain ⟨n,h5,h6⟩:=qkg h1 (trim_all (by simpa using h4))
 have h7:(10:Nat) ^ t.length≤10 ^ 4:=Nat.pow_le_pow_right (by decide) (by omega)
 have h8:1≤t.length:=by cases t with|nil=>exact absurd rfl h1|cons a l=>simp
 unfold yE
 rw [h5]
 refine ⟨rfl,?_,?_,by omega,h8⟩
 ·show (0:Int)≤n;omega
 ·show (n:Int)≤9999;omega
theorem jZ:∀ (j:Nat) b,digs[j]? = some b→b.toNat<128:=by
 intro j b h
 have:∀ b∈digs,b.toNat<128:=by decide
 exact this b (List.mem_of_getElem? h)
theorem pre_len {s:List UInt8} (h:Lib.hasPrefix s [45]=true):1≤s.length:=by
 cases s with
 | nil=>cases h
 | cons a l=>simp
theorem YA {s:List UInt8} (h:Lib.hasPrefix s [45]=true):body s=s.drop 1:=if_pos h
theorem jq {s:List UInt8} (h:¬ Lib.hasPrefix s [45]=true):body s=s:=if_neg h
theorem QY {m:Bool} {t:List UInt8} (h1:¬ t=[]) (h2:¬ (4:Int)<(t.length:Int)) (h3:¬ (((t.getD 0 0).toNat:Nat):Int)=48∨(¬ (1:Int)<(t.length:Int)∧¬ m=true)) (h4:Lib.trimS t digs=[]):¬ WE m t:=by
 unfold WE
 rintro (h|h|⟨h5,h6⟩|h)
 ·exact h1 h
 ·omega
 ·rcases h3 with h3|⟨h3,h7⟩
  ·omega
  ·rcases h6 with h6|h6
   ·omega
   ·exact h7 h6
 ·exact h h4
theorem jx {s:List UInt8} (h:WE (Lib.hasPrefix s [45]) (body s)):qG s=(0,false):=if_pos h
theorem numS_neg {s:List UInt8} (h:¬ WE (Lib.hasPrefix s [45]) (s.drop 1)) (h1:Lib.hasPrefix s [45]=true):qG s=(0-yE (s.drop 1),true):=by
 unfold qG;rw [YA h1,if_neg h,if_pos h1]
theorem qje {s:List UInt8} (h:¬ WE (Lib.hasPrefix s [45]) s) (h1:¬ Lib.hasPrefix s [45]=true):qG s=(yE s,true):=by
 unfold qG;rw [jq h1,if_neg h,if_neg h1]
theorem jU {l a o:Int} {S:List UInt8} (h:rightB l a o=true) (hs:vJ a=S):wJ l a o=((letB.drop l.toNat).take 1++S++Lib.itoa o,0):=by unfold wJ;rw [if_pos h,hs]
theorem printS_no {l a o:Int} (h:¬ rightB l a o=true):wJ l a o=([],2):=if_neg h
theorem jE {l:Int} (h:0≤l):(st letB).extract (l:Int).toNat (l+1:Int).toNat=st ((letB.drop l.toNat).take 1):=by
 rw [qdd,show (l+1:Int).toNat-(l:Int).toNat=1 from by omega]
theorem qdw (l:Int):((letB.drop l.toNat).take 1).length≤1:=by rw [List.length_take];omega
theorem Qx {o:Int} (h0 : -1000≤o) (h1:o≤1000):(Lib.itoa o).length≤21:=Lib.itoa_length_le o (by omega) (by omega)
theorem len_pos {s:List UInt8} (h:¬ s=[]):1≤s.length:=List.length_pos_iff.2 h
theorem qgd {s:List UInt8} (h:¬ s=[]):(st s).extract (0:Int).toNat (1:Int).toNat=st [s.getD 0 0]:=by
 cases s with
 | nil=>exact absurd rfl h
 | cons a l=>exact st_upto _ 1
theorem pre3_len {s:List UInt8} (h:Lib.hasPrefix s [226,153,174]=true):3≤s.length:=by
 unfold Lib.hasPrefix at h
 have:=(List.isPrefixOf_iff_prefix.1 h).length_le
 simpa using this
theorem mul_small {x y:Int} (h1 : -5≤x) (h2:x≤5) (h3 : -2≤y) (h4:y≤2) : -10≤x*y∧x*y≤10:=by
 have h5:y = -2∨y = -1∨y=0∨y=1∨y=2:=by omega
 rcases h5 with rfl|rfl|rfl|rfl|rfl <;> omega
theorem qfh {s:List UInt8} (h:s=[]∨¬ 0≤Lib.indexByte letB (s.getD 0 0)):zq s=((0,0,0),2,0):=if_pos h
section
variable {s:List UInt8} {a:Int} {n:Nat} (h0:¬ s=[]) (h1:0≤Lib.indexByte letB (s.getD 0 0))
include h0 h1
theorem qfi (hb:vF s=(false,a,n)):zq s=((0,0,0),3,(n:Int)):=by
 unfold zq;rw [if_neg (by rintro (h|h);exact h0 h;exact h h1),hb,if_pos rfl]
theorem qfg (hb:vF s=(true,a,n)) (h2:¬ (qG (s.drop n)).2=true):zq s=((0,0,0),2,(n:Int)):=by
 unfold zq;rw [if_neg (by rintro (h|h);exact h0 h;exact h h1),hb,if_neg (fun h=>Bool.noConfusion h),if_pos (eq_false_of_ne_true h2)]
theorem qbj (hb:vF s=(true,a,n)) (h2:(qG (s.drop n)).2=true) (h3:rightB (Lib.indexByte letB (s.getD 0 0)) a (qG (s.drop n)).1=true):zq s=((Lib.indexByte letB (s.getD 0 0),a,(qG (s.drop n)).1),0,0):=by
 unfold zq;rw [if_neg (by rintro (h|h);exact h0 h;exact h h1),hb,if_neg (fun h=>Bool.noConfusion h),if_neg (by rw [h2];decide),if_pos h3]
theorem qff (hb:vF s=(true,a,n)) (h2:(qG (s.drop n)).2=true) (h3:¬ rightB (Lib.indexByte letB (s.getD 0 0)) a (qG (s.drop n)).1=true):zq s=((0,0,0),3,(n:Int)):=by
 unfold zq;rw [if_neg (by rintro (h|h);exact h0 h;exact h h1),hb,if_neg (fun h=>Bool.noConfusion h),if_neg (by rw [h2];decide),if_neg h3]
end
theorem WW {s:List UInt8} (h:Lib.hasPrefix (s.drop 1) [226,153,174]=true):vF s=(true,0,4):=if_pos h
theorem jN {s:List UInt8} {r:Bool × Int × Nat} (h:¬ Lib.hasPrefix (s.drop 1) [226,153,174]=true) {a:Int} {n:Nat} (hS:vB (s.drop n) a n=vB (s.drop 1) 0 1) (hr:vB (s.drop n) a n=r):vF s=r:=by
 unfold vF;rw [if_neg h,← hS,hr]
theorem num_bd (s:List UInt8) : -9999≤(qG s).1∧(qG s).1≤9999:=by
 unfold qG
 split
 ·decide
 ·rename_i h
  have:=qcm h
  split
  ·show -9999≤0-yE (body s)∧0-yE (body s)≤9999;omega
  ·show -9999≤yE (body s)∧yE (body s)≤9999;omega
def zL (s:Int):Bool:=decide (s % 7=0∨s % 7=3∨s % 7=4)
def vq (s h:Int):Int:=h-12*(s / 7)-nat7 (s % 7)
def vU (p:Bool) (m:Int):List UInt8 :=
 if 0<m then Lib.repeatL [65] (min m 7).toNat else if m=0 then (if p=true then [80] else [77]) else if p=true then Lib.repeatL [100] (min (0-m) 7).toNat
 else if m = -1 then [109] else Lib.repeatL [100] (min (0-m-1) 7).toNat
def Qv (mn:List UInt8) (s h:Int):List UInt8 × Int :=
 if 6<(vU (zL s) (vq s h)).length then ([],3) else (mn++vU (zL s) (vq s h)++Lib.itoa (s+1),0)
def qE (s h:Int):List UInt8 × Int :=
 if withinB s h=true then (if s<0∨(s=0∧h<0) then Qv [45] (0-s) (0-h) else Qv [] s h) else ([],3)
def wO (s:List UInt8):List UInt8:=Lib.trimPrefix s [45]
def quals:List UInt8:=[80,77,109,65,100]
def qk (s:List UInt8):List UInt8:=Lib.trimLeftS (wO s) quals
def zJ (s:List UInt8):List UInt8:=(wO s).take ((wO s).length-(qk s).length)
def QB (p:Bool) (q:List UInt8):Option Int :=
 if (q=[80]∧p=true)∨(q=[77]∧¬ p=true) then some 0 else if q=[109]∧¬ p=true then some (-1) else if Lib.trimS q [65]=[] then some (q.length:Int)
 else if Lib.trimS q [100]=[]∧p=true then some (-(q.length:Int)) else if Lib.trimS q [100]=[] then some (-((q.length:Int)+1)) else none
def qP (s:List UInt8):Int:=(qG (qk s)).1-1
def vQ (s:List UInt8) (m:Int):Int × Int :=
 if (wO s).length<s.length then (0-qP s,0-(12*(qP s / 7)+nat7 (qP s % 7)+m)) else (qP s,12*(qP s / 7)+nat7 (qP s % 7)+m)
def checked (s:List UInt8) (j:Int × Int):(Int × Int) × Int:=if (qE j.1 j.2).2=0∧(qE j.1 j.2).1=s then (j,0) else ((0,0),2)
def zX (s:List UInt8):(Int × Int) × Int :=
 if ¬ (qG (qk s)).2=true∨(qG (qk s)).1<1∨zJ s=[] then ((0,0),2)
 else if 200<qP s∨(6:Int)<((zJ s).length:Int) then ((0,0),3)
 else match QB (zL (qP s)) (zJ s) with
  | none=>((0,0),2)
  | some m=>checked s (vQ s m)

theorem yM {c:UInt8} (h:c.toNat<128):∀ (j:Nat) b,([c]:List UInt8)[j]? = some b→b.toNat<128:=by
 intro j b hb
 have:=List.mem_of_getElem? hb
 simp only [List.mem_singleton] at this
 subst this;exact h
theorem qit:∀ (j:Nat) b,quals[j]? = some b→b.toNat<128:=by
 intro j b h
 have:∀ b∈quals,b.toNat<128:=by decide
 exact this b (List.mem_of_getElem? h)
theorem tOf_le (s:List UInt8):(wO s).length≤s.length:=by
 unfold wO Lib.trimPrefix
 split
 ·rw [List.length_drop];omega
 ·exact Nat.le_refl _
theorem dOf_le (s:List UInt8):(qk s).length≤(wO s).length:=(List.dropWhile_suffix _).length_le
theorem qac (c:UInt8):∀ n,(Lib.repeatL [c] n).length=n
 | 0=>rfl
 | n+1=>by
  have:=qac c n
  show ([c]++Lib.repeatL [c] n).length=n+1
  rw [List.length_append,this];simp;omega
theorem qual_len (p:Bool) (m:Int):(vU p m).length≤7:=by
 unfold vU
 repeat' split
 all_goals first|(rw [qac];omega)|(show 1≤7;decide)
theorem vS {mn:List UInt8} {s h:Int} {q:List UInt8} (hq:vU (zL s) (vq s h)=q) (hl:(6:Int)<(q.length:Int)):Qv mn s h=([],3):=by
 unfold Qv;rw [hq,if_pos (by omega)]
theorem yQ {mn:List UInt8} {s h:Int} {q:List UInt8} (hq:vU (zL s) (vq s h)=q) (hl:¬ (6:Int)<(q.length:Int)):Qv mn s h=(mn++q++Lib.itoa (s+1),0):=by
 unfold Qv;rw [hq,if_neg (by omega)]
theorem qdu {s h:Int} (hw:¬ withinB s h=true):qE s h=([],3):=if_neg hw
theorem yY {s h:Int} {r:List UInt8 × Int} (hw:withinB s h=true) (hn:s<0∨(s=0∧h<0)) (hr:Qv [45] (0-s) (0-h)=r):qE s h=r:=by unfold qE;rw [if_pos hw,if_pos hn,hr]
theorem yX {s h:Int} {r:List UInt8 × Int} (hw:withinB s h=true) (hn:¬ (s<0∨(s=0∧h<0))) (hr:Qv [] s h=r):qE s h=r:=by unfold qE;rw [if_pos hw,if_neg hn,hr]
section
variable {p:Bool} {m:Int}
theorem ZJ (h:0<m):vU p m=Lib.repeatL [65] (min m 7).toNat:=if_pos h
theorem qgz (h:m=0) (hp:p=true):vU p m=[80]:=by subst h;unfold vU;rw [if_neg (by decide),if_pos rfl,if_pos hp]
theorem qha (h:m=0) (hp:¬ p=true):vU p m=[77]:=by subst h;unfold vU;rw [if_neg (by decide),if_pos rfl,if_neg hp]
theorem VD (h0:¬ 0<m) (h:¬ m=0) (hp:p=true):vU p m=Lib.repeatL [100] (min (0-m) 7).toNat:=by unfold vU;rw [if_neg h0,if_neg h,if_pos hp]
theorem qgy (h:m = -1) (hp:¬ p=true):vU p m=[109]:=by subst h;unfold vU;rw [if_neg (by decide),if_neg (by decide),if_neg hp,if_pos rfl]
theorem ZK (h0:¬ 0<m) (h:¬ m=0) (hp:¬ p=true) (h1:¬ m = -1):vU p m=Lib.repeatL [100] (min (0-m-1) 7).toNat:=by unfold vU;rw [if_neg h0,if_neg h,if_neg hp,if_neg h1]
end
section
variable {s:List UInt8}
theorem WO (h:¬ (qG (qk s)).2=true∨(qG (qk s)).1<1∨zJ s=[]):zX s=((0,0),2):=if_pos h
variable (h0:(qG (qk s)).2=true) (h1:¬ (qG (qk s)).1<1) (h2:¬ zJ s=[])
include h0 h1 h2
theorem qfm (h:200<qP s∨(6:Int)<((zJ s).length:Int)):zX s=((0,0),3):=by
 unfold zX;rw [if_neg (by rintro (h|h|h);exact h h0;exact h1 h;exact h2 h),if_pos h]
variable (h3:¬ 200<qP s) (h4:¬ (6:Int)<((zJ s).length:Int))
include h3 h4
theorem Qk (h:QB (zL (qP s)) (zJ s)=none):zX s=((0,0),2):=by
 unfold zX;rw [if_neg (by rintro (h|h|h);exact h h0;exact h1 h;exact h2 h),if_neg (by rintro (h|h);exact h3 h;exact h4 h),h]
theorem qI {m:Int} {j:Int × Int} (h:QB (zL (qP s)) (zJ s)=some m) (hj:vQ s m=j):zX s=checked s j:=by
 unfold zX;rw [if_neg (by rintro (h|h|h);exact h h0;exact h1 h;exact h2 h),if_neg (by rintro (h|h);exact h3 h;exact h4 h),h,← hj]
end
theorem zF {s:List UInt8} {x y:Int} (h1:(qE x y).2=0) (h2:(qE x y).1=s):checked s (x,y)=((x,y),0):=if_pos ⟨h1,h2⟩
theorem zH {s:List UInt8} {x y:Int} (h1:¬ (qE x y).2=0):checked s (x,y)=((0,0),2):=if_neg (fun h=>h1 h.1)
theorem zG {s:List UInt8} {x y:Int} (h1:¬ (qE x y).1=s):checked s (x,y)=((0,0),2):=if_neg (fun h=>h1 h.2)
section
variable {p:Bool} {q:List UInt8}
theorem qez (h:q=[80]) (hp:p=true):QB p q=some 0:=if_pos (.inl ⟨h,hp⟩)
theorem YU (h:q=[77]) (hp:¬ p=true):QB p q=some 0:=if_pos (.inr ⟨h,hp⟩)
variable (h1:¬ (q=[80]∧p=true)) (h2:¬ (q=[77]∧¬ p=true))
include h1 h2
theorem YT (h:q=[109]) (hp:¬ p=true):QB p q=some (-1):=by unfold QB;rw [if_neg (by rintro (h|h);exact h1 h;exact h2 h),if_pos ⟨h,hp⟩]
variable (h3:¬ (q=[109]∧¬ p=true))
include h3
theorem vY (h:Lib.trimS q [65]=[]):QB p q=some (q.length:Int):=by unfold QB;rw [if_neg (by rintro (h|h);exact h1 h;exact h2 h),if_neg h3,if_pos h]
variable (h4:¬ Lib.trimS q [65]=[])
include h4
theorem wK (h:Lib.trimS q [100]=[]) (hp:p=true):QB p q=some (-(q.length:Int)):=by unfold QB;rw [if_neg (by rintro (h|h);exact h1 h;exact h2 h),if_neg h3,if_neg h4,if_pos ⟨h,hp⟩]
theorem QI (h:Lib.trimS q [100]=[]) (hp:¬ p=true):QB p q=some (-((q.length:Int)+1)):=by unfold QB;rw [if_neg (by rintro (h|h);exact h1 h;exact h2 h),if_neg h3,if_neg h4,if_neg (fun c=>hp c.2),if_pos h]
theorem qcx (h:¬ Lib.trimS q [100]=[]):QB p q=none:=by unfold QB;rw [if_neg (by rintro (h|h);exact h1 h;exact h2 h),if_neg h3,if_neg h4,if_neg (fun c=>h c.1),if_neg h]
end
theorem q_cut (s:List UInt8):(st (wO s)).extract (0:Int).toNat ((((wO s).length:Nat):Int)-(((qk s).length:Nat):Int)).toNat=st (zJ s):=by
 rw [show ((((wO s).length:Nat):Int)-(((qk s).length:Nat):Int)).toNat=(wO s).length-(qk s).length from by omega]
 exact st_upto _ _
theorem qOf_le (s:List UInt8):(zJ s).length≤(wO s).length:=by unfold zJ;rw [List.length_take];omega
/-! ### decoding -/
theorem qdc (l:List UInt8) (k:Nat):(st l).get! k=l.getD k 0:=by
 show (l.toArray)[k]! = l.getD k 0
 rw [Array.getElem!_eq_getD,List.getD_eq_getElem?_getD,Array.getD_eq_getD_getElem?]
 simp
 rfl
theorem qge {b:UInt8} {r:List UInt8} (h:b.toNat<128):zS (b :: r)=b.toNat∧zB (b :: r)=1:=by
 have hs:(st (b :: r)).size≠0:=by show (b :: r).length≠0;simp
 have e:Lib.decodeGo (st (b :: r))=(b.toNat,1):=by
  unfold Lib.decodeGo
  rw [if_neg hs]
  unfold Utf8.decode
  dsimp only
  simp only [qdc]
  exact if_pos h
 unfold zS zB
 rw [e]
 exact ⟨rfl,rfl⟩
theorem dec_three {c:UInt8} {r:List UInt8} (h1:128≤c.toNat) (h2:c.toNat<192):zS (226 :: 153 :: c :: r)=8192+25*64+c.toNat % 64∧zB (226 :: 153 :: c :: r)=3:=by
 have hs:(st (226 :: 153 :: c :: r)).size≠0:=by show (226 :: 153 :: c :: r).length≠0;simp
 have hl:(st (226 :: 153 :: c :: r)).size=r.length+3:=rfl
 have e:Lib.decodeGo (st (226 :: 153 :: c :: r))=(8192+25*64+c.toNat % 64,3):=by
  unfold Lib.decodeGo
  rw [if_neg hs]
  unfold Utf8.decode
  dsimp only
  simp only [qdc,hl]
  have h3:c.toNat / 64=2:=by omega
  have h4:c.toNat % 64<64:=Nat.mod_lt _ (by decide)
  simp [h3,Utf8.valid]
  omega
 unfold zS zB
 rw [e]
 exact ⟨rfl,rfl⟩
theorem dec_four {c:UInt8} {r:List UInt8} (h1:128≤c.toNat) (h2:c.toNat<192):zS (240 :: 157 :: 132 :: c :: r)=118784+256+c.toNat % 64∧zB (240 :: 157 :: 132 :: c :: r)=4:=by
 have hs:(st (240 :: 157 :: 132 :: c :: r)).size≠0:=by show (240 :: 157 :: 132 :: c :: r).length≠0;simp
 have hl:(st (240 :: 157 :: 132 :: c :: r)).size=r.length+4:=rfl
 have e:Lib.decodeGo (st (240 :: 157 :: 132 :: c :: r))=(118784+256+c.toNat % 64,4):=by
  unfold Lib.decodeGo
  rw [if_neg hs]
  unfold Utf8.decode
  dsimp only
  simp only [qdc,hl]
  have h3:c.toNat / 64=2:=by omega
  have h4:c.toNat % 64<64:=Nat.mod_lt _ (by decide)
  simp [h3,Utf8.valid]
  omega
 unfold zS zB
 rw [e]
 exact ⟨rfl,rfl⟩

/-! ### numbers -/
def dg3 (u:Nat):List UInt8:=if u<10 then [UInt8.ofNat (48+u)] else if u<100 then [UInt8.ofNat (48+u / 10),UInt8.ofNat (48+u % 10)] else [UInt8.ofNat (48+u / 100),UInt8.ofNat (48+u / 10 % 10),UInt8.ofNat (48+u % 10)]
theorem dec_dg3 {u:Nat} (h:u<1000):Lib.decDigits u=dg3 u:=by
 unfold dg3
 by_cases h1:u<10
 ·rw [if_pos h1,Lib.decDigits_one h1]
 ·rw [if_neg h1]
  by_cases h2:u<100
  ·rw [if_pos h2,Lib.decDigits_two h1 h2]
  ·rw [if_neg h2,Lib.decDigits,dif_neg h1,Lib.decDigits_two (by omega) (by omega),show u / 10 / 10=u / 100 from by omega]
   rfl
theorem qhi:∀ u:Fin 1000,qG (dg3 u.1)=((u.1:Int),true)∧(1≤u.1→qG (45 :: dg3 u.1)=(0-(u.1:Int),true))∧(∃ b∈digs,(dg3 u.1).head? = some b):=by
 decide +kernel
theorem qjn {u:Nat} (h:u<1000):Lib.itoa (u:Int)=dg3 u:=by rw [Lib.itoa_nonneg,dec_dg3 h]
theorem qfw {u:Nat} (h:u<1000) (h1:1≤u):Lib.itoa (0-(u:Int))=45 :: dg3 u:=by
 rw [show 0-(u:Int) = -(u:Int) from by omega,Lib.itoa_neg u h1,dec_dg3 h]
theorem qjd {n:Int} (h1 : -999≤n) (h2:n≤999):qG (Lib.itoa n)=(n,true):=by
 by_cases h:0≤n
 ·obtain ⟨u,rfl⟩:∃ u:Nat,n=u:=⟨n.toNat,by omega⟩
  rw [qjn (by omega)]
  exact (qhi ⟨u,by omega⟩).1
 ·obtain ⟨u,rfl⟩:∃ u:Nat,n=0-(u:Int):=⟨(-n).toNat,by omega⟩
  rw [qfw (by omega) (by omega)]
  exact (qhi ⟨u,by omega⟩).2.1 (by show 1≤u;omega)
theorem qfx {n:Int} (h1 : -999≤n) (h2:n≤999):∃ b r,Lib.itoa n=b :: r∧(b∈digs∨b=45)∧(0≤n→b∈digs):=by
 by_cases h:0≤n
 ·obtain ⟨u,rfl⟩:∃ u:Nat,n=u:=⟨n.toNat,by omega⟩
  rw [qjn (by omega)]
  obtain ⟨b,hb,hh⟩:=(qhi ⟨u,by omega⟩).2.2
  cases hd:dg3 u with
  | nil=>rw [show dg3 (⟨u,by omega⟩:Fin 1000).1=[] from hd] at hh;cases hh
  | cons c r =>
   rw [show dg3 (⟨u,by omega⟩:Fin 1000).1=c :: r from hd] at hh
   cases hh
   exact ⟨_,r,rfl,.inl hb,fun _=>hb⟩
 ·obtain ⟨u,rfl⟩:∃ u:Nat,n=0-(u:Int):=⟨(-n).toNat,by omega⟩
  rw [qfw (by omega) (by omega)]
  exact ⟨45,_,rfl,.inr rfl,fun c=>by omega⟩
theorem qdm {b:UInt8} (h:b∈digs∨b=45):b.toNat<128∧(zV (b.toNat:Int)).2=false∧b≠226:=by
 have h1:∀ b∈(45 :: digs),b.toNat<128∧(zV (b.toNat:Int)).2=false∧b≠226:=by decide
 rcases h with h|rfl
 ·exact h1 b (List.mem_cons_of_mem _ h)
 ·exact h1 45 (by simp)
theorem jS {l:List UInt8} {b:UInt8} {r:List UInt8} (hl:l=b :: r) (h:b∈digs∨b=45) (a:Int) (n:Nat):vB l a n=(true,a,n):=by
 obtain ⟨h1,h2,_⟩:=qdm h
 subst hl
 apply YE
 rw [(qge h1).1,h2]
 decide
theorem ZH {c:UInt8} {r:List UInt8} {a:Int} {n:Nat} {by':Int} (h1:128≤c.toNat) (h2:c.toNat<192) (hs:zV (((8192+25*64+c.toNat % 64:Nat)):Int)=(by',true)) (hb:¬ ((a+by')*by'<0∨3<max (a+by') (0-(a+by')))) :
  vB (226 :: 153 :: c :: r) a n=vB r (a+by') (n+3):=by
 obtain ⟨d1,d2⟩:=dec_three (r:=r) h1 h2
 rw [qbf (by rw [d1,hs]) (by rw [d1,hs];exact hb),d1,d2,hs]
 rfl
theorem YD {c:UInt8} {r:List UInt8} {a:Int} {n:Nat} {by':Int} (h1:128≤c.toNat) (h2:c.toNat<192) (hs:zV (((118784+256+c.toNat % 64:Nat)):Int)=(by',true)) (hb:¬ ((a+by')*by'<0∨3<max (a+by') (0-(a+by')))) :
  vB (240 :: 157 :: 132 :: c :: r) a n=vB r (a+by') (n+4):=by
 obtain ⟨d1,d2⟩:=dec_four (r:=r) h1 h2
 rw [qbf (by rw [d1,hs]) (by rw [d1,hs];exact hb),d1,d2,hs]
 rfl
theorem signs_all {a:Int} (h1 : -3≤a) (h2:a≤3) {l:List UInt8} {b:UInt8} {r:List UInt8} (hl:l=b :: r) (h:b∈digs∨b=45):vB (vJ a++l) 0 1=(true,a,1+(vJ a).length):=by
 have hc:a = -3∨a = -2∨a = -1∨a=0∨a=1∨a=2∨a=3:=by omega
 rcases hc with rfl|rfl|rfl|rfl|rfl|rfl|rfl
 ·show vB (240 :: 157 :: 132 :: 171 :: 226 :: 153 :: 173 :: l) 0 1=_
  rw [YD (by' := -2) (by decide) (by decide) (by decide) (by decide),ZH (by' := -1) (by decide) (by decide) (by decide) (by decide),jS hl h]
  rfl
 ·show vB (240 :: 157 :: 132 :: 171 :: l) 0 1=_
  rw [YD (by' := -2) (by decide) (by decide) (by decide) (by decide),jS hl h]
  rfl
 ·show vB (226 :: 153 :: 173 :: l) 0 1=_
  rw [ZH (by' := -1) (by decide) (by decide) (by decide) (by decide),jS hl h]
  rfl
 ·show vB l 0 1=_
  rw [jS hl h]
  rfl
 ·show vB (226 :: 153 :: 175 :: l) 0 1=_
  rw [ZH (by':=1) (by decide) (by decide) (by decide) (by decide),jS hl h]
  rfl
 ·show vB (240 :: 157 :: 132 :: 170 :: l) 0 1=_
  rw [YD (by':=2) (by decide) (by decide) (by decide) (by decide),jS hl h]
  rfl
 ·show vB (240 :: 157 :: 132 :: 170 :: 226 :: 153 :: 175 :: l) 0 1=_
  rw [YD (by':=2) (by decide) (by decide) (by decide) (by decide),ZH (by':=1) (by decide) (by decide) (by decide) (by decide),jS hl h]
  rfl
theorem no_natural {a:Int} (h1 : -3≤a) (h2:a≤3) {l:List UInt8} {b:UInt8} {r:List UInt8} (hl:l=b :: r) (h:b∈digs∨b=45):¬ Lib.hasPrefix (vJ a++l) [226,153,174]=true:=by
 obtain ⟨_,_,h3⟩:=qdm h
 subst hl
 have hc:a = -3∨a = -2∨a = -1∨a=0∨a=1∨a=2∨a=3:=by omega
 rcases hc with rfl|rfl|rfl|rfl|rfl|rfl|rfl
 ·simp [vJ,Lib.hasPrefix]
 ·simp [vJ,Lib.hasPrefix]
 ·simp [vJ,Lib.hasPrefix]
 ·simp [vJ,Lib.hasPrefix,Ne.symm h3]
 ·simp [vJ,Lib.hasPrefix]
 ·simp [vJ,Lib.hasPrefix]
 ·simp [vJ,Lib.hasPrefix]
theorem letter_at0:∀ l:Fin 7,(letB.drop l.1).take 1=[letB.getD l.1 0]∧Lib.indexByte letB (letB.getD l.1 0)=(l.1:Int):=by decide
theorem qfq (l:Fin 7):∃ c,(letB.drop l.1).take 1=[c]∧Lib.indexByte letB c=(l.1:Int):=⟨_,letter_at0 l⟩
theorem qdi {l a o:Int} (h:rightB l a o=true):zq (wJ l a o).1=((l,a,o),0,0):=by
 obtain ⟨r1,r2,r3,r4,r5,r6⟩:=rightB_iff.1 h
 obtain ⟨b,r,hi,hb,_⟩:=qfx (n:=o) (by omega) (by omega)
 obtain ⟨c,hc1,hc2⟩:=qfq ⟨l.toNat,by omega⟩
 have hp:(wJ l a o).1=c :: (vJ a++Lib.itoa o):=by
  unfold wJ;rw [if_pos h]
  show (letB.drop l.toNat).take 1++vJ a++Lib.itoa o=_
  rw [show (letB.drop l.toNat).take 1=[c] from hc1]
  rfl
 rw [hp]
 have hix:Lib.indexByte letB ((c :: (vJ a++Lib.itoa o)).getD 0 0)=l:=by
  show Lib.indexByte letB c=l
  rw [hc2]
  show (l.toNat:Int)=l
  omega
 have hbe:vF (c :: (vJ a++Lib.itoa o))=(true,a,1+(vJ a).length):=by
  unfold vF
  show (if Lib.hasPrefix (vJ a++Lib.itoa o) [226,153,174]=true then (true,0,4) else vB (vJ a++Lib.itoa o) 0 1)=_
  rw [if_neg (no_natural r3 r4 hi hb),signs_all r3 r4 hi hb]
 have hdr:(c :: (vJ a++Lib.itoa o)).drop (1+(vJ a).length)=Lib.itoa o:=by
  rw [Nat.add_comm,List.drop_succ_cons,List.drop_left]
 have hn:=qjd (n:=o) (by omega) (by omega)
 have:=qbj (s:=c :: (vJ a++Lib.itoa o)) (a:=a) (n:=1+(vJ a).length) (by simp) (by rw [hix];exact r1) hbe (by rw [hdr,hn]) (by rw [hdr,hn,hix];exact h)
 rw [this,hix,hdr,hn]

/-! ### intervals -/
theorem qual_all:∀ (p:Bool) (k:Fin 14),QB p (vU p ((k.1:Int)-7))=some ((k.1:Int)-7)∨6<(vU p ((k.1:Int)-7)).length:=by decide
theorem qual_bytes:∀ (p:Bool) (k:Fin 14),(∀ b∈vU p ((k.1:Int)-7),b∈quals)∧(vU p ((k.1:Int)-7)≠[]):=by decide
theorem qual_small {p:Bool} {m:Int} (h:¬ 6<(vU p m).length) : -7≤m∧m≤6:=by
 unfold vU at h
 split at h
 ·rw [qac] at h;omega
 ·split at h
  ·omega
  ·split at h
   ·rw [qac] at h;omega
   ·split at h
    ·omega
    ·rw [qac] at h;omega
theorem qual_ok {p:Bool} {m:Int} (h:¬ 6<(vU p m).length):QB p (vU p m)=some m∧(∀ b∈vU p m,b∈quals)∧vU p m≠[]:=by
 obtain ⟨h1,h2⟩:=qual_small h
 have e:(((⟨(m+7).toNat,by omega⟩:Fin 14).1:Int))-7=m:=by show (((m+7).toNat:Nat):Int)-7=m;omega
 have h3:=qual_all p ⟨(m+7).toNat,by omega⟩
 have h4:=qual_bytes p ⟨(m+7).toNat,by omega⟩
 rw [e] at h3 h4
 exact ⟨h3.resolve_right h,h4⟩
theorem WG {p:UInt8→Bool}:∀ {q l:List UInt8},(∀ b∈q,p b=true)→(q++l).dropWhile p=l.dropWhile p
 | [],_,_=>rfl
 | a :: q,l,h=>by
  rw [List.cons_append,List.dropWhile_cons_of_pos (h a (by simp))]
  exact WG fun b hb=>h b (by simp [hb])
theorem named_name {s h:Int} (hok:(qE s h).2=0):zX (qE s h).1=((s,h),0):=by
 have hw:withinB s h=true:=by
  by_cases hw:withinB s h=true
  ·exact hw
  ·rw [qdu hw] at hok;exact absurd hok (by decide)
 obtain ⟨w1,w2,w3,w4⟩:=withinB_iff.1 hw
 -- without the sign
 obtain ⟨mn,x,y,hname,hx0,hx2,hmn⟩:∃ mn x y,qE s h=Qv mn x y∧0≤x∧x≤200∧((mn=[45]∧s=0-x∧h=0-y)∨(mn=[]∧s=x∧h=y)):=by
  by_cases hn:s<0∨(s=0∧h<0)
  ·exact ⟨[45],0-s,0-h,yY hw hn rfl,by omega,by omega,.inl ⟨rfl,by omega,by omega⟩⟩
  ·exact ⟨[],s,h,yX hw hn rfl,by omega,by omega,.inr ⟨rfl,rfl,rfl⟩⟩
 obtain ⟨q,hq⟩:∃ q,q=vU (zL x) (vq x y):=⟨_,rfl⟩
 have hlen:¬ 6<q.length:=by
  intro hl
  rw [hname,vS hq.symm (by omega)] at hok
  exact absurd hok (by decide)
 have hnm:qE s h=(mn++q++Lib.itoa (x+1),0):=by rw [hname,yQ hq.symm (by omega)]
 obtain ⟨v1,v2,v3⟩:=qual_ok (p:=zL x) (m:=vq x y) (by rw [← hq];exact hlen)
 rw [← hq] at v1 v2 v3
 obtain ⟨b,r,hi,_,hb⟩:=qfx (n:=x+1) (by omega) (by omega)
 replace hb:=hb (by omega)
 obtain ⟨S,hS⟩:∃ S,S=mn++q++Lib.itoa (x+1):=⟨_,rfl⟩
 rw [hnm]
 show zX (mn++q++Lib.itoa (x+1))=_
 rw [← hS]
 have hd45:∀ b∈quals,b≠45:=by decide
 have ht:wO S=q++Lib.itoa (x+1):=by
  unfold wO Lib.trimPrefix
  rcases hmn with ⟨rfl,_,_⟩|⟨rfl,_,_⟩
  ·rw [hS,if_pos (by simp [Lib.hasPrefix])]
   rfl
  ·rw [hS,if_neg]
   ·rfl
   ·cases q with
    | nil=>exact absurd rfl v3
    | cons c q =>
     have:=hd45 c (v2 c (by simp))
     simp [Lib.hasPrefix,Ne.symm this]
 have hdq:∀ b∈digs,quals.contains b=false:=by decide
 have hd:qk S=Lib.itoa (x+1):=by
  unfold qk Lib.trimLeftS
  rw [ht,WG (fun c hc=>by simpa using v2 c hc),hi,List.dropWhile_cons_of_neg (by rw [hdq b hb];decide)]
 have hqo:zJ S=q:=by
  unfold zJ
  rw [ht,hd,List.length_append,Nat.add_sub_cancel,List.take_left]
 have hn:=qjd (n:=x+1) (by omega) (by omega)
 have hst:qP S=x:=by unfold qP;rw [hd,hn];show x+1-1=x;omega
 have hlt:(wO S).length<S.length↔mn=[45]:=by
  rw [ht,hS]
  rcases hmn with ⟨rfl,_,_⟩|⟨rfl,_,_⟩
  ·simp
  ·simp
 have hj:vQ S (vq x y)=(s,h):=by
  unfold vQ vq
  rw [hst]
  rcases hmn with ⟨e,e1,e2⟩|⟨e,e1,e2⟩
  ·rw [if_pos (hlt.2 e)]
   exact Prod.ext (by show _=s;omega) (by show _=h;omega)
  ·rw [if_neg (fun c=>by have:=hlt.1 c;rw [e] at this;cases this)]
   exact Prod.ext (by show _=s;omega) (by show _=h;omega)
 rw [qI (s:=S) (by rw [hd,hn]) (by rw [hd,hn];show ¬ x+1<1;omega) (by rw [hqo];exact v3) (by rw [hst];omega) (by rw [hqo];omega) (m:=vq x y) (by rw [hst,hqo];exact v1) hj]
 exact zF (by rw [hnm]) (by rw [hnm,hS])
/-! ### digits -/
/-! ### beginnings -/
/-! ### numbers,digit by digit -/
theorem trim_none {t:List UInt8} (h:∀ b∈t,b∈digs):Lib.trimS t digs=[]:=by
 unfold Lib.trimS Lib.trimLeftS Lib.trimRightS
 have key:∀ l:List UInt8,(∀ b∈l,b∈digs)→l.dropWhile (digs.contains ·)=[]:=by
  intro l hl
  induction l with
  | nil=>rfl
  | cons a l ih=>rw [List.dropWhile_cons_of_pos (by simpa using hl a (by simp))];exact ih fun b hb=>hl b (by simp [hb])
 rw [key t.reverse fun b hb=>h b (by simpa using hb)]
 rfl
section
end
/-! ### names of intervals -/
section
end
theorem name_short (s h:Int):(qE s h).1.length≤100:=by
 by_cases hw:Pi.withinB s h=true
 ·have hb:=Pi.withinB_iff.1 hw
  have key:∀ mn x y,mn.length≤1 → -1≤x→x≤500→(Qv mn x y).1.length≤100:=fun mn x y h1 h2 h3=>by
   unfold Qv
   split
   ·decide
   ·have h4:=qual_len (zL x) (vq x y)
    have h5:=Qx (o:=x+1) (by omega) (by omega)
    simp only [List.length_append]
    omega
  by_cases hn:s<0∨(s=0∧h<0)
  ·rw [yY hw hn rfl];exact key _ _ _ (by decide) (by omega) (by omega)
  ·rw [yX hw hn rfl];exact key _ _ _ (by decide) (by omega) (by omega)
 ·rw [qdu hw];decide
abbrev Pt:=Int × Int × Int
def ptC (p:Pt):List PV:=[iv p.1,iv p.2.1,iv p.2.2]
def yI (l:List Pt):List PV:=l.flatMap ptC
def yO:Pt:=(0,0,0)
def rb (p:Pt):Bool:=rightB p.1 p.2.1 p.2.2
/-! ### the notes of a chord -/
/-! ### what chord it is -/
/-! ### classes -/
/-! ### signs -/
section
end
/-! ### letters -/
/-! ### names -/
abbrev qJ:=List UInt8
inductive It where
 | mk (k s:Int) (ps:List Pt) (b:Int × Int) (ly:qJ) (ks:List It)
def iK:It→Int | .mk k _ _ _ _ _=>k
def iS:It→Int | .mk _ s _ _ _ _=>s
def iP:It→List Pt | .mk _ _ ps _ _ _=>ps
def iB:It→Int × Int | .mk _ _ _ b _ _=>b
def iL:It→qJ | .mk _ _ _ _ ly _=>ly
def iC:It→List It | .mk _ _ _ _ _ ks=>ks
abbrev qV:It:=.mk 0 0 [] (0,0) [] []
mutual
def ic:It→List PV
 | .mk _ _ _ _ _ ks=>zT ks
def zT:List It→List PV
 | []=>[]
 | x :: l=>iv (iK x) :: iv (iS x) :: .ssl (yI (iP x)) 0 (iP x).length :: iv (iB x).1 :: iv (iB x).2 :: sv (st (iL x)) :: .ssl (ic x) 0 (iC x).length :: zT l
end
def gI (x:It):List PV:=[iv (iK x),iv (iS x),.ssl (yI (iP x)) 0 (iP x).length,iv (iB x).1,iv (iB x).2,sv (st (iL x)),.ssl (zT (iC x)) 0 (iC x).length]
theorem ic_ics (x:It):ic x=zT (iC x):=by cases x with|mk k s ps b ly ks=>rw [ic];rfl
theorem QE:∀ l:List It,zT l=l.flatMap gI
 | []=>by simp [zT]
 | x :: l=>by rw [zT,QE l,List.flatMap_cons,ic_ics];rfl
theorem qhn (l:List It) (k j m:Nat) (hk:k<l.length) (hj:j+m≤7):k*7+j+m≤(zT l).length∧((zT l).drop (k*7+j)).take m=((gI (l.getD k qV)).drop j).take m:=by
 rw [QE]
 exact vN gI 7 (fun _=>rfl) qV l k j m hk hj
theorem gI_shd (x:It):(gI x).all PV.shd=true:=by unfold gI;rfl
theorem ZN (l:List It):YY (zT l):=by rw [QE];exact qat gI gI_shd _
abbrev QG (n:Int):Prop := -9223372036854775808≤n∧n≤9223372036854775807
mutual
def YZ:It→Prop
 | .mk _ _ ps b ly ks=>(QG b.1∧QG b.2)∧ps.length≤5864062014634∧ly.length≤140737488351232∧ks.length≤1466015503658∧jH ks
def jH:List It→Prop
 | []=>True
 | x :: l=>YZ x∧jH l
end
theorem qav (x:It):YZ x↔((QG (iB x).1∧QG (iB x).2)∧(iP x).length≤5864062014634∧(iL x).length≤140737488351232∧(iC x).length≤1466015503658∧jH (iC x)):=by
 cases x with|mk k s ps b ly ks=>rw [YZ];rfl
theorem qhs:∀ {l:List It} {i:Nat},jH l→i<l.length→YZ (l.getD i qV)
 | [],i,_,h=>absurd h (Nat.not_lt_zero i)
 | x :: l,0,h,_=>by rw [jH] at h;exact h.1
 | x :: l,i+1,h,hi=>by
  rw [jH] at h
  have:=qhs (i:=i) h.2 (by simpa using hi)
  simpa using this
theorem el_lt {l:List It} {i:Nat} (h:i<l.length):SizeOf.sizeOf (l.getD i qV)<SizeOf.sizeOf l:=by
 rw [List.getD_eq_getElem?_getD,List.getElem?_eq_getElem h]
 exact List.sizeOf_lt_of_mem (List.getElem_mem h)
theorem VG (x:It):SizeOf.sizeOf (iC x)<SizeOf.sizeOf x:=by
 cases x with|mk k s ps b ly ks=>simp only [iC,It.mk.sizeOf_spec];omega
abbrev Br:=Int × Int × List It
def brC (b:Br):List PV:=[iv b.1,iv b.2.1,.ssl (zT b.2.2) 0 b.2.2.length]
def jA (l:List Br):List PV:=l.flatMap brC
abbrev zQ:Br:=(0,0,[])
abbrev Vo:=qJ × List Br
def voC (v:Vo):List PV:=[sv (st v.1),.ssl (jA v.2) 0 v.2.length]
def yq (l:List Vo):List PV:=l.flatMap voC
abbrev qO:Vo:=([],[])
theorem qhw (l:List Br):YY (jA l):=qat brC (fun _=>rfl) l
theorem qgn (l:List Vo):YY (yq l):=qat voC (fun _=>rfl) l

/-! ### names and lyrics -/
def abc:List UInt8:=[97,98,99,100,101,102,103,104,105,106,107,108,109,110,111,112,113,114,115,116,117,118,119,120,121,122]
theorem trim_nil {t cs:List UInt8}:Lib.trimS t cs=[]↔∀ b∈t,b∈cs:=by
 unfold Lib.trimS Lib.trimLeftS Lib.trimRightS
 constructor
 ·intro h
  replace h:=ZT h
  intro b hb
  have hb':b∈t.reverse:=by simpa using hb
  rw [← List.takeWhile_append_dropWhile (p:=fun x=>cs.contains x) (l:=t.reverse),List.mem_append] at hb'
  rcases hb' with hb'|hb'
  ·have:=ZQ b hb'
   simpa using this
  ·have:=h b (by simpa using hb')
   simpa using this
 ·intro h
  have key:∀ l:List UInt8,(∀ b∈l,b∈cs)→l.dropWhile (cs.contains ·)=[]:=by
   intro l hl
   induction l with
   | nil=>rfl
   | cons a l ih=>rw [List.dropWhile_cons_of_pos (by simpa using hl a (by simp))];exact ih fun b hb=>hl b (by simp [hb])
  rw [key t.reverse fun b hb=>h b (by simpa using hb)]
  rfl
theorem abc_ascii:∀ (j:Nat) b,abc[j]? = some b→b.toNat<128:=by
 intro j b h
 have:∀ b∈abc,b.toNat<128:=by decide
 exact this b (List.mem_of_getElem? h)
def jM (s:qJ):Bool:=decide (s≠[]∧s.length≤32∧∀ b∈s,b∈abc)
def vK (r l:Int):Bool:=decide (32≤r∧r≠34∧r≠127∧(r≠65533∨1<l))
def wz (s:qJ):Bool :=
 if _h:1≤zB s∧1≤s.length then vK (zS s) (zB s) && wz (s.drop (zB s)) else true
termination_by s.length
decreasing_by rw [List.length_drop];omega
theorem qcg:wz []=true:=by rw [wz,dif_neg (fun c=>by simp at c)]
theorem QU {s:qJ} (h:s≠[]):wz s=(vK (zS s) (zB s) && wz (s.drop (zB s))):=by
 rw [wz,dif_pos ⟨jC h,List.length_pos_iff.2 h⟩]
def ZI (s:qJ):Nat:=Lib.runeCount (st s)
def wA (s:qJ):Bool:=decide (1≤ZI s∧ZI s≤100) && wz s

/-! ### what is wrong -/
abbrev bz (x:It):Bool:=decide ((iB x).1=0) && decide ((iB x).2=0)
def vw (x:It):Bool :=
 if (iP x).length=0 then false else if 16<(iP x).length then false else if 0<(iC x).length then false
 else if bz x=true then (if (iP x).all rb=true then (if iL x=[] then true else wA (iL x)) else false) else false
def vZ (x:It):Bool:=if (iP x).length=0 then (if (iC x).length=0 then (if iL x=[] then bz x else false) else false) else false
def yS (x:It):Bool :=
 if (iC x).length=0 then false else if 0<(iP x).length then false
 else if iL x=[] then (if iK x=4 then (if bz x=true then decide ((qE (iB x).1 (iB x).2).2=0) else false) else decide ((qE (iB x).1 (iB x).2).2=0)) else false
theorem all_rb {l:List Pt} (h:∀ i,i<l.length→rb (l.getD i yO)=true):l.all rb=true:=by
 rw [List.all_eq_true]
 intro p hp
 obtain ⟨i,hi,e⟩:=List.mem_iff_getElem.1 hp
 have:=h i hi
 rw [List.getD_eq_getElem?_getD,List.getElem?_eq_getElem hi,Option.getD_some,e] at this
 exact this
theorem not_all_rb {l:List Pt} {i:Nat} (hi:i<l.length) (h:¬ rb (l.getD i yO)=true):¬ l.all rb=true:=fun c=>h (by
 rw [List.getD_eq_getElem?_getD,List.getElem?_eq_getElem hi,Option.getD_some]
 exact List.all_eq_true.1 c _ (List.getElem_mem hi))
theorem itb {X:Bool × Int} {n:Nat} (h:0<n):X=(decide (X.1=true∧0<n),X.2):=Prod.ext (by simp [h]) rfl
mutual
def vV:It→Int→Int→Bool × Int
 | .mk k s ps b ly ks,lv,n =>
  if n-1<0∨31<lv∨s<1∨65536<s then (false,n-1)
  else if k=1 then (vw (.mk k s ps b ly ks),n-1)
  else if k=2∨k=3 then (vZ (.mk k s ps b ly ks),n-1)
  else if k=4∨k=5 then
   (if yS (.mk k s ps b ly ks)=true then wL ks (lv+1) (n-1) else (false,n-1))
  else (false,n-1)
def wL:List It→Int→Int→Bool × Int
 | [],_,n=>(true,n)
 | x :: l,lv,n=>if (vV x lv n).1=true then wL l lv (vV x lv n).2 else (false,(vV x lv n).2)
end
theorem yW (x:It) (lv n:Int):vV x lv n =
  if n-1<0∨31<lv∨iS x<1∨65536<iS x then (false,n-1)
  else if iK x=1 then (vw x,n-1)
  else if iK x=2∨iK x=3 then (vZ x,n-1)
  else if iK x=4∨iK x=5 then
   (if yS x=true then wL (iC x) (lv+1) (n-1) else (false,n-1))
  else (false,n-1):=by
 cases x with|mk k s ps b ly ks=>rw [vV];rfl
theorem itL_at {l:List It} {i:Nat} {lv n:Int} (h:i<l.length):wL (l.drop i) lv n=if (vV (l.getD i qV) lv n).1=true then wL (l.drop (i+1)) lv (vV (l.getD i qV) lv n).2 else (false,(vV (l.getD i qV) lv n).2):=by
 rw [List.drop_eq_getElem_cons h,List.getD_eq_getElem?_getD,List.getElem?_eq_getElem h,wL];rfl
mutual
theorem qcq:∀ (x:It) (lv n:Int),0≤n→(vV x lv n).2<n ∧ -1≤(vV x lv n).2∧((vV x lv n).1=true→0≤(vV x lv n).2)
 | .mk k s ps b ly ks,lv,n,hn=>by
  rw [vV]
  split
  ·exact ⟨by show n-1<n;omega,by show -1≤n-1;omega,fun h=>by simp at h⟩
  rename_i h1
  split
  ·exact ⟨by show n-1<n;omega,by show -1≤n-1;omega,fun _=>by show 0≤n-1;omega⟩
  split
  ·exact ⟨by show n-1<n;omega,by show -1≤n-1;omega,fun _=>by show 0≤n-1;omega⟩
  split
  ·split
   ·have:=qhm ks (lv+1) (n-1) (by omega)
    exact ⟨by omega,this.2.1,this.2.2⟩
   ·exact ⟨by show n-1<n;omega,by show -1≤n-1;omega,fun h=>by simp at h⟩
  ·exact ⟨by show n-1<n;omega,by show -1≤n-1;omega,fun h=>by simp at h⟩
theorem qhm:∀ (l:List It) (lv n:Int),0≤n→(wL l lv n).2≤n ∧ -1≤(wL l lv n).2∧((wL l lv n).1=true→0≤(wL l lv n).2)
 | [],lv,n,hn=>by rw [wL];exact ⟨Int.le_refl _,by show -1≤n;omega,fun _=>hn⟩
 | x :: l,lv,n,hn=>by
  have h1:=qcq x lv n hn
  rw [wL]
  split
  ·rename_i h2
   have:=qhm l lv (vV x lv n).2 (h1.2.2 h2)
   exact ⟨by omega,this.2.1,this.2.2⟩
  ·exact ⟨by show (vV x lv n).2≤n;omega,h1.2.1,fun h=>by simp at h⟩
end
def jj (b:Br):Int:=if b.1<1∨65536<b.1∨b.2.1<1∨65536<b.2.1 then 3 else if (wL b.2.2 1 4095).1=true∧0<b.2.2.length then 0 else 2
def YC:List Br→Int
 | []=>0
 | b :: l=>if jj b=0 then YC l else jj b
def vA (v:Vo):Int:=if jM v.1=true then (if 1024<v.2.length then 5 else YC v.2) else 7
def wY:List Vo→Int
 | []=>0
 | v :: l=>if vA v=0 then wY l else vA v
def yF (l:List Vo):Int:=if 64<l.length then 5 else wY l
def qhu (b:Br):Prop:=QG b.1∧QG b.2.1∧b.2.2.length≤1466015503658∧jH b.2.2
def fitVo (v:Vo):Prop:=v.1.length≤140737488351232∧v.2.length≤140737488351232∧∀ i,i<v.2.length→qhu (v.2.getD i zQ)
def qei (l:List Vo):Prop:=l.length≤140737488351232∧∀ i,i<l.length→fitVo (l.getD i qO)
theorem YB {l:List Br} {i:Nat} (h:i<l.length):YC (l.drop i)=if jj (l.getD i zQ)=0 then YC (l.drop (i+1)) else jj (l.getD i zQ):=by
 rw [List.drop_eq_getElem_cons h,List.getD_eq_getElem?_getD,List.getElem?_eq_getElem h,YC];rfl
theorem wN {l:List Vo} {i:Nat} (h:i<l.length):wY (l.drop i)=if vA (l.getD i qO)=0 then wY (l.drop (i+1)) else vA (l.getD i qO):=by
 rw [List.drop_eq_getElem_cons h,List.getD_eq_getElem?_getD,List.getElem?_eq_getElem h,wY];rfl
def QN:qJ→Nat
 | []=>0
 | b :: l=>if b.toNat=32∨b.toNat=10 then QN l+1 else 0
def qB (s:qJ) (a:Nat):Nat:=a+QN (s.drop a)
theorem skip_le:∀ l:qJ,QN l≤l.length
 | []=>Nat.le_refl _
 | b :: l=>by
  have:=skip_le l
  unfold QN
  split <;> simp <;> omega
theorem qbe:∀ l:qJ,QN (l.drop (QN l))=0
 | []=>rfl
 | b :: l=>by
  by_cases h:b.toNat=32∨b.toNat=10
  ·have e:QN (b :: l)=QN l+1:=by rw [QN,if_pos h]
   rw [e,List.drop_succ_cons];exact qbe l
  ·have e:QN (b :: l)=0:=by rw [QN,if_neg h]
   rw [e,List.drop_zero,e]
theorem yR {s:qJ} {a:Nat} (h:a≤s.length):qB s a≤s.length:=by
 have:=skip_le (s.drop a)
 rw [List.length_drop] at this
 unfold qB
 omega
theorem vR (s:qJ) (a:Nat):a≤qB s a:=Nat.le_add_right _ _
theorem qbu {s:qJ} {a:Nat} (h:a<s.length):s.drop a=s.getD a 0 :: s.drop (a+1):=by
 rw [List.drop_eq_getElem_cons h,List.getD_eq_getElem?_getD,List.getElem?_eq_getElem h];rfl
theorem gap_yes {s:qJ} {a:Nat} (h:a<s.length) (hb:(s.getD a 0).toNat=32∨(s.getD a 0).toNat=10):qB s a=qB s (a+1):=by
 unfold qB
 rw [qbu h,QN,if_pos hb]
 omega
theorem gap_no {s:qJ} {a:Nat} (hb:¬ ((s.getD a 0).toNat=32∨(s.getD a 0).toNat=10)):qB s a=a:=by
 unfold qB
 by_cases h:a<s.length
 ·rw [qbu h,QN,if_neg hb];rfl
 ·rw [List.drop_eq_nil_of_le (by omega)];rfl
theorem gap_end {s:qJ} {a:Nat} (h:¬ a<s.length):qB s a=a:=by
 unfold qB
 rw [List.drop_eq_nil_of_le (by omega)];rfl
theorem ZO (s:qJ) (a:Nat):qB s (qB s a)=qB s a:=by
 have h:=qbe (s.drop a)
 rw [List.drop_drop] at h
 unfold qB
 rw [h];rfl
def sgn:qJ:=[32,10,124,47,60,62,126,91,93,42,34]
def qC (s:qJ) (a:Nat):qJ:=(s.drop (qB s a)).takeWhile fun b=>!sgn.contains b
theorem qhz:∀ l:qJ,(Lib.indexAny l sgn<0→l.takeWhile (fun b=>!sgn.contains b)=l) ∧
  (0≤Lib.indexAny l sgn→(Lib.indexAny l sgn).toNat<l.length∧l.takeWhile (fun b=>!sgn.contains b)=l.take (Lib.indexAny l sgn).toNat)
 | []=>⟨fun _=>rfl,fun h=>by simp [Lib.indexAny] at h⟩
 | b :: l=>by
  have ih:=qhz l
  have hg:=Lib.indexAny_ge sgn l
  unfold Lib.indexAny
  by_cases c:sgn.contains b=true
  ·rw [if_pos c]
   exact ⟨fun h=>by omega,fun _=>⟨by simp,by rw [List.takeWhile_cons];simp only [c,Bool.not_true,Bool.false_eq_true,if_false];rfl⟩⟩
  ·rw [if_neg c]
   have c':sgn.contains b=false:=by simpa using c
   have hc:(b :: l).takeWhile (fun b=>!sgn.contains b)=b :: l.takeWhile (fun b=>!sgn.contains b):=by
    rw [List.takeWhile_cons];simp only [c',Bool.not_false,if_true]
   rw [hc]
   by_cases e:Lib.indexAny l sgn = -1
   ·have e':(Lib.indexAny l sgn == -1)=true:=by simp [e]
    rw [if_pos e']
    exact ⟨fun _=>by rw [ih.1 (by omega)],fun h=>by omega⟩
   ·have e':¬ (Lib.indexAny l sgn == -1)=true:=by simp [e]
    rw [if_neg e']
    obtain ⟨h1,h2⟩:=ih.2 (by omega)
    refine ⟨fun h=>by omega,fun _=>⟨by simp;omega,?_⟩⟩
    rw [h2,show (Lib.indexAny l sgn+1).toNat=(Lib.indexAny l sgn).toNat+1 by omega,List.take_succ_cons]
theorem vO {s:qJ} {a:Nat} (h:a≤s.length):qB s a+(qC s a).length≤s.length:=by
 have h1:=(List.takeWhile_prefix (fun b=>!sgn.contains b) (l:=s.drop (qB s a))).length_le
 have h2:=yR h
 rw [List.length_drop] at h1
 show qB s a+(List.takeWhile _ _).length≤_
 omega
theorem word_none {s:qJ} {a:Nat} (h:Lib.indexAny (s.drop (qB s a)) sgn<0):qC s a=s.drop (qB s a):=(qhz _).1 h
theorem word_cut {s:qJ} {a:Nat} {i:Int} (hi:i=Lib.indexAny (s.drop (qB s a)) sgn) (h:0≤i):qB s a+i.toNat≤s.length∧(s.drop (qB s a)).take i.toNat=qC s a:=by
 subst hi
 have:=(qhz (s.drop (qB s a))).2 h
 rw [List.length_drop] at this
 exact ⟨by omega,this.2.symm⟩
def qv (s:qJ) (a:Nat) (c:Int):Bool:=decide (qB s a<s.length∧(((s.getD (qB s a) 0).toNat:Nat):Int)=c)
theorem yA {s:qJ} {a:Nat} {c:Int} (h:qv s a c=true):qB s a<s.length:=(of_decide_eq_true h).1
def qN (s:qJ) (a:Nat):Int × Int × Nat :=
 if qC s a=[] then (2,0,qB s a)
 else if Lib.trimS (qC s a) digs=[] then
  if 1<(qC s a).length∧((qC s a).getD 0 0).toNat=48 then (2,0,qB s a)
  else if 18<(qC s a).length then (3,0,qB s a)
  else if yE (qC s a)<1∨65536<yE (qC s a) then (3,0,qB s a)
  else (0,yE (qC s a),qB s a+(qC s a).length)
 else (2,0,qB s a)
theorem jW {s:qJ} {a:Nat} (h:a≤s.length):qB s a≤(qN s a).2.2∧(qN s a).2.2≤s.length:=by
 have h1:=vO h
 have h2:=yR h
 unfold qN
 repeat' split
 all_goals first|exact ⟨Nat.le_refl _,h2⟩|exact ⟨Nat.le_add_right _ _,h1⟩
theorem qhh {s:qJ} {a:Nat} (h:(qN s a).1=0):1≤(qN s a).2.1∧(qN s a).2.1≤65536:=by
 unfold qN at h ⊢
 repeat' split at h
 all_goals first|(cases h;done)|skip
 rename_i h1 h2 h3 h4 h5
 rw [if_neg h1,if_pos h2,if_neg h3,if_neg h4,if_neg h5]
 exact ⟨by show 1≤yE _;omega,by show yE _≤65536;omega⟩
theorem signsR_le:∀ (l:qJ) (a:Int) (n:Nat),n≤(vB l a n).2.2∧(vB l a n).2.2≤n+l.length:=by
 intro l
 induction hl:l.length using Nat.strongRecOn generalizing l with
 | ind m ih =>
  intro a n
  subst hl
  rw [vB]
  split
  ·rename_i h
   split
   ·exact ⟨Nat.le_refl _,Nat.le_add_right _ _⟩
   ·have hd:=jy l
    have:=ih (l.drop (zB l)).length (by rw [List.length_drop];omega) (l.drop (zB l)) rfl (a+(zV (zS l)).1) (n+zB l)
    rw [List.length_drop] at this
    exact ⟨by omega,by omega⟩
  ·exact ⟨Nat.le_refl _,Nat.le_add_right _ _⟩
theorem readS_at (w:qJ):0≤(zq w).2.2∧(zq w).2.2≤(w.length:Int)+4:=by
 have hb:(vF w).2.2≤w.length+4:=by
  unfold vF
  split
  ·show 4≤_;omega
  ·have:=(signsR_le (w.drop 1) 0 1).2
   rw [List.length_drop] at this
   omega
 unfold zq
 repeat' split
 all_goals first|exact ⟨by show (0:Int)≤0;omega,by show (0:Int)≤_;omega⟩|exact ⟨by show (0:Int)≤((vF w).2.2:Int);omega,by show ((vF w).2.2:Int)≤_;omega⟩
def qS (s:qJ) (a:Nat):Int × Pt × Nat :=
 if (zq (qC s a)).2.1=0 then (0,(zq (qC s a)).1,qB s a+(qC s a).length) else ((zq (qC s a)).2.1,(0,0,0),qB s a+(zq (qC s a)).2.2.toNat)
theorem qdo {s:qJ} {a:Nat} (h:a≤s.length) (h0:(qS s a).1=0):qB s a≤(qS s a).2.2∧(qS s a).2.2≤s.length:=by
 have h1:=vO h
 unfold qS at h0 ⊢
 split at h0
 ·rename_i c
  rw [if_pos c]
  exact ⟨Nat.le_add_right _ _,h1⟩
 ·rename_i c
  exact absurd h0 c
def wq (l:qJ) (n:Nat):Int × Nat :=
 if zB l=1∧zS l=34∧0<n then (0,0)
 else if _h:vK (zS l) (zB l)=true∧1≤zB l∧1≤l.length then
  if n=100 then (4,0) else ((wq (l.drop (zB l)) (n+1)).1,zB l+(wq (l.drop (zB l)) (n+1)).2)
 else (2,0)
termination_by l.length
decreasing_by all_goals (rw [List.length_drop];omega)
def zv (s:qJ) (a:Nat):Int × qJ × Nat :=
 if qv s a 34=true then
  if (wq (s.drop (qB s a+1)) 0).1=0 then (0,(s.drop (qB s a+1)).take (wq (s.drop (qB s a+1)) 0).2,qB s a+1+(wq (s.drop (qB s a+1)) 0).2+1)
  else ((wq (s.drop (qB s a+1)) 0).1,[],qB s a+1+(wq (s.drop (qB s a+1)) 0).2)
 else (0,[],qB s a)
theorem qej:vK (zS []) (zB [])=false:=rfl
theorem Vk {l:qJ} (h:vK (zS l) (zB l)=true):1≤zB l∧1≤l.length:=by
 have hl:l≠[]:=fun e=>by subst e;rw [qej] at h;cases h
 exact ⟨jC hl,List.length_pos_iff.2 hl⟩
theorem qal {l:qJ} {n:Nat} (h:zB l=1∧zS l=34∧0<n):wq l n=(0,0):=by rw [wq,if_pos h]
theorem ZZ {l:qJ} {n:Nat} (h:¬ (zB l=1∧zS l=34∧0<n)) (hf:¬ vK (zS l) (zB l)=true):wq l n=(2,0):=by rw [wq,if_neg h,dif_neg fun c=>hf c.1]
theorem ZY {l:qJ} {n:Nat} (h:¬ (zB l=1∧zS l=34∧0<n)) (hf:vK (zS l) (zB l)=true) (hn:n=100):wq l n=(4,0):=by rw [wq,if_neg h,dif_pos ⟨hf,Vk hf⟩,if_pos hn]
theorem QZ {l:qJ} {n:Nat} (h:¬ (zB l=1∧zS l=34∧0<n)) (hf:vK (zS l) (zB l)=true) (hn:¬ n=100):wq l n=((wq (l.drop (zB l)) (n+1)).1,zB l+(wq (l.drop (zB l)) (n+1)).2):=by
 rw [wq,if_neg h,dif_pos ⟨hf,Vk hf⟩,if_neg hn]
theorem lyrL_le:∀ (l:qJ) (n:Nat),(wq l n).2≤l.length∧((wq l n).1=0→(wq l n).2<l.length):=by
 intro l
 induction hl:l.length using Nat.strongRecOn generalizing l with
 | ind m ih =>
  intro n
  subst hl
  by_cases h:zB l=1∧zS l=34∧0<n
  ·rw [qal h]
   have:=jy l
   exact ⟨Nat.zero_le _,fun _=>by show 0<l.length;omega⟩
  by_cases hf:vK (zS l) (zB l)=true
  ·by_cases hn:n=100
   ·rw [ZY h hf hn]
    exact ⟨Nat.zero_le _,fun h=>by cases h⟩
   ·rw [QZ h hf hn]
    have hd:=jy l
    have hp:=Vk hf
    have:=ih (l.drop (zB l)).length (by rw [List.length_drop];omega) (l.drop (zB l)) rfl (n+1)
    rw [List.length_drop] at this
    refine ⟨by show zB l+_≤_;omega,fun h0=>?_⟩
    have:=this.2 h0
    show zB l+_<_
    omega
  ·rw [ZZ h hf]
   exact ⟨Nat.zero_le _,fun h=>by cases h⟩
theorem lyr_le {s:qJ} {a:Nat} (h:a≤s.length):qB s a≤(zv s a).2.2∧(zv s a).2.2≤s.length:=by
 have h2:=yR h
 have h3:=lyrL_le (s.drop (qB s a+1)) 0
 rw [List.length_drop] at h3
 unfold zv
 split
 ·rename_i c
  have:=yA c
  split
  ·rename_i c0
   have:=h3.2 c0
   exact ⟨by show qB s a≤qB s a+1+_+1;omega,by show qB s a+1+_+1≤s.length;omega⟩
  ·exact ⟨by show qB s a≤qB s a+1+_;omega,by show qB s a+1+_≤s.length;omega⟩
 ·exact ⟨Nat.le_refl _,h2⟩
def Vx (s:qJ):Nat→List Pt→Nat→Int × List Pt × Nat
 | 0,_,a=>(5,[],a)
 | m+1,ps,a =>
  if (qS s a).1=0 then
   if qv s (qS s a).2.2 62=true then (0,ps++[(qS s a).2.1],qB s (qS s a).2.2+1)
   else Vx s m (ps++[(qS s a).2.1]) (qB s (qS s a).2.2)
  else ((qS s a).1,[],(qS s a).2.2)
theorem chL_le {s:qJ}:∀ (m:Nat) (ps:List Pt) (a:Nat),a≤s.length→(Vx s m ps a).1=0→a≤(Vx s m ps a).2.2∧(Vx s m ps a).2.2≤s.length∧(Vx s m ps a).2.1.length≤ps.length+m
 | 0,ps,a,_,h0=>by cases h0
 | m+1,ps,a,h,h0=>by
  rw [Vx] at h0 ⊢
  have hga:=vR s a
  split at h0
  ·rename_i c
   rw [if_pos c]
   have hp:=qdo h c
   have hgp:=vR s (qS s a).2.2
   split at h0
   ·rename_i c2
    rw [if_pos c2]
    have:=yA c2
    exact ⟨by show a≤qB s _+1;omega,by show qB s _+1≤_;omega,by show (ps++[_]).length≤_;rw [List.length_append,List.length_singleton];omega⟩
   ·rename_i c2
    rw [if_neg c2]
    have:=chL_le m (ps++[(qS s a).2.1]) (qB s (qS s a).2.2) (yR hp.2) h0
    rw [List.length_append,List.length_singleton] at this
    exact ⟨by omega,this.2.1,by omega⟩
  ·rename_i c
   exact absurd h0 c
def WJ (x:It) (n:Int):It:=.mk (iK x) n (iP x) (iB x) (iL x) (iC x)
def setL (x:It) (t:qJ):It:=.mk (iK x) (iS x) (iP x) (iB x) t (iC x)
def vT (s:qJ) (x:It) (a k:Nat):Int × It × Nat × Nat :=
 if iK x=1 then
  if (zv s a).1=0 then (0,setL x (zv s a).2.1,(zv s a).2.2,k) else ((zv s a).1,qV,(zv s a).2.2,k)
 else (0,x,a,k)
def yB (s:qJ) (x:It) (a k:Nat):Int × It × Nat × Nat :=
 if qv s a 42=true then
  if (qN s (qB s a+1)).1=0 then vT s (WJ x (qN s (qB s a+1)).2.1) (qN s (qB s a+1)).2.2 k
  else ((qN s (qB s a+1)).1,qV,(qN s (qB s a+1)).2.2,k)
 else vT s x (qB s a) k
theorem qii {s:qJ} {x:It} {a k:Nat} (h:a≤s.length):a≤(vT s x a k).2.2.1∧(vT s x a k).2.2.1≤s.length∧(vT s x a k).2.2.2=k:=by
 have h1:=lyr_le h
 have h2:=vR s a
 unfold vT
 repeat' split
 ·exact ⟨by show a≤(zv s a).2.2;omega,h1.2,rfl⟩
 ·exact ⟨by show a≤(zv s a).2.2;omega,h1.2,rfl⟩
 ·exact ⟨Nat.le_refl _,h,rfl⟩
theorem Ww {s:qJ} {x:It} {a k:Nat} (h:a≤s.length):a≤(yB s x a k).2.2.1∧(yB s x a k).2.2.1≤s.length∧(yB s x a k).2.2.2=k:=by
 have h2:=vR s a
 have h3:=vR s (qB s a+1)
 unfold yB
 split
 ·rename_i c
  have h4:=yA c
  have h5:=jW (s:=s) (a:=qB s a+1) (by omega)
  split
  ·have:=qii (s:=s) (x:=WJ x (qN s (qB s a+1)).2.1) (k:=k) h5.2
   exact ⟨by omega,this.2⟩
  ·exact ⟨by show a≤(qN s (qB s a+1)).2.2;omega,h5.2,rfl⟩
 ·have:=qii (s:=s) (x:=x) (k:=k) (yR h)
  exact ⟨by omega,this.2⟩
def vow:qJ:=[118,111,105,99,101]
mutual
def qZ (s:qJ) (lv:Int) (a:Nat) (k:Nat):Int × It × Nat × Nat :=
 if _h:k=0∨31<lv then (4,qV,qB s a,0)
 else if qC s a=[45] then yB s (.mk 2 1 [] (0,0) [] []) (qB s a+1) (k-1)
 else if qv s a 126=true then yB s (.mk 3 1 [] (0,0) [] []) (qB s a+1) (k-1)
 else if qC s a=[117,112] then
  if (zX (qC s (qB s a+2))).2=0 then
   if (yP s lv (qB s (qB s a+2)+(qC s (qB s a+2)).length) (k-1)).1=0 then
    yB s (.mk 5 1 [] (zX (qC s (qB s a+2))).1 [] (yP s lv (qB s (qB s a+2)+(qC s (qB s a+2)).length) (k-1)).2.1) (yP s lv (qB s (qB s a+2)+(qC s (qB s a+2)).length) (k-1)).2.2.1 (yP s lv (qB s (qB s a+2)+(qC s (qB s a+2)).length) (k-1)).2.2.2
   else ((yP s lv (qB s (qB s a+2)+(qC s (qB s a+2)).length) (k-1)).1,qV,(yP s lv (qB s (qB s a+2)+(qC s (qB s a+2)).length) (k-1)).2.2.1,0)
  else ((zX (qC s (qB s a+2))).2,qV,qB s (qB s a+2),0)
 else if qv s a 91=true then
  if (yP s lv (qB s a) (k-1)).1=0 then yB s (.mk 4 1 [] (0,0) [] (yP s lv (qB s a) (k-1)).2.1) (yP s lv (qB s a) (k-1)).2.2.1 (yP s lv (qB s a) (k-1)).2.2.2
  else ((yP s lv (qB s a) (k-1)).1,qV,(yP s lv (qB s a) (k-1)).2.2.1,0)
 else if qv s a 60=true then
  if (Vx s 16 [] (qB s a+1)).1=0 then yB s (.mk 1 1 (Vx s 16 [] (qB s a+1)).2.1 (0,0) [] []) (Vx s 16 [] (qB s a+1)).2.2 (k-1)
  else ((Vx s 16 [] (qB s a+1)).1,qV,(Vx s 16 [] (qB s a+1)).2.2,0)
 else if (qS s (qB s a)).1=0 then yB s (.mk 1 1 [(qS s (qB s a)).2.1] (0,0) [] []) (qS s (qB s a)).2.2 (k-1)
 else ((qS s (qB s a)).1,qV,(qS s (qB s a)).2.2,0)
termination_by (k,0)
decreasing_by all_goals first|(apply Prod.Lex.right;decide)|(apply Prod.Lex.left;omega)
def yP (s:qJ) (lv:Int) (a:Nat) (k:Nat):Int × List It × Nat × Nat :=
 if qv s a 91=true then grL s lv [] (qB s a+1) k else (2,[],qB s a,0)
termination_by (k,2)
decreasing_by all_goals first|(apply Prod.Lex.right;decide)|(apply Prod.Lex.left;omega)
def grL (s:qJ) (lv:Int) (l:List It) (a:Nat) (k:Nat):Int × List It × Nat × Nat :=
 if (qZ s (lv+1) a k).1=0 then
  if qv s (qZ s (lv+1) a k).2.2.1 93=true then (0,l++[(qZ s (lv+1) a k).2.1],qB s (qZ s (lv+1) a k).2.2.1+1,(qZ s (lv+1) a k).2.2.2)
  else if _h:(qZ s (lv+1) a k).2.2.2<k then grL s lv (l++[(qZ s (lv+1) a k).2.1]) (qB s (qZ s (lv+1) a k).2.2.1) (qZ s (lv+1) a k).2.2.2
  else (4,[],0,0)
 else ((qZ s (lv+1) a k).1,[],(qZ s (lv+1) a k).2.2.1,0)
termination_by (k,1)
decreasing_by all_goals first|(apply Prod.Lex.right;decide)|(apply Prod.Lex.left;omega)
end
theorem dcd_N {l:qJ} (h:l≠[]):(zS l,zB l)=Lib.decodeN l.length (l.getD 0 0).toNat (l.getD 1 0).toNat (l.getD 2 0).toNat (l.getD 3 0).toNat:=by
 have hs:(st l).size≠0:=fun e=>h (List.length_eq_zero_iff.1 e)
 unfold zS zB Lib.decodeGo
 rw [if_neg hs,Lib.decode_at]
 simp only [qdc]
 rfl
theorem qel (n a b c d:Nat):Lib.decodeN n a b c d=(65533,1)∨(a<128∧Lib.decodeN n a b c d=(a,1)) ∨
  ((Lib.decodeN n a b c d).2=2∧∀ n',2≤n'→∀ c' d',Lib.decodeN n' a b c' d'=Lib.decodeN n a b c d) ∨
  ((Lib.decodeN n a b c d).2=3∧∀ n',3≤n'→∀ d',Lib.decodeN n' a b c d'=Lib.decodeN n a b c d) ∨
  ((Lib.decodeN n a b c d).2=4∧∀ n',4≤n'→Lib.decodeN n' a b c d=Lib.decodeN n a b c d):=by
 by_cases h0:a<128
 ·exact .inr (.inl ⟨h0,by unfold Lib.decodeN;rw [if_pos h0]⟩)
 by_cases h1:a / 32=6∧(1<n∧b / 64=2)
 ·have e:∀ n',2≤n'→∀ c' d',Lib.decodeN n' a b c' d'=if a % 32*64+b % 64 ≥ 128 then (a % 32*64+b % 64,2) else (65533,1):=fun n' hn c' d'=>by
   unfold Lib.decodeN
   rw [if_neg h0,if_pos ⟨h1.1,by omega,h1.2.2⟩]
  rw [e n (by omega) c d]
  by_cases h2:a % 32*64+b % 64 ≥ 128
  ·rw [if_pos h2] at e ⊢
   exact .inr (.inr (.inl ⟨rfl,e⟩))
  ·rw [if_neg h2]
   exact .inl rfl
 by_cases h3:a / 16=14∧(1<n∧b / 64=2)∧(2<n∧c / 64=2)
 ·have e:∃ (q:Prop) (_:Decidable q) (m:Nat),∀ n',3≤n'→∀ d',Lib.decodeN n' a b c d'=if q then (m,3) else (65533,1):=⟨_,_,_,fun n' hn d'=>by
   unfold Lib.decodeN
   rw [if_neg h0,if_neg (show ¬ (a / 32=6∧(1<n'∧b / 64=2)) from by omega),if_pos (show a / 16=14∧(1<n'∧b / 64=2)∧(2<n'∧c / 64=2) from ⟨h3.1,⟨by omega,h3.2.1.2⟩,by omega,h3.2.2.2⟩)]⟩
  obtain ⟨q,_,m,e⟩:=e
  by_cases hq:q
  ·simp only [if_pos hq] at e
   refine .inr (.inr (.inr (.inl ⟨by rw [e n (by omega) d],fun n' hn d'=>by rw [e n' hn,e n (by omega)]⟩)))
  ·simp only [if_neg hq] at e
   exact .inl (e n (by omega) d)
 by_cases h5:a / 8=30∧(1<n∧b / 64=2)∧(2<n∧c / 64=2)∧(3<n∧d / 64=2)
 ·have e:∃ (q:Prop) (_:Decidable q) (m:Nat),∀ n',4≤n'→Lib.decodeN n' a b c d=if q then (m,4) else (65533,1):=⟨_,_,_,fun n' hn=>by
   unfold Lib.decodeN
   rw [if_neg h0,if_neg (show ¬ (a / 32=6∧(1<n'∧b / 64=2)) from by omega),if_neg (show ¬ (a / 16=14∧(1<n'∧b / 64=2)∧(2<n'∧c / 64=2)) from by omega),if_pos (show a / 8=30∧(1<n'∧b / 64=2)∧(2<n'∧c / 64=2)∧(3<n'∧d / 64=2) from ⟨h5.1,⟨by omega,h5.2.1.2⟩,⟨by omega,h5.2.2.1.2⟩,by omega,h5.2.2.2.2⟩)]⟩
  obtain ⟨q,_,m,e⟩:=e
  by_cases hq:q
  ·simp only [if_pos hq] at e
   refine .inr (.inr (.inr (.inr ⟨by rw [e n (by omega)],fun n' hn=>by rw [e n' hn,e n (by omega)]⟩)))
  ·simp only [if_neg hq] at e
   exact .inl (e n (by omega))
 ·left
  unfold Lib.decodeN
  rw [if_neg h0,if_neg h1,if_neg h3,if_neg h5]
theorem dec_ext {l l':qJ} (h:l≠[]) (hg:¬ (zS l=65533∧zB l=1)) (hl:zB l≤l'.length) (ht:∀ k,k<zB l→l'.getD k 0=l.getD k 0):zS l'=zS l∧zB l'=zB l:=by
 have hp:=jC h
 have h':l'≠[]:=fun e=>by rw [e] at hl;simp at hl;omega
 have e:=dcd_N h
 have e':=dcd_N h'
 have e1:zS l=(Lib.decodeN l.length (l.getD 0 0).toNat (l.getD 1 0).toNat (l.getD 2 0).toNat (l.getD 3 0).toNat).1:=congrArg Prod.fst e
 have e2:zB l=(Lib.decodeN l.length (l.getD 0 0).toNat (l.getD 1 0).toNat (l.getD 2 0).toNat (l.getD 3 0).toNat).2:=congrArg Prod.snd e
 suffices hx:(zS l',zB l')=(zS l,zB l) from ⟨congrArg Prod.fst hx,congrArg Prod.snd hx⟩
 rw [e',ht 0 (by omega),e]
 rcases qel l.length (l.getD 0 0).toNat (l.getD 1 0).toNat (l.getD 2 0).toNat (l.getD 3 0).toNat with q|⟨q0,q⟩|⟨q0,q⟩|⟨q0,q⟩|⟨q0,q⟩
 ·rw [q] at e1 e2
  exact absurd ⟨e1,e2⟩ hg
 ·rw [q]
  unfold Lib.decodeN
  rw [if_pos q0]
 ·rw [q0] at e2
  rw [ht 1 (by omega)]
  exact q _ (by omega) _ _
 ·rw [q0] at e2
  rw [ht 1 (by omega),ht 2 (by omega)]
  exact q _ (by omega) _
 ·rw [q0] at e2
  rw [ht 1 (by omega),ht 2 (by omega),ht 3 (by omega)]
  exact q _ (by omega)
theorem Vv {l:qJ} (h:vK (zS l) (zB l)=true):l≠[]∧¬ (zS l=65533∧zB l=1)∧zS l≠34:=by
 refine ⟨fun e=>(by subst e;rw [qej] at h;cases h),fun ⟨c1,c2⟩=>?_,fun c=>?_⟩
 ·rw [c1,c2] at h;exact absurd h (by decide)
 ·have:=of_decide_eq_true h
  rw [c] at this
  exact this.2.1 rfl
theorem dec_app {l r:qJ} (h:vK (zS l) (zB l)=true):zS (l++r)=zS l∧zB (l++r)=zB l:=by
 obtain ⟨h1,h2,_⟩:=Vv h
 have h3:=jy l
 refine dec_ext h1 h2 (by rw [List.length_append];omega) fun k hk=>?_
 rw [List.getD_eq_getElem?_getD,List.getElem?_append_left (by omega),List.getD_eq_getElem?_getD]
theorem dec_take {l:qJ} {m:Nat} (h:vK (zS l) (zB l)=true) (hm:zB l≤m):zS (l.take m)=zS l∧zB (l.take m)=zB l:=by
 obtain ⟨h1,h2,_⟩:=Vv h
 have h3:=jy l
 refine dec_ext h1 h2 (by rw [List.length_take];omega) fun k hk=>?_
 rw [List.getD_eq_getElem?_getD,List.getElem?_take,if_pos (by omega),List.getD_eq_getElem?_getD]
def cntR (l:qJ):Nat:=if _h:1≤zB l∧1≤l.length then 1+cntR (l.drop (zB l)) else 0
termination_by l.length
decreasing_by rw [List.length_drop];omega
theorem qeo:cntR []=0:=by rw [cntR,dif_neg (fun c=>by simp at c)]
theorem Zy {l:qJ} (h:l≠[]):cntR l=1+cntR (l.drop (zB l)):=by
 rw [cntR,dif_pos ⟨jC h,List.length_pos_iff.2 h⟩]
theorem dec_at {l:qJ} {p:Nat} (h:p<l.length):Utf8.decode (st l) p=(zS (l.drop p),zB (l.drop p)):=by
 have hne:l.drop p≠[]:=fun e=>by have:=congrArg List.length e;rw [List.length_drop] at this;simp at this;omega
 rw [dcd_N hne,Lib.decode_at,List.length_drop]
 simp only [qdc]
 have hg:∀ k,(l.drop p).getD k 0=l.getD (p+k) 0:=fun k=>by rw [List.getD_eq_getElem?_getD,List.getElem?_drop,List.getD_eq_getElem?_getD]
 simp only [hg]
 rfl
theorem qkj {l:qJ}:∀ (f p:Nat),l.length-p≤f→Lib.runeCountFrom (st l) f p=cntR (l.drop p)
 | 0,p,h=>by rw [List.drop_eq_nil_of_le (by omega),qeo];rfl
 | f+1,p,h=>by
  unfold Lib.runeCountFrom
  by_cases hp:p<l.length
  ·have hne:l.drop p≠[]:=fun e=>by have:=congrArg List.length e;rw [List.length_drop] at this;simp at this;omega
   have:=jC hne
   rw [if_pos (show p<(st l).size from hp),dec_at hp,qkj f _ (by show l.length-(p+zB (l.drop p))≤f;omega),Zy hne,List.drop_drop]
  ·rw [if_neg (show ¬ p<(st l).size from hp),List.drop_eq_nil_of_le (by omega),qeo]
theorem qbi (l:qJ):ZI l=cntR l:=by
 unfold ZI Lib.runeCount
 rw [qkj _ 0 (by show l.length-0≤l.length;omega),List.drop_zero]

/-! ### lyrics -/
theorem lyr_fwd:∀ (m:Nat) (t:qJ),t.length≤m→∀ (n:Nat) (r:qJ),wz t=true→n+cntR t≤100→(0<n∨t≠[])→wq (t++34 :: r) n=(0,t.length)
 | m,[],_,n,r,_,_,h0=>by
  have hd:=qge (b:=34) (r:=r) (by decide)
  rw [List.nil_append]
  refine qal ⟨hd.2,hd.1,?_⟩
  rcases h0 with h0|h0
  ·exact h0
  ·exact absurd rfl h0
 | 0,b :: t,h,_,_,_,_,_=>by simp at h
 | m+1,b :: t,h,n,r,hf,hn,_=>by
  have hne:(b :: t)≠[]:=by simp
  rw [QU hne,Bool.and_eq_true] at hf
  rw [Zy hne] at hn
  obtain ⟨h1,h2,h3⟩:=Vv hf.1
  obtain ⟨d1,d2⟩:=dec_app (r:=34 :: r) hf.1
  have hl:=jy (b :: t)
  have hp:=jC hne
  rw [QZ (by rw [d1];exact fun c=>h3 c.2.1) (by rw [d1,d2];exact hf.1) (by omega),d2]
  rw [List.drop_append_of_le_length hl,lyr_fwd m _ (by rw [List.length_drop];simp only [List.length_cons] at h hl ⊢;omega) (n+1) r hf.2 (by omega) (.inl (by omega))]
  rw [List.length_drop]
  exact Prod.ext rfl (by show zB (b :: t)+_=_;omega)
theorem lyr_bwd:∀ (m:Nat) (l:qJ),l.length≤m→∀ (n:Nat),n≤100→(wq l n).1=0→wz (l.take (wq l n).2)=true∧n+cntR (l.take (wq l n).2)≤100∧(0<n∨l.take (wq l n).2≠[]):=by
 intro m
 induction m with
 | zero =>
  intro l h n hn h0
  have:l=[]:=List.length_eq_zero_iff.1 (by omega)
  subst this
  rw [ZZ (fun c=>by have:=c.1;revert this;decide) (by rw [qej];decide)] at h0
  cases h0
 | succ m ih =>
  intro l h n hn h0
  by_cases h1:zB l=1∧zS l=34∧0<n
  ·rw [qal h1]
   refine ⟨?_,?_,.inl h1.2.2⟩
   ·show wz (l.take 0)=true
    rw [List.take_zero,qcg]
   ·show n+cntR (l.take 0)≤100
    rw [List.take_zero,qeo];omega
  by_cases hf:vK (zS l) (zB l)=true
  ·by_cases hc:n=100
   ·rw [ZY h1 hf hc] at h0;cases h0
   ·rw [QZ h1 hf hc] at h0 ⊢
    obtain ⟨hne,_,_⟩:=Vv hf
    have hl:=jy l
    have hp:=jC hne
    obtain ⟨i1,i2,_⟩:=ih (l.drop (zB l)) (by rw [List.length_drop];omega) (n+1) (by omega) h0
    obtain ⟨d1,d2⟩:=dec_take (m:=zB l+(wq (l.drop (zB l)) (n+1)).2) hf (by omega)
    have hne':l.take (zB l+(wq (l.drop (zB l)) (n+1)).2)≠[]:=fun e=>by
     have:=congrArg List.length e
     rw [List.length_take,List.length_nil] at this
     omega
    have hdt:(l.take (zB l+(wq (l.drop (zB l)) (n+1)).2)).drop (zB l)=(l.drop (zB l)).take (wq (l.drop (zB l)) (n+1)).2:=by
     rw [List.drop_take,Nat.add_sub_cancel_left]
    refine ⟨?_,?_,.inr hne'⟩
    ·show wz (l.take (zB l+(wq (l.drop (zB l)) (n+1)).2))=true
     rw [QU hne',d1,d2,hf,hdt,i1];rfl
    ·show n+cntR (l.take (zB l+(wq (l.drop (zB l)) (n+1)).2))≤100
     rw [Zy hne',d2,hdt];omega
  ·rw [ZZ h1 hf] at h0;cases h0

/-! ### numbers -/
theorem qaz:∀ (l:qJ) (acc n d:Nat) (b:UInt8),Lib.decFrom acc l=some n→Lib.digitVal b=some d→Lib.decFrom acc (l++[b])=some (n*10+d)
 | [],acc,n,d,b,h,hd=>by
  simp only [Lib.decFrom,Option.some.injEq] at h
  subst h
  simp [Lib.decFrom,hd]
 | a :: l,acc,n,d,b,h,hd=>by
  rw [List.cons_append]
  simp only [Lib.decFrom] at h ⊢
  cases ha:Lib.digitVal a with
  | none=>simp [ha] at h
  | some e =>
   simp only [ha] at h ⊢
   exact qaz l _ n d b h hd
theorem dig_of {u:Nat} (h:u<10):Lib.digitVal (UInt8.ofNat (48+u))=some u∧UInt8.ofNat (48+u)∈digs:=by
 have:∀ u:Fin 10,Lib.digitVal (UInt8.ofNat (48+u.1))=some u.1∧UInt8.ofNat (48+u.1)∈digs:=by decide
 exact this ⟨u,h⟩
theorem dd_val (u:Nat):Lib.decFrom 0 (Lib.decDigits u)=some u∧(∀ b∈Lib.decDigits u,b∈digs)∧Lib.decDigits u≠[]∧(1≤u→(Lib.decDigits u).getD 0 0≠48):=by
 induction u using Nat.strongRecOn with
 | ind u ih =>
  by_cases h:u<10
  ·rw [Lib.decDigits,dif_pos h]
   obtain ⟨h1,h2⟩:=dig_of h
   refine ⟨by simp only [Lib.decFrom,h1,Nat.zero_mul,Nat.zero_add],fun b hb=>by rw [List.mem_singleton.1 hb];exact h2,by simp,fun h3=>?_⟩
   have:∀ u:Fin 10,1≤u.1→([UInt8.ofNat (48+u.1)]:qJ).getD 0 0≠48:=by decide
   exact this ⟨u,h⟩ h3
  ·rw [Lib.decDigits,dif_neg h]
   obtain ⟨i1,i2,i3,i4⟩:=ih (u / 10) (by omega)
   obtain ⟨h1,h2⟩:=dig_of (u:=u % 10) (by omega)
   refine ⟨by rw [qaz _ _ _ _ _ i1 h1];congr 1;omega,fun b hb=>?_,by simp,fun _=>?_⟩
   ·rcases List.mem_append.1 hb with hb|hb
    ·exact i2 b hb
    ·rw [List.mem_singleton.1 hb];exact h2
   ·rw [List.getD_eq_getElem?_getD,List.getElem?_append_left (List.length_pos_iff.2 i3),← List.getD_eq_getElem?_getD]
    exact i4 (by omega)
theorem atoi_digs {t:qJ} {n:Nat} (h0:t≠[]) (h:∀ b∈t,b∈digs) (hn:Lib.decFrom 0 t=some n):yE t=(n:Int):=by
 cases t with
 | nil=>exact absurd rfl h0
 | cons b r =>
  obtain ⟨d,_,h2,h3⟩:=qay (h b (by simp))
  have e1:(b == 45)=false:=by
   rw [beq_eq_false_iff_ne];rintro rfl
   have:(45:UInt8).toNat=45:=rfl
   omega
  have e2:(b == 43)=false:=by
   rw [beq_eq_false_iff_ne];rintro rfl
   have:(43:UInt8).toNat=43:=rfl
   omega
  unfold yE
  simp only [Lib.atoi,e1,e2,Lib.decNat,Bool.false_eq_true,if_false,List.isEmpty_cons,hn]
  rfl
theorem qjo {n:Int} (h1:1≤n) (h2:n≤65536):Lib.itoa n≠[]∧(∀ b∈Lib.itoa n,b∈digs)∧(Lib.itoa n).length≤18∧((Lib.itoa n).getD 0 0).toNat≠48∧yE (Lib.itoa n)=n:=by
 obtain ⟨u,rfl⟩:∃ u:Nat,n=(u:Int):=⟨n.toNat,by omega⟩
 rw [Lib.itoa_nonneg]
 obtain ⟨i1,i2,i3,i4⟩:=dd_val u
 refine ⟨i3,i2,?_,fun c=>i4 (by omega) (UInt8.toNat_inj.1 (c.trans rfl)),atoi_digs i3 i2 i1⟩
 have hb:=Lib.nDigits_small (u:=0) (by omega)
 have key:∀ (k u:Nat),u<10 ^ (k+1)→(Lib.decDigits u).length≤k+1:=by
  intro k
  induction k with
  | zero=>intro u hu;rw [Lib.decDigits,dif_pos (by simpa using hu)];simp
  | succ k ih =>
   intro u hu
   rw [Lib.decDigits]
   split
   ·simp
   ·rw [List.length_append,List.length_singleton]
    have:=ih (u / 10) (by rw [Nat.pow_succ] at hu;omega)
    omega
 have:=key 4 u (by omega)
 omega
theorem pu_ge:∀ (l:qJ) (acc:Nat),(∀ b∈l,b∈digs)→Lib.parseUint10 acc l = .range∨∃ u,Lib.parseUint10 acc l = .ok u∧acc*10 ^ l.length≤u
 | [],acc,_=>.inr ⟨acc,rfl,by simp⟩
 | c :: r,acc,h=>by
  obtain ⟨d,h1,h2,h3⟩:=qay (h c (by simp))
  have hc:48≤c.toNat∧c.toNat≤57:=by omega
  unfold Lib.parseUint10
  rw [if_pos hc]
  split
  ·exact .inl rfl
  split
  ·exact .inl rfl
  rcases pu_ge r (acc*10+(c.toNat-48)) (fun b hb=>h b (by simp [hb])) with h4|⟨u,h4,h5⟩
  ·exact .inl h4
  ·refine .inr ⟨u,h4,Nat.le_trans ?_ h5⟩
   rw [List.length_cons,Nat.pow_succ,Nat.mul_comm (10 ^ r.length) 10,← Nat.mul_assoc]
   exact Nat.mul_le_mul_right _ (by omega)
def okV (w:qJ):Int:=match Lib.atoiAll w with | .ok v=>v|_=>0
theorem qfn {w:qJ} (hd:∀ b∈w,b∈digs) (hl:18<w.length) (h0:¬ (w.getD 0 0).toNat=48):Lib.atoiAll w = .range∨(Lib.atoiAll w = .ok (okV w)∧65536<okV w∧okV w≤9223372036854775807):=by
 cases w with
 | nil=>simp at hl
 | cons c r =>
  obtain ⟨d,h1,h2,h3⟩:=qay (hd c (by simp))
  have h0':¬ c.toNat=48:=by simpa using h0
  have hs:¬ (c.toNat=43∨c.toNat=45):=by omega
  have hm:Lib.parseMag (c :: r)=Lib.parseUint10 0 (c :: r):=if_neg (by simp)
  have e:Lib.atoiAll (c :: r)=match Lib.parseMag (c :: r) with
   | Lib.NumEnd.syntax=>Lib.NumEnd.syntax
   | .range=>.range
   | .ok u=>if ¬ c.toNat=45∧9223372036854775808≤u then .range else if c.toNat=45∧9223372036854775808<u then .range else .ok (if c.toNat=45 then -(u:Int) else u):=by
   unfold Lib.atoiAll
   dsimp only
   rw [if_neg hs]
   cases Lib.parseMag (c :: r) <;> rfl
  have hp:Lib.parseUint10 0 (c :: r)=Lib.parseUint10 (c.toNat-48) r:=by
   unfold Lib.parseUint10
   rw [if_pos (by omega),if_neg (by omega),if_neg (by omega),Nat.zero_mul,Nat.zero_add]
   cases r <;> rfl
  rcases pu_ge r (c.toNat-48) (fun b hb=>hd b (by simp [hb])) with h4|⟨u,h4,h5⟩
  ·left
   rw [e,hm,hp,h4]
  ·rw [hm,hp,h4] at e
   by_cases hb:9223372036854775808≤u
   ·left
    rw [e]
    exact if_pos ⟨by omega,hb⟩
   ·right
    have e2:Lib.atoiAll (c :: r) = .ok (u:Int):=by
     rw [e]
     show (if _ then _ else _)=_
     rw [if_neg (fun q=>hb q.2),if_neg (by omega),if_neg (by omega)]
    have h6:10 ^ 18≤10 ^ r.length:=Nat.pow_le_pow_right (by decide) (by simp at hl;omega)
    have h7:10 ^ r.length≤u:=Nat.le_trans (by have:=Nat.mul_le_mul_right (10 ^ r.length) (show 1≤c.toNat-48 by omega);omega) h5
    have e3:okV (c :: r)=(u:Int):=by unfold okV;rw [e2]
    rw [e3]
    exact ⟨e2,by omega,by omega⟩
theorem qfa {w:qJ} (h:Lib.trimS w digs=[]):∀ b∈w,b∈digs:=trim_nil.1 h
theorem qdg {w:qJ} (hd:∀ b∈w,b∈digs) (h0:w≠[]) (hl:¬ 18<w.length):Lib.atoi w=some (yE w)∧0≤yE w∧yE w≤1000000000000000000:=by
 obtain ⟨n,h1,h2⟩:=qkg h0 hd
 have h3:(10:Nat) ^ w.length≤10 ^ 18:=Nat.pow_le_pow_right (by decide) (by omega)
 unfold yE
 rw [h1]
 exact ⟨rfl,by show (0:Int)≤n;omega,by show (n:Int)≤1000000000000000000;omega⟩

def brL (s:qJ) (l:List It) (a:Nat) (k:Nat):Int × List It × Nat × Nat :=
 if (qZ s 1 a k).1=0 then
  if qB s (qZ s 1 a k).2.2.1=s.length∨qv s (qZ s 1 a k).2.2.1 124=true∨qC s (qZ s 1 a k).2.2.1=vow then (0,l++[(qZ s 1 a k).2.1],qB s (qZ s 1 a k).2.2.1,(qZ s 1 a k).2.2.2)
  else if _h:(qZ s 1 a k).2.2.2<k then brL s (l++[(qZ s 1 a k).2.1]) (qB s (qZ s 1 a k).2.2.1) (qZ s 1 a k).2.2.2
  else (4,[],0,0)
 else ((qZ s 1 a k).1,[],(qZ s 1 a k).2.2.1,0)
termination_by k
def wH (s:qJ) (a:Nat):Int × Br × Nat × Nat :=
 if (qN s a).1=0 then
  if qv s (qN s a).2.2 47=true then
   if (qN s (qB s (qN s a).2.2+1)).1=0 then
    if (brL s [] (qN s (qB s (qN s a).2.2+1)).2.2 4095).1=0 then
     (0,((qN s a).2.1,(qN s (qB s (qN s a).2.2+1)).2.1,(brL s [] (qN s (qB s (qN s a).2.2+1)).2.2 4095).2.1),(brL s [] (qN s (qB s (qN s a).2.2+1)).2.2 4095).2.2)
    else ((brL s [] (qN s (qB s (qN s a).2.2+1)).2.2 4095).1,zQ,(brL s [] (qN s (qB s (qN s a).2.2+1)).2.2 4095).2.2)
   else ((qN s (qB s (qN s a).2.2+1)).1,zQ,(qN s (qB s (qN s a).2.2+1)).2.2,0)
  else (2,zQ,qB s (qN s a).2.2,0)
 else ((qN s a).1,zQ,(qN s a).2.2,0)
def YS (s:qJ):Nat→List Br→Nat→Int→Int × List Br × Nat × Int
 | 0,l,a,z=>if qv s a 124=true then (5,[],qB s a,0) else (0,l,qB s a,z)
 | m+1,l,a,z=>if qv s a 124=true then
   if (wH s (qB s a+1)).1=0 then YS s m (l++[(wH s (qB s a+1)).2.1]) (wH s (qB s a+1)).2.2.1 (((wH s (qB s a+1)).2.2.2:Nat):Int)
   else ((wH s (qB s a+1)).1,[],(wH s (qB s a+1)).2.2.1,0)
  else (0,l,qB s a,z)
def wW (s:qJ) (a:Nat) (z:Int):Int × Vo × Nat × Int :=
 if qC s a=vow then
  if jM (qC s (qB s a+5))=true then
   if (YS s 1024 [] (qB s (qB s a+5)+(qC s (qB s a+5)).length) z).1=0 then
    (0,(qC s (qB s a+5),(YS s 1024 [] (qB s (qB s a+5)+(qC s (qB s a+5)).length) z).2.1),(YS s 1024 [] (qB s (qB s a+5)+(qC s (qB s a+5)).length) z).2.2)
   else ((YS s 1024 [] (qB s (qB s a+5)+(qC s (qB s a+5)).length) z).1,qO,(YS s 1024 [] (qB s (qB s a+5)+(qC s (qB s a+5)).length) z).2.2)
  else (2,qO,qB s (qB s a+5),0)
 else (2,qO,qB s a,0)
def Yz (s:qJ):Nat→List Vo→Nat→Int→Int × List Vo × Nat
 | 0,l,a,_=>if qB s a=s.length then (0,l,0) else (5,[],qB s a)
 | m+1,l,a,z=>if qB s a=s.length then (0,l,0) else
   if (wW s (qB s a) z).1=0 then Yz s m (l++[(wW s (qB s a) z).2.1]) (wW s (qB s a) z).2.2.1 (wW s (qB s a) z).2.2.2
   else ((wW s (qB s a) z).1,[],(wW s (qB s a) z).2.2.1)
def zK (s:qJ):Int × List Vo × Nat:=if 65536<s.length then (4,[],0) else Yz s 64 [] 0 0

/-! ### where things end -/
theorem vow_len:vow.length=5:=rfl
theorem yZ {s:qJ} {lv:Int} {a k:Nat}:qZ s lv a k =
 if k=0∨31<lv then (4,qV,qB s a,0)
 else if qC s a=[45] then yB s (.mk 2 1 [] (0,0) [] []) (qB s a+1) (k-1)
 else if qv s a 126=true then yB s (.mk 3 1 [] (0,0) [] []) (qB s a+1) (k-1)
 else if qC s a=[117,112] then
  if (zX (qC s (qB s a+2))).2=0 then
   if (yP s lv (qB s (qB s a+2)+(qC s (qB s a+2)).length) (k-1)).1=0 then
    yB s (.mk 5 1 [] (zX (qC s (qB s a+2))).1 [] (yP s lv (qB s (qB s a+2)+(qC s (qB s a+2)).length) (k-1)).2.1) (yP s lv (qB s (qB s a+2)+(qC s (qB s a+2)).length) (k-1)).2.2.1 (yP s lv (qB s (qB s a+2)+(qC s (qB s a+2)).length) (k-1)).2.2.2
   else ((yP s lv (qB s (qB s a+2)+(qC s (qB s a+2)).length) (k-1)).1,qV,(yP s lv (qB s (qB s a+2)+(qC s (qB s a+2)).length) (k-1)).2.2.1,0)
  else ((zX (qC s (qB s a+2))).2,qV,qB s (qB s a+2),0)
 else if qv s a 91=true then
  if (yP s lv (qB s a) (k-1)).1=0 then yB s (.mk 4 1 [] (0,0) [] (yP s lv (qB s a) (k-1)).2.1) (yP s lv (qB s a) (k-1)).2.2.1 (yP s lv (qB s a) (k-1)).2.2.2
  else ((yP s lv (qB s a) (k-1)).1,qV,(yP s lv (qB s a) (k-1)).2.2.1,0)
 else if qv s a 60=true then
  if (Vx s 16 [] (qB s a+1)).1=0 then yB s (.mk 1 1 (Vx s 16 [] (qB s a+1)).2.1 (0,0) [] []) (Vx s 16 [] (qB s a+1)).2.2 (k-1)
  else ((Vx s 16 [] (qB s a+1)).1,qV,(Vx s 16 [] (qB s a+1)).2.2,0)
 else if (qS s (qB s a)).1=0 then yB s (.mk 1 1 [(qS s (qB s a)).2.1] (0,0) [] []) (qS s (qB s a)).2.2 (k-1)
 else ((qS s (qB s a)).1,qV,(qS s (qB s a)).2.2,0):=by
 rw [qZ]
 by_cases h:k=0∨31<lv
 ·rw [dif_pos h,if_pos h]
 ·rw [dif_neg h,if_neg h]
theorem VH {s:qJ} {lv:Int} {a k:Nat}:yP s lv a k=if qv s a 91=true then grL s lv [] (qB s a+1) k else (2,[],qB s a,0):=by rw [yP]
theorem qbs {s:qJ} {lv:Int} {l:List It} {a k:Nat}:grL s lv l a k =
 if (qZ s (lv+1) a k).1=0 then
  if qv s (qZ s (lv+1) a k).2.2.1 93=true then (0,l++[(qZ s (lv+1) a k).2.1],qB s (qZ s (lv+1) a k).2.2.1+1,(qZ s (lv+1) a k).2.2.2)
  else if (qZ s (lv+1) a k).2.2.2<k then grL s lv (l++[(qZ s (lv+1) a k).2.1]) (qB s (qZ s (lv+1) a k).2.2.1) (qZ s (lv+1) a k).2.2.2
  else (4,[],0,0)
 else ((qZ s (lv+1) a k).1,[],(qZ s (lv+1) a k).2.2.1,0):=by
 rw [grL]
 simp only [dite_eq_ite]
abbrev Zw (s:qJ) (a a':Nat):Prop:=a≤a'∧a'≤s.length
theorem QV {s:qJ} {x:It} {a a0 k:Nat} (h:Zw s a0 a):Zw s a0 (yB s x a k).2.2.1∧(yB s x a k).2.2.2=k:=by
 have:=Ww (x:=x) (k:=k) h.2
 exact ⟨⟨Nat.le_trans h.1 this.1,this.2.1⟩,this.2.2⟩
theorem qfy (s:qJ):∀ (m:Nat) (k:Nat),k<m →
  (∀ (lv:Int) (a:Nat),a≤s.length→(qZ s lv a k).1=0→Zw s a (qZ s lv a k).2.2.1∧(qZ s lv a k).2.2.2<k) ∧
  (∀ (lv:Int) (l:List It) (a:Nat),a≤s.length→(grL s lv l a k).1=0→Zw s a (grL s lv l a k).2.2.1∧(grL s lv l a k).2.2.2<k):=by
 intro m
 induction m with
 | zero=>intro k h;omega
 | succ m ih =>
  intro k hk
  have hgr:0<k→∀ (lv:Int) (a:Nat),a≤s.length→(yP s lv a (k-1)).1=0→Zw s a (yP s lv a (k-1)).2.2.1∧(yP s lv a (k-1)).2.2.2<k-1:=by
   intro h1 lv a ha h0
   rw [VH] at h0 ⊢
   split at h0
   ·rename_i c
    rw [if_pos c]
    have:=yA c
    have hga:=vR s a
    have h2:=(ih (k-1) (by omega)).2 lv [] (qB s a+1) (by omega) h0
    exact ⟨⟨by have:=h2.1.1;omega,h2.1.2⟩,h2.2⟩
   ·cases h0
  have hit:∀ (lv:Int) (a:Nat),a≤s.length→(qZ s lv a k).1=0→Zw s a (qZ s lv a k).2.2.1∧(qZ s lv a k).2.2.2<k:=by
   intro lv a ha h0
   have hga:=vR s a
   have hgl:=yR ha
   have hwl:=vO ha
   have hgg:=ZO s a
   rw [yZ] at h0 ⊢
   split at h0
   ·cases h0
   rename_i c0
   rw [if_neg c0]
   have hk0:0<k:=by omega
   split at h0
   ·rename_i c1
    rw [if_pos c1]
    rw [c1,List.length_singleton] at hwl
    have:=QV (s:=s) (x:=.mk 2 1 [] (0,0) [] []) (a:=qB s a+1) (a0:=a) (k:=k-1) ⟨by omega,by omega⟩
    exact ⟨this.1,by rw [this.2];omega⟩
   rename_i c1
   rw [if_neg c1]
   split at h0
   ·rename_i c2
    rw [if_pos c2]
    have:=yA c2
    have:=QV (s:=s) (x:=.mk 3 1 [] (0,0) [] []) (a:=qB s a+1) (a0:=a) (k:=k-1) ⟨by omega,by omega⟩
    exact ⟨this.1,by rw [this.2];omega⟩
   rename_i c2
   rw [if_neg c2]
   split at h0
   ·rename_i c3
    rw [if_pos c3]
    rw [c3,List.length_cons,List.length_singleton] at hwl
    have hga2:=vR s (qB s a+2)
    have hwl2:=vO (s:=s) (a:=qB s a+2) (by omega)
    split at h0
    ·rename_i c4
     rw [if_pos c4]
     split at h0
     ·rename_i c5
      rw [if_pos c5]
      have h2:=hgr hk0 lv _ hwl2 c5
      have:=QV (s:=s) (x:=.mk 5 1 [] (zX (qC s (qB s a+2))).1 [] (yP s lv (qB s (qB s a+2)+(qC s (qB s a+2)).length) (k-1)).2.1) (a:=(yP s lv (qB s (qB s a+2)+(qC s (qB s a+2)).length) (k-1)).2.2.1) (a0:=a) (k:=(yP s lv (qB s (qB s a+2)+(qC s (qB s a+2)).length) (k-1)).2.2.2) ⟨by have:=h2.1.1;omega,h2.1.2⟩
      exact ⟨this.1,by rw [this.2];have:=h2.2;omega⟩
     ·rename_i c5
      exact absurd h0 c5
    ·rename_i c4
     exact absurd h0 c4
   rename_i c3
   rw [if_neg c3]
   split at h0
   ·rename_i c4
    rw [if_pos c4]
    split at h0
    ·rename_i c5
     rw [if_pos c5]
     have h2:=hgr hk0 lv _ hgl c5
     have:=QV (s:=s) (x:=.mk 4 1 [] (0,0) [] (yP s lv (qB s a) (k-1)).2.1) (a:=(yP s lv (qB s a) (k-1)).2.2.1) (a0:=a) (k:=(yP s lv (qB s a) (k-1)).2.2.2) ⟨by have:=h2.1.1;omega,h2.1.2⟩
     exact ⟨this.1,by rw [this.2];have:=h2.2;omega⟩
    ·rename_i c5
     exact absurd h0 c5
   rename_i c4
   rw [if_neg c4]
   split at h0
   ·rename_i c5
    rw [if_pos c5]
    have hlt:=yA c5
    split at h0
    ·rename_i c6
     rw [if_pos c6]
     have h2:=chL_le 16 [] (qB s a+1) (by omega) c6
     have:=QV (s:=s) (x:=.mk 1 1 (Vx s 16 [] (qB s a+1)).2.1 (0,0) [] []) (a:=(Vx s 16 [] (qB s a+1)).2.2) (a0:=a) (k:=k-1) ⟨by have:=h2.1;omega,h2.2.1⟩
     exact ⟨this.1,by rw [this.2];omega⟩
    ·rename_i c6
     exact absurd h0 c6
   rename_i c5
   rw [if_neg c5]
   split at h0
   ·rename_i c6
    rw [if_pos c6]
    have h2:=qdo hgl c6
    have:=QV (s:=s) (x:=.mk 1 1 [(qS s (qB s a)).2.1] (0,0) [] []) (a:=(qS s (qB s a)).2.2) (a0:=a) (k:=k-1) ⟨by omega,h2.2⟩
    exact ⟨this.1,by rw [this.2];omega⟩
   ·rename_i c6
    exact absurd h0 c6
  refine ⟨hit,fun lv l a ha h0=>?_⟩
  rw [qbs] at h0 ⊢
  split at h0
  ·rename_i c
   rw [if_pos c]
   have h1:=hit (lv+1) a ha c
   have hgp:=vR s (qZ s (lv+1) a k).2.2.1
   split at h0
   ·rename_i c2
    rw [if_pos c2]
    have:=yA c2
    exact ⟨⟨by have:=h1.1.1;show a≤qB s _+1;omega,by show qB s _+1≤_;omega⟩,h1.2⟩
   ·rename_i c2
    rw [if_neg c2]
    rw [if_pos h1.2] at h0 ⊢
    have h3:=(ih _ (show (qZ s (lv+1) a k).2.2.2<m by have:=h1.2;omega)).2 lv (l++[(qZ s (lv+1) a k).2.1]) (qB s (qZ s (lv+1) a k).2.2.1) (yR h1.1.2) h0
    exact ⟨⟨by have:=h1.1.1;have:=h3.1.1;omega,h3.1.2⟩,by have:=h1.2;have:=h3.2;omega⟩
  ·rename_i c
   exact absurd h0 c
theorem Vz {s:qJ} {lv:Int} {a k:Nat} (ha:a≤s.length) (h0:(qZ s lv a k).1=0):Zw s a (qZ s lv a k).2.2.1∧(qZ s lv a k).2.2.2<k:=(qfy s (k+1) k (by omega)).1 lv a ha h0
theorem grL_end {s:qJ} {lv:Int} {l:List It} {a k:Nat} (ha:a≤s.length) (h0:(grL s lv l a k).1=0):Zw s a (grL s lv l a k).2.2.1∧(grL s lv l a k).2.2.2<k:=(qfy s (k+1) k (by omega)).2 lv l a ha h0
theorem qjx {s:qJ} {lv:Int} {l:List It} {a k:Nat} (ha:a≤s.length) (h1:(qZ s (lv+1) a k).1=0) (h2:¬ qv s (qZ s (lv+1) a k).2.2.1 93=true):grL s lv l a k=grL s lv (l++[(qZ s (lv+1) a k).2.1]) (qB s (qZ s (lv+1) a k).2.2.1) (qZ s (lv+1) a k).2.2.2:=by
 rw [qbs,if_pos h1,if_neg h2,if_pos (Vz ha h1).2]
theorem ZE {s:qJ} {l:List It} {a k:Nat}:brL s l a k=if (qZ s 1 a k).1=0 then
  if qB s (qZ s 1 a k).2.2.1=s.length∨qv s (qZ s 1 a k).2.2.1 124=true∨qC s (qZ s 1 a k).2.2.1=vow then (0,l++[(qZ s 1 a k).2.1],qB s (qZ s 1 a k).2.2.1,(qZ s 1 a k).2.2.2)
  else if (qZ s 1 a k).2.2.2<k then brL s (l++[(qZ s 1 a k).2.1]) (qB s (qZ s 1 a k).2.2.1) (qZ s 1 a k).2.2.2
  else (4,[],0,0)
 else ((qZ s 1 a k).1,[],(qZ s 1 a k).2.2.1,0):=by
 rw [brL]
 simp only [dite_eq_ite]
theorem brL_end {s:qJ}:∀ (m k:Nat),k<m→∀ (l:List It) (a:Nat),a≤s.length→(brL s l a k).1=0→Zw s a (brL s l a k).2.2.1
 | 0,k,h,_,_,_,_=>absurd h (Nat.not_lt_zero k)
 | m+1,k,hk,l,a,ha,h0=>by
  rw [ZE] at h0 ⊢
  split at h0
  ·rename_i c
   rw [if_pos c]
   have h1:=Vz ha c
   have hgp:=vR s (qZ s 1 a k).2.2.1
   split at h0
   ·rename_i c2
    rw [if_pos c2]
    exact ⟨by have:=h1.1.1;show a≤qB s _;omega,yR h1.1.2⟩
   ·rename_i c2
    rw [if_neg c2]
    rw [if_pos h1.2] at h0 ⊢
    have h3:=brL_end m _ (show (qZ s 1 a k).2.2.2<m by have:=h1.2;omega) (l++[(qZ s 1 a k).2.1]) (qB s (qZ s 1 a k).2.2.1) (yR h1.1.2) h0
    exact ⟨by have:=h1.1.1;have:=h3.1;omega,h3.2⟩
  ·rename_i c
   exact absurd h0 c
theorem qhx {s:qJ} {a:Nat} (ha:a≤s.length) (h0:(wH s a).1=0):Zw s a (wH s a).2.2.1:=by
 unfold wH at h0 ⊢
 have hga:=vR s a
 have hn:=jW ha
 split at h0
 ·rename_i c
  rw [if_pos c]
  split at h0
  ·rename_i c2
   rw [if_pos c2]
   have hlt:=yA c2
   have hgp:=vR s (qN s a).2.2
   have hn2:=jW (s:=s) (a:=qB s (qN s a).2.2+1) (by omega)
   have hgq:=vR s (qB s (qN s a).2.2+1)
   split at h0
   ·rename_i c3
    rw [if_pos c3]
    split at h0
    ·rename_i c4
     rw [if_pos c4]
     have:=brL_end 4096 4095 (by omega) [] _ hn2.2 c4
     exact ⟨by have:=this.1;show a≤(brL s [] _ 4095).2.2.1;omega,this.2⟩
    ·rename_i c4
     exact absurd h0 c4
   ·rename_i c3
    exact absurd h0 c3
  ·cases h0
 ·rename_i c
  exact absurd h0 c
theorem vcL_end {s:qJ}:∀ (m:Nat) (l:List Br) (a:Nat) (z:Int),a≤s.length→(YS s m l a z).1=0→Zw s a (YS s m l a z).2.2.1
 | 0,l,a,z,ha,h0=>by
  rw [YS] at h0 ⊢
  split at h0
  ·cases h0
  ·rename_i c
   rw [if_neg c]
   exact ⟨vR s a,yR ha⟩
 | m+1,l,a,z,ha,h0=>by
  rw [YS] at h0 ⊢
  have hga:=vR s a
  split at h0
  ·rename_i c
   rw [if_pos c]
   have hlt:=yA c
   split at h0
   ·rename_i c2
    rw [if_pos c2]
    have h1:=qhx (s:=s) (a:=qB s a+1) (by omega) c2
    have h2:=vcL_end m _ _ _ h1.2 h0
    exact ⟨by have:=h1.1;have:=h2.1;omega,h2.2⟩
   ·rename_i c2
    exact absurd h0 c2
  ·rename_i c
   rw [if_neg c]
   exact ⟨hga,yR ha⟩
theorem vcR_end {s:qJ} {a:Nat} {z:Int} (ha:a≤s.length) (h0:(wW s a z).1=0):Zw s a (wW s a z).2.2.1:=by
 unfold wW at h0 ⊢
 have hga:=vR s a
 have hwl:=vO ha
 split at h0
 ·rename_i c
  rw [if_pos c]
  rw [c,vow_len] at hwl
  have hga2:=vR s (qB s a+5)
  have hwl2:=vO (s:=s) (a:=qB s a+5) (by omega)
  split at h0
  ·rename_i c2
   rw [if_pos c2]
   split at h0
   ·rename_i c3
    rw [if_pos c3]
    have h2:=vcL_end 1024 [] _ _ hwl2 c3
    exact ⟨by have:=h2.1;show a≤(YS s 1024 [] _ z).2.2.1;omega,h2.2⟩
   ·rename_i c3
    exact absurd h0 c3
  ·cases h0
 ·cases h0
theorem qgo {s:qJ} {m:Nat} {l:List Br} {a:Nat} {z:Int} (hl:l.length+m=1024):YS s m l a z=if qv s a 124=true then
   if l.length=1024 then (5,[],qB s a,0) else
   if (wH s (qB s a+1)).1=0 then YS s (1024-(l.length+1)) (l++[(wH s (qB s a+1)).2.1]) (wH s (qB s a+1)).2.2.1 (((wH s (qB s a+1)).2.2.2:Nat):Int)
   else ((wH s (qB s a+1)).1,[],(wH s (qB s a+1)).2.2.1,0)
  else (0,l,qB s a,z):=by
 cases m with
 | zero=>rw [YS,if_pos (show l.length=1024 by omega)]
 | succ m=>rw [YS,if_neg (show ¬ l.length=1024 by omega),show 1024-(l.length+1)=m by omega]
theorem qgx {s:qJ} {m:Nat} {l:List Vo} {a:Nat} {z:Int} (hl:l.length+m=64):Yz s m l a z=if qB s a=s.length then (0,l,0) else
   if l.length=64 then (5,[],qB s a) else
   if (wW s (qB s a) z).1=0 then Yz s (64-(l.length+1)) (l++[(wW s (qB s a) z).2.1]) (wW s (qB s a) z).2.2.1 (wW s (qB s a) z).2.2.2
   else ((wW s (qB s a) z).1,[],(wW s (qB s a) z).2.2.1):=by
 cases m with
 | zero=>rw [Yz,if_pos (show l.length=64 by omega)]
 | succ m=>rw [Yz,if_neg (show ¬ l.length=64 by omega),show 64-(l.length+1)=m by omega]
/-! ### the text of a piece -/
def qK (n:Int):qJ:=if n=1 then [] else 42 :: Lib.itoa n
def wy (t:qJ):qJ:=if t=[] then [] else 32 :: 34 :: (t++[34])
def wB (p:Pt):qJ:=(wJ p.1 p.2.1 p.2.2).1
def ptsR:List Pt→qJ
 | []=>[]
 | p :: l=>32 :: (wB p++ptsR l)
def zA:List Pt→qJ
 | []=>[]
 | p :: l=>wB p++ptsR l
theorem jT (p:Pt) (l:List Pt):zA (p :: l)=wB p++ptsR l:=rfl
theorem qdk (p:Pt):zA [p]=wB p:=List.append_nil _
theorem ptsT_two (p q:Pt) (l:List Pt):zA (p :: q :: l)=wB p++32 :: zA (q :: l):=rfl
def ZW (ps:List Pt):qJ:=if 1<ps.length then 60 :: (zA ps++[62]) else zA ps
def upT (k:Int) (b:Int × Int):qJ:=if k=5 then [117,112,32]++((qE b.1 b.2).1++[32]) else []
mutual
def zO:It→qJ
 | .mk k s ps b ly ks=>(if k=2 then [45] else if k=3 then [126] else if k=1 then ZW ps else upT k b++(91 :: (qz ks++[93])))++(qK s++wy ly)
def qz:List It→qJ
 | []=>[]
 | x :: l=>zO x++Zz l
def Zz:List It→qJ
 | []=>[]
 | x :: l=>32 :: (zO x++Zz l)
end
def brT (b:Br):qJ:=[124,32]++(Lib.itoa b.1++(47 :: (Lib.itoa b.2.1++(32 :: (qz b.2.2++[10])))))
def yD (l:List Br):qJ:=l.flatMap brT
def voT (v:Vo):qJ:=vow++(32 :: (v.1++(10 :: yD v.2)))
def yU (l:List Vo):qJ:=l.flatMap voT
theorem itT_eq (x:It):zO x=(if iK x=2 then [45] else if iK x=3 then [126] else if iK x=1 then ZW (iP x) else upT (iK x) (iB x)++(91 :: (qz (iC x)++[93])))++(qK (iS x)++wy (iL x)):=by
 cases x with|mk k s ps b ly ks=>rw [zO];rfl

/-! ### gaps -/
def nx (t:qJ):qJ:=t.drop (QN t)
theorem QM {b:UInt8} {t:qJ} (h:b=32∨b=10):nx (b :: t)=nx t:=by
 have hb:b.toNat=32∨b.toNat=10:=by rcases h with rfl|rfl;exact .inl rfl;exact .inr rfl
 unfold nx
 rw [QN,if_pos hb,List.drop_succ_cons]
theorem QO {b:UInt8} {t:qJ} (h:b≠32∧b≠10):nx (b :: t)=b :: t:=by
 have hb:¬ (b.toNat=32∨b.toNat=10):=by
  rintro (c|c)
  ·exact h.1 (UInt8.toNat_inj.1 (c.trans rfl))
  ·exact h.2 (UInt8.toNat_inj.1 (c.trans rfl))
 unfold nx
 rw [QN,if_neg hb,List.drop_zero]
theorem nx_nx (t:qJ):nx (nx t)=nx t:=by
 unfold nx
 rw [qbe,List.drop_zero]
theorem qjy (s:qJ) (a:Nat):s.drop (qB s a)=nx (s.drop a):=by unfold qB nx;rw [List.drop_drop]
structure G (s:qJ) (a:Nat) (t:qJ):Prop where
 eq:s.drop (qB s a)=t
 le:qB s a≤s.length
theorem G.of {s t:qJ} {a:Nat} (h:s.drop a=t) (ha:a≤s.length):G s a (nx t):=⟨by rw [qjy,h],yR ha⟩
theorem G.nx {s t:qJ} {a:Nat} (h:G s a t):Pm.nx t=t:=by rw [← h.eq,qjy,nx_nx]
theorem G.gap {s t:qJ} {a:Nat} (h:G s a t):G s (qB s a) t:=⟨by rw [ZO];exact h.eq,by rw [ZO];exact h.le⟩
theorem G.adv {s p r:qJ} {a:Nat} (h:G s a (p++r)):s.drop (qB s a+p.length)=r∧qB s a+p.length≤s.length:=by
 have e:=h.eq
 have hl:=congrArg List.length e
 rw [List.length_drop,List.length_append] at hl
 have:=h.le
 refine ⟨?_,by omega⟩
 rw [← List.drop_drop,e,List.drop_left]
theorem G.on {s p r:qJ} {a:Nat} (h:G s a (p++r)):G s (qB s a+p.length) (Pm.nx r):=.of h.adv.1 h.adv.2
theorem G.one {s r:qJ} {b:UInt8} {a:Nat} (h:G s a (b :: r)):G s (qB s a+1) (Pm.nx r):=G.on (p:=[b]) h
theorem G.lt {s r:qJ} {b:UInt8} {a:Nat} (h:G s a (b :: r)):qB s a<s.length:=by
 have:=(G.adv (p:=[b]) (r:=r) h).2
 simp only [List.length_singleton] at this
 omega
theorem G.end {s:qJ} {a:Nat} (h:G s a []):qB s a=s.length:=by
 have:=congrArg List.length h.eq
 rw [List.length_drop,List.length_nil] at this
 have:=h.le
 omega
theorem G.a_le {s t:qJ} {a:Nat} (h:G s a t):a≤s.length:=Nat.le_trans (vR s a) h.le
theorem G.at {s r:qJ} {b:UInt8} {a:Nat} (h:G s a (b :: r)):s.getD (qB s a) 0=b:=by
 have e:=h.eq
 rw [qbu h.lt] at e
 exact (List.cons.inj e).1
theorem G.yes {s r:qJ} {b:UInt8} {a:Nat} {c:Int} (h:G s a (b :: r)) (hc:(b.toNat:Int)=c):qv s a c=true:=by
 unfold qv
 rw [h.at]
 exact decide_eq_true ⟨h.lt,hc⟩
theorem G.no {s r:qJ} {b:UInt8} {a:Nat} {c:Int} (h:G s a (b :: r)) (hc:¬ (b.toNat:Int)=c):¬ qv s a c=true:=by
 unfold qv
 rw [h.at]
 exact fun q=>hc (of_decide_eq_true q).2
theorem G.no0 {s:qJ} {a:Nat} {c:Int} (h:G s a []):¬ qv s a c=true:=by
 unfold qv
 rw [h.end]
 exact fun q=>absurd (of_decide_eq_true q).1 (Nat.lt_irrefl _)
theorem G.word {s t:qJ} {a:Nat} (h:G s a t):qC s a=t.takeWhile fun b=>!sgn.contains b:=by
 unfold qC
 rw [h.eq]

/-! ### words -/
def SgS:qJ→Prop
 | []=>True
 | b :: _=>b∈sgn
theorem tw_app {w r:qJ} (hw:∀ b∈w,b ∉ sgn) (hr:SgS r):(w++r).takeWhile (fun b=>!sgn.contains b)=w:=by
 induction w with
 | nil =>
  cases r with
  | nil=>rfl
  | cons c r =>
   rw [List.nil_append,List.takeWhile_cons]
   have hr':c∈sgn:=hr
   have:sgn.contains c=true:=by simpa using hr'
   simp only [this,Bool.not_true,Bool.false_eq_true,if_false]
 | cons b w ih =>
  rw [List.cons_append,List.takeWhile_cons]
  have:sgn.contains b=false:=by simpa using hw b (by simp)
  simp only [this,Bool.not_false,if_true]
  rw [ih fun c hc=>hw c (by simp [hc])]
theorem G.wd {s w r:qJ} {a:Nat} (h:G s a (w++r)) (hw:∀ b∈w,b ∉ sgn) (hr:SgS r):qC s a=w:=by rw [h.word,tw_app hw hr]
theorem G.wd0 {s r:qJ} {b:UInt8} {a:Nat} (h:G s a (b :: r)) (hb:b∈sgn):qC s a=[]:=G.wd (w:=[]) h (fun _ h=>by cases h) hb
theorem G.wd_ne {s r w:qJ} {b c:UInt8} {a:Nat} (h:G s a (b :: r)) (hb:b≠c):qC s a≠c :: w:=by
 rw [h.word,List.takeWhile_cons]
 split
 ·exact fun e=>hb (List.cons.inj e).1
 ·exact fun e=>by cases e
theorem SgS.app {t r:qJ} (ht:SgS t) (hr:SgS r):SgS (t++r):=by
 cases t with
 | nil=>exact hr
 | cons b t=>exact ht
theorem qgs (n:Int):SgS (qK n):=by
 unfold qK
 split
 ·trivial
 ·show (42:UInt8)∈sgn;decide
theorem sg_ly (t:qJ):SgS (wy t):=by
 unfold wy
 split
 ·trivial
 ·show (32:UInt8)∈sgn;decide
theorem qax:∀ b∈digs,b ∉ sgn∧b≠32∧b≠10:=by decide

/-! ### numbers -/
theorem num_rt {s r:qJ} {a:Nat} {n:Int} (h1:1≤n) (h2:n≤65536) (h:G s a (Lib.itoa n++r)) (hr:SgS r):qN s a=(0,n,qB s a+(Lib.itoa n).length):=by
 obtain ⟨i1,i2,i3,i4,i5⟩:=qjo h1 h2
 have hw:=h.wd (fun b hb=>(qax b (i2 b hb)).1) hr
 unfold qN
 rw [hw,if_neg i1,if_pos (trim_none i2),if_neg (fun c=>i4 c.2),if_neg (by omega),if_neg (by rw [i5];omega),i5]
theorem qhf {n:Int} (h1:1≤n) (h2:n≤65536) (r:qJ):nx (Lib.itoa n++r)=Lib.itoa n++r:=by
 obtain ⟨i1,i2,_⟩:=qjo h1 h2
 cases hi:Lib.itoa n with
 | nil=>exact absurd hi i1
 | cons b t =>
  have:=qax b (i2 b (by rw [hi];simp))
  exact QO this.2

/-! ### pitches -/
theorem qap:∀ b∈letB,b ∉ sgn∧b≠32∧b≠10∧b≠42∧b≠34∧b≠124∧b≠93∧b≠118∧b≠45∧b≠117∧b≠126∧b≠91∧b≠60∧b≠62:=by decide
theorem sign_sgn (a:Int) (h1 : -3≤a) (h2:a≤3):∀ b∈vJ a,b ∉ sgn:=by
 have:∀ k:Fin 7,∀ b∈vJ ((k.1:Int)-3),b ∉ sgn:=by decide
 have:=this ⟨(a+3).toNat,by omega⟩
 rwa [show (((a+3).toNat:Nat):Int)-3=a by omega] at this
theorem qjm (n:Int):∀ b∈Lib.itoa n,b ∉ sgn:=by
 intro b hb
 unfold Lib.itoa at hb
 split at hb
 ·rcases List.mem_cons.1 hb with rfl|hb
  ·decide
  ·exact (qax b ((dd_val _).2.1 b hb)).1
 ·exact (qax b ((dd_val _).2.1 b hb)).1
theorem qae {p:Pt} (h:rb p=true):∃ c t,wB p=c :: t∧c∈letB∧∀ b∈wB p,b ∉ sgn:=by
 have h':rightB p.1 p.2.1 p.2.2=true:=h
 obtain ⟨r1,r2,r3,r4,r5,r6⟩:=rightB_iff.1 h'
 obtain ⟨c,hc1,hc2⟩:=qfq ⟨p.1.toNat,by omega⟩
 have hp:wB p=c :: (vJ p.2.1++Lib.itoa p.2.2):=by
  unfold wB wJ
  rw [if_pos h']
  show (letB.drop p.1.toNat).take 1++vJ p.2.1++Lib.itoa p.2.2=_
  rw [show (letB.drop p.1.toNat).take 1=[c] from hc1]
  rfl
 have hcl:c∈letB:=by
  have:c∈(letB.drop p.1.toNat).take 1:=by rw [show (letB.drop p.1.toNat).take 1=[c] from hc1];simp
  exact List.mem_of_mem_drop (List.mem_of_mem_take this)
 refine ⟨c,_,hp,hcl,fun b hb=>?_⟩
 rw [hp,List.mem_cons,List.mem_append] at hb
 rcases hb with rfl|hb|hb
 ·exact (qap b hcl).1
 ·exact sign_sgn _ r3 r4 b hb
 ·exact qjm _ b hb
theorem nx_pt {p:Pt} (h:rb p=true) (r:qJ):nx (wB p++r)=wB p++r:=by
 obtain ⟨c,t,e,hc,_⟩:=qae h
 rw [e]
 exact QO ⟨(qap c hc).2.1,(qap c hc).2.2.1⟩
theorem pit_rt {s r:qJ} {a:Nat} {p:Pt} (hp:rb p=true) (h:G s a (wB p++r)) (hr:SgS r):qS s a=(0,p,qB s a+(wB p).length):=by
 obtain ⟨c,t,e,hc,hs⟩:=qae hp
 have hw:=h.wd hs hr
 have hread:zq (wB p)=(p,0,0):=qdi (l:=p.1) (a:=p.2.1) (o:=p.2.2) hp
 unfold qS
 rw [hw,hread]
 rfl
theorem ch_rt {s:qJ} {r:qJ}:∀ (l:List Pt) (p:Pt) (m:Nat) (acc:List Pt) (a:Nat),rb p=true→l.all rb=true→l.length<m→G s a (zA (p :: l)++62 :: r) →
  ∃ a',Vx s m acc a=(0,acc++p :: l,a')∧G s a' (nx r)
 | l,p,0,acc,a,_,_,hm,_=>absurd hm (Nat.not_lt_zero _)
 | [],p,m+1,acc,a,hp,_,_,h=>by
  have h':G s a (wB p++62 :: r):=by
   have:=h
   rwa [qdk] at this
  have e:=pit_rt hp h' (show (62:UInt8)∈sgn by decide)
  have h2:=h'.on
  rw [QO (by decide)] at h2
  refine ⟨qB s (qB s a+(wB p).length)+1,?_,h2.one⟩
  rw [Vx,e,if_pos rfl,if_pos (h2.yes (c:=62) rfl)]
 | q :: l,p,m+1,acc,a,hp,hl,hm,h=>by
  rw [List.all_cons,Bool.and_eq_true] at hl
  have h':G s a (wB p++(32 :: (zA (q :: l)++62 :: r))):=by
   have:=h
   rwa [ptsT_two,List.append_assoc,List.cons_append] at this
  have e:=pit_rt hp h' (show (32:UInt8)∈sgn by decide)
  have h2:=h'.on
  have hq:nx (zA (q :: l)++62 :: r)=zA (q :: l)++62 :: r:=by
   rw [jT,List.append_assoc]
   exact nx_pt hl.1 _
  rw [QM (.inl rfl),hq] at h2
  obtain ⟨c,t,ec,hc,_⟩:=qae hl.1
  have hno:¬ qv s (qB s a+(wB p).length) 62=true:=by
   have h3:=h2
   rw [jT,ec] at h3
   have hne:=(qap c hc).2.2.2.2.2.2.2.2.2.2.2.2.2
   exact G.no (b:=c) h3 (fun z=>hne (UInt8.toNat_inj.1 (by show c.toNat=62;omega)))
  obtain ⟨a',i1,i2⟩:=ch_rt l q m (acc++[p]) _ hl.1 hl.2 (by simp only [List.length_cons] at hm;omega) h2.gap
  refine ⟨a',?_,i2⟩
  rw [Vx,e,if_pos rfl,if_neg hno]
  show Vx s m (acc++[p]) (qB s (qB s a+(wB p).length))=_
  rw [i1,List.append_assoc]
  rfl
theorem ics_len (l:List It):(zT l).length=l.length*7:=by rw [QE];exact Zv gI 7 (fun _=>rfl) l
theorem qjt (l:List It) (x:It):zT l++gI x=zT (l++[x]):=by rw [QE,QE,List.flatMap_append];simp
theorem brs_len (l:List Br):(jA l).length=l.length*3:=Zv brC 3 (fun _=>rfl) l
theorem brs_snoc (l:List Br) (x:Br):jA l++brC x=jA (l++[x]):=by unfold jA;rw [List.flatMap_append];simp
theorem vos_len (l:List Vo):(yq l).length=l.length*2:=Zv voC 2 (fun _=>rfl) l
theorem vos_snoc (l:List Vo) (x:Vo):yq l++voC x=yq (l++[x]):=by unfold yq;rw [List.flatMap_append];simp
theorem grL_ok {s:qJ} {lv:Int} {l:List It} {a k:Nat} (h1:(qZ s (lv+1) a k).1=0) (h2:qv s (qZ s (lv+1) a k).2.2.1 93=true):grL s lv l a k=(0,l++[(qZ s (lv+1) a k).2.1],qB s (qZ s (lv+1) a k).2.2.1+1,(qZ s (lv+1) a k).2.2.2):=by
 rw [qbs,if_pos h1,if_pos h2]
theorem grL_no {s:qJ} {lv:Int} {l:List It} {a k:Nat} (h1:¬ (qZ s (lv+1) a k).1=0):grL s lv l a k=((qZ s (lv+1) a k).1,[],(qZ s (lv+1) a k).2.2.1,0):=by
 rw [qbs,if_neg h1]
theorem chL_full {s:qJ} {ps:List Pt} {a:Nat} (h:ps.length=16):Vx s (16-ps.length) ps a=(5,[],a):=by rw [h,Nat.sub_self];rfl
theorem WT {s:qJ} {ps:List Pt} {a:Nat} (h:ps.length<16):Vx s (16-ps.length) ps a=if (qS s a).1=0 then
   if qv s (qS s a).2.2 62=true then (0,ps++[(qS s a).2.1],qB s (qS s a).2.2+1)
   else Vx s (16-(ps.length+1)) (ps++[(qS s a).2.1]) (qB s (qS s a).2.2)
  else ((qS s a).1,[],(qS s a).2.2):=by
 rw [show 16-ps.length=(16-(ps.length+1))+1 by omega,Vx]
def NxS (r:qJ):Prop:=SgS r∧(nx r=[]∨∃ c t,nx r=c :: t∧c≠42∧c≠34)
theorem YV {b c:UInt8} {z:Int} (h:b≠c) (hc:(c.toNat:Int)=z):¬ (b.toNat:Int)=z:=fun e=>h (UInt8.toNat_inj.1 (by omega))
theorem NxS.no {s r:qJ} {a:Nat} (h:G s a (nx r)) (hr:NxS r):¬ qv s a 42=true∧¬ qv s a 34=true:=by
 rcases hr.2 with e|⟨c,t,e,h1,h2⟩
 ·rw [e] at h
  exact ⟨h.no0,h.no0⟩
 ·rw [e] at h
  exact ⟨h.no (YV h1 rfl),h.no (YV h2 rfl)⟩
theorem qig {s r ly:qJ} {a k:Nat} {x:It} (hr:NxS r) (hx:iL x=[]) (hk:iK x=1∨ly=[]) (hl:ly=[]∨wA ly=true) (h:G s a (nx (wy ly++r))) :
  ∃ a',vT s x a k=(0,setL x ly,a',k)∧G s a' (nx r):=by
 by_cases h1:iK x=1
 ·unfold vT
  rw [if_pos h1]
  by_cases h2:ly=[]
  ·subst h2
   have h':G s a (nx r):=h
   have e:zv s a=(0,[],qB s a):=by unfold zv;rw [if_neg (hr.no h').2]
   rw [e]
   exact ⟨_,if_pos rfl,h'.gap⟩
  ·have hs:wA ly=true:=hl.resolve_left h2
   unfold wA at hs
   rw [Bool.and_eq_true,decide_eq_true_eq,qbi] at hs
   have e0:wy ly++r=32 :: 34 :: (ly++34 :: r):=by unfold wy;rw [if_neg h2];simp
   rw [e0,QM (.inl rfl),QO (by decide)] at h
   have hd:=(G.adv (p:=[34]) (r:=ly++34 :: r) h)
   have hl:=lyr_fwd _ ly (Nat.le_refl _) 0 r hs.2 (by omega) (.inr h2)
   have e:zv s a=(0,ly,qB s a+1+ly.length+1):=by
    unfold zv
    rw [if_pos (h.yes (c:=34) rfl),show s.drop (qB s a+1)=ly++34 :: r from hd.1,hl,if_pos rfl]
    show (0,(ly++34 :: r).take ly.length,_)=_
    rw [List.take_left]
   rw [e]
   refine ⟨_,if_pos rfl,G.of (t:=r) ?_ ?_⟩
   ·show s.drop (qB s a+1+ly.length+1)=r
    rw [show qB s a+1+ly.length+1=qB s a+1+(ly.length+1) by omega,← List.drop_drop,show s.drop (qB s a+1)=ly++34 :: r from hd.1,← List.drop_drop,List.drop_left]
    rfl
   ·have:=congrArg List.length (show s.drop (qB s a+1)=ly++34 :: r from hd.1)
    rw [List.length_drop,List.length_append,List.length_cons] at this
    show qB s a+1+ly.length+1≤s.length
    omega
 ·have h2:=hk.resolve_left h1
  subst h2
  refine ⟨a,?_,h⟩
  unfold vT
  rw [if_neg h1]
  cases x with|mk k s ps b ly ks=>cases hx;rfl
theorem Wv {s r ly:qJ} {a k:Nat} {x:It} {sh:Int} (hr:NxS r) (hx:iL x=[]) (hs:iS x=1) (hk:iK x=1∨ly=[]) (hl:ly=[]∨wA ly=true) (h1:1≤sh) (h2:sh≤65536) (h:G s a (nx (qK sh++wy ly++r))) :
  ∃ a',yB s x a k=(0,setL (WJ x sh) ly,a',k)∧G s a' (nx r):=by
 unfold yB
 by_cases c:sh=1
 ·subst c
  have h':G s a (nx (wy ly++r)):=h
  have hno:¬ qv s a 42=true:=by
   by_cases c2:ly=[]
   ·subst c2
    exact (hr.no h').1
   ·have e0:wy ly++r=32 :: 34 :: (ly++34 :: r):=by unfold wy;rw [if_neg c2];simp
    rw [e0,QM (.inl rfl),QO (by decide)] at h'
    exact h'.no (YV (c:=42) (by decide) rfl)
  rw [if_neg hno]
  have e:WJ x 1=x:=by cases x with|mk k s ps b ly ks=>cases hs;rfl
  rw [e]
  exact qig hr hx hk hl h'.gap
 ·have e0:qK sh++wy ly++r=42 :: (Lib.itoa sh++(wy ly++r)):=by unfold qK;rw [if_neg c];simp
  rw [e0,QO (by decide)] at h
  have h3:=h.one
  rw [qhf h1 h2] at h3
  have e:=num_rt h1 h2 h3 ((sg_ly ly).app hr.1)
  rw [if_pos (h.yes (c:=42) rfl),e,if_pos rfl]
  exact qig (x:=WJ x sh) hr hx hk hl h3.on

/-! ### what items begin with -/
def hds:qJ:=[45,126,91,60,117]++letB
theorem qho:∀ b∈hds,b≠32∧b≠10∧b≠42∧b≠34∧b≠124∧b≠93∧b≠118:=by decide
theorem qcn {x:It} (h:vw x=true):1≤(iP x).length∧(iP x).length≤16∧iC x=[]∧iB x=(0,0)∧(iP x).all rb=true∧(iL x=[]∨wA (iL x)=true):=by
 unfold vw at h
 split at h
 ·cases h
 split at h
 ·cases h
 split at h
 ·cases h
 rename_i c1 c2 c3
 split at h
 ·rename_i c4
  split at h
  ·rename_i c5
   simp only [bz,Bool.and_eq_true,decide_eq_true_eq] at c4
   refine ⟨by omega,by omega,List.length_eq_zero_iff.1 (by omega),Prod.ext c4.1 c4.2,c5,?_⟩
   split at h
   ·rename_i c6;exact .inl c6
   ·exact .inr h
  ·cases h
 ·cases h
theorem qgt {x:It} (h:vZ x=true):iP x=[]∧iC x=[]∧iL x=[]∧iB x=(0,0):=by
 unfold vZ at h
 split at h
 ·split at h
  ·split at h
   ·rename_i c1 c2 c3
    simp only [bz,Bool.and_eq_true,decide_eq_true_eq] at h
    exact ⟨List.length_eq_zero_iff.1 c1,List.length_eq_zero_iff.1 c2,c3,Prod.ext h.1 h.2⟩
   ·cases h
  ·cases h
 ·cases h
theorem qec {x:It} (h:yS x=true):iC x≠[]∧iP x=[]∧iL x=[]∧(iK x=4→iB x=(0,0))∧(qE (iB x).1 (iB x).2).2=0:=by
 unfold yS at h
 split at h
 ·cases h
 split at h
 ·cases h
 rename_i c1 c2
 split at h
 ·rename_i c3
  refine ⟨fun e=>c1 (by rw [e];rfl),List.length_eq_zero_iff.1 (by omega),c3,?_⟩
  split at h
  ·split at h
   ·rename_i c5
    simp only [bz,Bool.and_eq_true,decide_eq_true_eq] at c5
    exact ⟨fun _=>Prod.ext c5.1 c5.2,of_decide_eq_true h⟩
   ·cases h
  ·rename_i c4
   exact ⟨fun e=>absurd e c4,of_decide_eq_true h⟩
 ·cases h
structure ItG (x:It) (lv:Int) (k:Int):Prop where
 k1:1≤k
 lvb:lv≤31
 s1:1≤iS x
 s2:iS x≤65536
 kind:(iK x=1∧vw x=true∧(vV x lv k).2=k-1)∨((iK x=2∨iK x=3)∧vZ x=true∧(vV x lv k).2=k-1)∨((iK x=4∨iK x=5)∧yS x=true∧vV x lv k=wL (iC x) (lv+1) (k-1))
theorem Vq {x:It} {lv k:Int} (h:(vV x lv k).1=true):ItG x lv k:=by
 rw [yW] at h
 have e:=yW x lv k
 split at h
 ·cases h
 rename_i c
 rw [if_neg c] at e
 refine ⟨by omega,by omega,by omega,by omega,?_⟩
 split at h
 ·rename_i c1
  rw [if_pos c1] at e
  exact .inl ⟨c1,h,by rw [e]⟩
 rename_i c1
 rw [if_neg c1] at e
 split at h
 ·rename_i c2
  rw [if_pos c2] at e
  exact .inr (.inl ⟨c2,h,by rw [e]⟩)
 rename_i c2
 rw [if_neg c2] at e
 split at h
 ·rename_i c3
  rw [if_pos c3] at e
  split at h
  ·rename_i c4
   rw [if_pos c4] at e
   exact .inr (.inr ⟨c3,c4,e⟩)
  ·cases h
 ·cases h
theorem qcp {x:It} {lv k:Int} (h:(vV x lv k).1=true):∃ c t,zO x=c :: t∧c∈hds:=by
 have g:=Vq h
 rw [itT_eq]
 rcases g.kind with ⟨c,h1,_⟩|⟨c,h1,_⟩|⟨c,h1,_⟩
 ·obtain ⟨p1,p2,_,_,p5,_⟩:=qcn h1
  rw [if_neg (by omega),if_neg (by omega),if_pos c]
  unfold ZW
  split
  ·exact ⟨60,_,rfl,by decide⟩
  ·cases hp:iP x with
   | nil=>rw [hp] at p1;simp at p1
   | cons p l =>
    rw [hp,List.all_cons,Bool.and_eq_true] at p5
    obtain ⟨c,t,e,hc,_⟩:=qae p5.1
    refine ⟨c,t++ptsR l++(qK (iS x)++wy (iL x)),by rw [jT,e];simp,?_⟩
    unfold hds
    exact List.mem_append_right _ hc
 ·rcases c with c|c
  ·rw [if_pos c];exact ⟨45,_,rfl,by decide⟩
  ·rw [if_neg (by omega),if_pos c];exact ⟨126,_,rfl,by decide⟩
 ·rcases c with c|c
  ·rw [if_neg (by omega),if_neg (by omega),if_neg (by omega)]
   unfold upT
   rw [if_neg (by omega)]
   exact ⟨91,_,rfl,by decide⟩
  ·rw [if_neg (by omega),if_neg (by omega),if_neg (by omega)]
   unfold upT
   rw [if_pos c]
   exact ⟨117,_,rfl,by decide⟩
theorem nx_it {x:It} {lv k:Int} (h:(vV x lv k).1=true) (r:qJ):nx (zO x++r)=zO x++r:=by
 obtain ⟨c,t,e,hc⟩:=qcp h
 rw [e]
 have:=qho c hc
 exact QO ⟨this.1,this.2.1⟩
theorem name_text {a b:Int} (h:(qE a b).2=0):(∃ c t,(qE a b).1=c :: t∧c≠32∧c≠10)∧∀ x∈(qE a b).1,x ∉ sgn:=by
 have hA:∀ (mn:qJ) (s h:Int),(Qv mn s h).2=0→(∀ x∈mn,x ∉ sgn∧x≠32∧x≠10)→(∃ c t,(Qv mn s h).1=c :: t∧c≠32∧c≠10)∧∀ x∈(Qv mn s h).1,x ∉ sgn:=by
  intro mn s h h0 hm
  unfold Qv at h0 ⊢
  split at h0
  ·cases h0
  ·rename_i hq
   rw [if_neg hq]
   obtain ⟨_,q2,q3⟩:=qual_ok (p:=zL s) (m:=vq s h) (by omega)
   have hqs:∀ b∈quals,b ∉ sgn∧b≠32∧b≠10:=by decide
   have hall:∀ x∈mn++vU (zL s) (vq s h)++Lib.itoa (s+1),x ∉ sgn:=by
    intro x hx
    rw [List.mem_append,List.mem_append] at hx
    rcases hx with (hx|hx)|hx
    ·exact (hm x hx).1
    ·exact (hqs x (q2 x hx)).1
    ·exact qjm _ x hx
   refine ⟨?_,hall⟩
   cases hmn:mn++vU (zL s) (vq s h) with
   | nil=>rw [List.append_eq_nil_iff] at hmn;exact absurd hmn.2 q3
   | cons c t =>
    have hc:c∈mn++vU (zL s) (vq s h):=by rw [hmn];simp
    refine ⟨c,t++Lib.itoa (s+1),rfl,?_⟩
    rcases List.mem_append.1 hc with hc|hc
    ·exact (hm c hc).2
    ·exact (hqs c (q2 c hc)).2
 unfold qE at h ⊢
 split at h
 ·rename_i c1
  rw [if_pos c1]
  split at h
  ·rename_i c2
   rw [if_pos c2]
   exact hA _ _ _ h (by decide)
  ·rename_i c2
   rw [if_neg c2]
   exact hA _ _ _ h (fun x hx=>by cases hx)
 ·cases h

/-! ### items -/
theorem nxs_it {x:It} {lv k:Int} (h:(vV x lv k).1=true) (r:qJ):NxS (32 :: (zO x++r)):=by
 obtain ⟨c,t,e,hc⟩:=qcp h
 have:=qho c hc
 refine ⟨by show (32:UInt8)∈sgn;decide,.inr ⟨c,t++r,?_,this.2.2.1,this.2.2.2.1⟩⟩
 rw [QM (.inl rfl),e]
 exact QO ⟨this.1,this.2.1⟩
theorem nxs_93 (r:qJ):NxS (93 :: r):=⟨by show (93:UInt8)∈sgn;decide,.inr ⟨93,r,QO (by decide),by decide,by decide⟩⟩
theorem wR {x:It} {l:List It} {lv n:Int} (h:(wL (x :: l) lv n).1=true):(vV x lv n).1=true∧(wL l lv (vV x lv n).2).1=true∧wL (x :: l) lv n=wL l lv (vV x lv n).2:=by
 rw [wL] at h ⊢
 split at h
 ·rename_i c
  rw [if_pos c]
  exact ⟨c,h,rfl⟩
 ·cases h
mutual
theorem rtI:∀ (x:It) (s:qJ) (lv:Int) (a k:Nat) (r:qJ),(vV x lv (k:Int)).1=true→NxS r→G s a (zO x++r)→∃ a',qZ s lv a k=(0,x,a',(vV x lv (k:Int)).2.toNat)∧G s a' (nx r)
 | .mk kd sh ps b ly ks,s,lv,a,k,r,h,hr,hG=>by
  have g:=Vq h
  obtain ⟨k1,hlv,s1,s2,hk⟩:=g
  have hne:¬ (k=0∨31<lv):=by omega
  rw [yZ,if_neg hne]
  rw [itT_eq] at hG
  rcases hk with ⟨c,h1,h2⟩|⟨c,h1,h2⟩|⟨c,h1,h2⟩
  ·-- a note
   obtain rfl:kd=1:=c
   obtain ⟨p1,p2,p3,p4,p5,p6⟩:=qcn h1
   obtain rfl:ks=[]:=p3
   obtain rfl:b=(0,0):=p4
   have p1:1≤ps.length:=p1
   have p2:ps.length≤16:=p2
   have p5:ps.all rb=true:=p5
   have p6:ly=[]∨wA ly=true:=p6
   rw [h2,show ((k:Int)-1).toNat=k-1 by omega]
   have hG:G s a (ZW ps++(qK sh++wy ly)++r):=hG
   rw [List.append_assoc] at hG
   cases ps with
   | nil=>simp at p1
   | cons p l =>
    rw [List.all_cons,Bool.and_eq_true] at p5
    obtain ⟨c,t,e,hc,hs⟩:=qae p5.1
    have hl:=qap c hc
    have hsg:SgS (qK sh++wy ly++r):=((qgs sh).app (sg_ly ly)).app hr.1
    by_cases hch:1<(p :: l).length
    ·have e0:ZW (p :: l)++(qK sh++wy ly++r)=60 :: (zA (p :: l)++62 :: (qK sh++wy ly++r)):=by unfold ZW;rw [if_pos hch];simp
     rw [e0] at hG
     have hw:=hG.wd0 (by decide)
     have h3:=hG.one
     have hnx:nx (zA (p :: l)++62 :: (qK sh++wy ly++r))=zA (p :: l)++62 :: (qK sh++wy ly++r):=by
      rw [jT,List.append_assoc]
      exact nx_pt p5.1 _
     rw [hnx] at h3
     obtain ⟨a1,i1,i2⟩:=ch_rt l p 16 [] _ p5.1 p5.2 (by simp only [List.length_cons] at p2;omega) h3
     rw [hw,if_neg (by decide),if_neg (hG.no (c:=126) (YV (c:=126) (by decide) rfl)),if_neg (by decide),if_neg (hG.no (c:=91) (YV (c:=91) (by decide) rfl)),if_pos (hG.yes (c:=60) rfl),i1,if_pos rfl]
     exact Wv (x:=.mk 1 1 (p :: l) (0,0) [] []) hr rfl rfl (.inl rfl) p6 s1 s2 i2
    ·have hl0:l=[]:=by cases l with|nil=>rfl|cons _ _=>exact absurd (by simp) hch
     subst hl0
     have e0:ZW [p]++(qK sh++wy ly++r)=wB p++(qK sh++wy ly++r):=by unfold ZW;rw [if_neg hch,qdk]
     rw [e0] at hG
     have hw:=hG.wd hs hsg
     have hG2:=hG
     rw [e] at hG2
     have hq:=pit_rt p5.1 hG.gap hsg
     rw [ZO] at hq
     rw [hw,e,if_neg (by rintro c2;exact hl.2.2.2.2.2.2.2.2.1 (List.cons.inj c2).1),if_neg (G.no (b:=c) (c:=126) hG2 (YV (c:=126) hl.2.2.2.2.2.2.2.2.2.2.1 rfl)),if_neg (by rintro c2;exact hl.2.2.2.2.2.2.2.2.2.1 (List.cons.inj c2).1),
      if_neg (G.no (b:=c) (c:=91) hG2 (YV (c:=91) hl.2.2.2.2.2.2.2.2.2.2.2.1 rfl)),if_neg (G.no (b:=c) (c:=60) hG2 (YV (c:=60) hl.2.2.2.2.2.2.2.2.2.2.2.2.1 rfl)),hq,if_pos rfl]
     exact Wv (x:=.mk 1 1 [p] (0,0) [] []) hr rfl rfl (.inl rfl) p6 s1 s2 hG.on
  ·-- a rest,a tie
   obtain ⟨p1,p2,p3,p4⟩:=qgt h1
   obtain rfl:ps=[]:=p1
   obtain rfl:ks=[]:=p2
   obtain rfl:ly=[]:=p3
   obtain rfl:b=(0,0):=p4
   rw [h2,show ((k:Int)-1).toNat=k-1 by omega]
   have hsg:SgS (qK sh++wy []++r):=((qgs sh).app (sg_ly [])).app hr.1
   rcases c with c|c
   ·obtain rfl:kd=2:=c
    have hG:G s a ([45]++(qK sh++wy []++r)):=hG
    have hw:=hG.wd (by decide) hsg
    rw [hw,if_pos rfl]
    exact Wv (x:=.mk 2 1 [] (0,0) [] []) hr rfl rfl (.inr rfl) (.inl rfl) s1 s2 hG.on
   ·obtain rfl:kd=3:=c
    have hG:G s a (126 :: (qK sh++wy []++r)):=hG
    have hw:=hG.wd0 (by decide)
    rw [hw,if_neg (by decide),if_pos (hG.yes (c:=126) rfl)]
    exact Wv (x:=.mk 3 1 [] (0,0) [] []) hr rfl rfl (.inr rfl) (.inl rfl) s1 s2 hG.one
  ·-- a group
   obtain ⟨p1,p2,p3,p4,p5⟩:=qec h1
   obtain rfl:ps=[]:=p2
   obtain rfl:ly=[]:=p3
   have p1:ks≠[]:=p1
   rw [h2]
   have hL:(wL ks (lv+1) ((k-1:Nat):Int)).1=true:=by
    rw [h2] at h
    rwa [show ((k-1:Nat):Int)=(k:Int)-1 by omega]
   have hk:((k-1:Nat):Int)=(k:Int)-1:=by omega
   have hsg:SgS (qK sh++wy []++r):=((qgs sh).app (sg_ly [])).app hr.1
   -- the group itself
   have grp:∀ a0,G s a0 (91 :: (qz ks++93 :: (qK sh++wy []++r)))→∃ a',yP s lv a0 (k-1)=(0,ks,a',(wL ks (lv+1) ((k:Int)-1)).2.toNat)∧G s a' (nx (qK sh++wy []++r)):=by
    intro a0 h0
    rw [VH,if_pos (h0.yes (c:=91) rfl)]
    have h3:=h0.one
    have hnx:nx (qz ks++93 :: (qK sh++wy []++r))=qz ks++93 :: (qK sh++wy []++r):=by
     cases ks with
     | nil=>exact absurd rfl p1
     | cons y l =>
      rw [qz,List.append_assoc]
      exact nx_it (wR hL).1 _
    rw [hnx] at h3
    have:=rtL ks s lv (qB s a0+1) (k-1) [] (qK sh++wy []++r) hL p1 h3
    rwa [List.nil_append,hk] at this
   have fin:∀ (kd:Int) (b:Int × Int) a0 kk,G s a0 (nx (qK sh++wy []++r))→∃ a',yB s (.mk kd 1 [] b [] ks) a0 kk=(0,.mk kd sh [] b [] ks,a',kk)∧G s a' (nx r) :=
    fun kd b a0 kk h0=>Wv (x:=.mk kd 1 [] b [] ks) hr rfl rfl (.inr rfl) (.inl rfl) s1 s2 h0
   rcases c with c|c
   ·obtain rfl:kd=4:=c
    obtain rfl:b=(0,0):=p4 rfl
    have hG:G s a ((91 :: (qz ks++[93]))++(qK sh++wy [])++r):=hG
    have e0:(91 :: (qz ks++[93]))++(qK sh++wy [])++r=91 :: (qz ks++93 :: (qK sh++wy []++r)):=by simp
    rw [e0] at hG
    have hw:=hG.wd0 (by decide)
    obtain ⟨a1,i1,i2⟩:=grp _ hG.gap
    rw [hw,if_neg (by decide),if_neg (hG.no (c:=126) (YV (c:=126) (by decide) rfl)),if_neg (by decide),if_pos (hG.yes (c:=91) rfl),i1,if_pos rfl]
    exact fin 4 (0,0) a1 _ i2
   ·obtain rfl:kd=5:=c
    obtain ⟨b1,b2⟩:=b
    have p5:(qE b1 b2).2=0:=p5
    obtain ⟨⟨c,t,e,n1,n2⟩,hn⟩:=name_text p5
    have hG:G s a ((([117,112,32]++((qE b1 b2).1++[32]))++(91 :: (qz ks++[93])))++(qK sh++wy [])++r):=hG
    have e0:(([117,112,32]++((qE b1 b2).1++[32]))++(91 :: (qz ks++[93])))++(qK sh++wy [])++r=[117,112]++(32 :: ((qE b1 b2).1++(32 :: 91 :: (qz ks++93 :: (qK sh++wy []++r))))):=by simp
    rw [e0] at hG
    have hw:=hG.wd (by decide) (by show (32:UInt8)∈sgn;decide)
    have h3:=hG.on
    have hnx:nx ((qE b1 b2).1++(32 :: 91 :: (qz ks++93 :: (qK sh++wy []++r))))=(qE b1 b2).1++(32 :: 91 :: (qz ks++93 :: (qK sh++wy []++r))):=by
     rw [e];exact QO ⟨n1,n2⟩
    rw [QM (.inl rfl),hnx] at h3
    have h3:G s (qB s a+2) ((qE b1 b2).1++(32 :: 91 :: (qz ks++93 :: (qK sh++wy []++r)))):=h3
    have hw2:=h3.wd hn (by show (32:UInt8)∈sgn;decide)
    have h4:=h3.on
    rw [QM (.inl rfl),QO (by decide)] at h4
    obtain ⟨a1,i1,i2⟩:=grp _ h4
    have hG2:G s a (117 :: ([112]++(32 :: ((qE b1 b2).1++(32 :: 91 :: (qz ks++93 :: (qK sh++wy []++r))))))):=hG
    rw [hw,if_neg (by decide),if_neg (hG2.no (c:=126) (YV (c:=126) (by decide) rfl)),if_pos rfl,hw2,named_name p5,if_pos rfl,i1,if_pos rfl]
    exact fin 5 (b1,b2) a1 _ i2
theorem rtL:∀ (l:List It) (s:qJ) (lv:Int) (a k:Nat) (acc:List It) (r:qJ),(wL l (lv+1) (k:Int)).1=true→l≠[]→G s a (qz l++93 :: r)→∃ a',grL s lv acc a k=(0,acc++l,a',(wL l (lv+1) (k:Int)).2.toNat)∧G s a' (nx r)
 | [],_,_,_,_,_,_,_,h,_=>absurd rfl h
 | [x],s,lv,a,k,acc,r,h,_,hG=>by
  obtain ⟨h1,h2,h3⟩:=wR h
  have e0:qz [x]++93 :: r=zO x++93 :: r:=by rw [qz,Zz,List.append_nil]
  rw [e0] at hG
  obtain ⟨a1,i1,i2⟩:=rtI x s (lv+1) a k (93 :: r) h1 (nxs_93 r) hG
  rw [QO (by decide)] at i2
  refine ⟨qB s a1+1,?_,i2.one⟩
  rw [grL_ok (by rw [i1]) (by rw [i1];exact i2.yes rfl),i1,h3,wL]
 | x :: y :: l,s,lv,a,k,acc,r,h,_,hG=>by
  obtain ⟨h1,h2,h3⟩:=wR h
  have g1:=(wR h2).1
  have e0:qz (x :: y :: l)++93 :: r=zO x++(32 :: (zO y++(Zz l++93 :: r))):=by rw [qz,Zz];simp
  rw [e0] at hG
  have ha:=hG.a_le
  obtain ⟨a1,i1,i2⟩:=rtI x s (lv+1) a k _ h1 (nxs_it g1 _) hG
  rw [QM (.inl rfl),nx_it g1] at i2
  obtain ⟨c,t,e,hc⟩:=qcp g1
  have hne:=qho c hc
  have i2':=i2
  rw [e] at i2'
  have hrng:=qcq x (lv+1) (k:Int) (by have:=(Vq h1).k1;omega)
  have hk:(((vV x (lv+1) (k:Int)).2.toNat:Nat):Int)=(vV x (lv+1) (k:Int)).2:=by have:=hrng.2.2 h1;omega
  obtain ⟨a2,j1,j2⟩:=rtL (y :: l) s lv (qB s a1) (vV x (lv+1) (k:Int)).2.toNat (acc++[x]) r (by rw [hk];exact h2) (by simp) (by
   have:=i2.gap
   rw [qz]
   rwa [List.append_assoc])
  refine ⟨a2,?_,j2⟩
  rw [qjx ha (by rw [i1]) (by rw [i1];exact G.no (b:=c) i2' (YV (c:=93) hne.2.2.2.2.2.1 rfl)),i1]
  show grL s lv (acc++[x]) (qB s a1) (vV x (lv+1) (k:Int)).2.toNat=_
  rw [j1,h3,hk,List.append_assoc]
  rfl
end
def EnV (r:qJ):Prop:=r=[]∨∃ t,r=vow++(32 :: t)
def EnB (r:qJ):Prop:=EnV r∨∃ t,r=124 :: t
theorem vow_sgn:∀ b∈vow,b ∉ sgn:=by decide
theorem EnB.nx {r:qJ} (h:EnB r):Pm.nx r=r∧(r=[]∨∃ c t,r=c :: t∧c≠42∧c≠34):=by
 rcases h with (rfl|⟨t,rfl⟩)|⟨t,rfl⟩
 ·exact ⟨rfl,.inl rfl⟩
 ·exact ⟨QO (b:=118) (by decide),.inr ⟨118,_,rfl,by decide,by decide⟩⟩
 ·exact ⟨QO (by decide),.inr ⟨124,t,rfl,by decide,by decide⟩⟩
theorem EnB.nl {r:qJ} (h:EnB r):Pm.nx (10 :: r)=r∧NxS (10 :: r):=by
 obtain ⟨h1,h2⟩:=h.nx
 have e:Pm.nx (10 :: r)=r:=by rw [QM (.inr rfl),h1]
 exact ⟨e,by show (10:UInt8)∈sgn;decide,by rw [e];exact h2⟩
theorem rtB {s:qJ}:∀ (l:List It) (a k:Nat) (acc:List It) (r:qJ),(wL l 1 (k:Int)).1=true→l≠[]→EnB r→G s a (qz l++10 :: r)→∃ a' k',brL s acc a k=(0,acc++l,a',k')∧G s a' r
 | [],_,_,_,_,_,h,_,_=>absurd rfl h
 | [x],a,k,acc,r,h,_,hr,hG=>by
  obtain ⟨h1,h2,h3⟩:=wR h
  have e0:qz [x]++10 :: r=zO x++10 :: r:=by rw [qz,Zz,List.append_nil]
  rw [e0] at hG
  obtain ⟨a1,i1,i2⟩:=rtI x s 1 a k (10 :: r) h1 hr.nl.2 hG
  rw [hr.nl.1] at i2
  have hend:qB s a1=s.length∨qv s a1 124=true∨qC s a1=vow:=by
   rcases hr with (rfl|⟨t,rfl⟩)|⟨t,rfl⟩
   ·exact .inl i2.end
   ·exact .inr (.inr (i2.wd vow_sgn (by show (32:UInt8)∈sgn;decide)))
   ·exact .inr (.inl (i2.yes rfl))
  refine ⟨qB s a1,(vV x 1 (k:Int)).2.toNat,?_,i2.gap⟩
  rw [ZE,i1,if_pos rfl,if_pos hend]
 | x :: y :: l,a,k,acc,r,h,_,hr,hG=>by
  obtain ⟨h1,h2,h3⟩:=wR h
  have g1:=(wR h2).1
  have e0:qz (x :: y :: l)++10 :: r=zO x++(32 :: (zO y++(Zz l++10 :: r))):=by rw [qz,Zz];simp
  rw [e0] at hG
  obtain ⟨a1,i1,i2⟩:=rtI x s 1 a k _ h1 (nxs_it g1 _) hG
  rw [QM (.inl rfl),nx_it g1] at i2
  obtain ⟨c,t,e,hc⟩:=qcp g1
  have hne:=qho c hc
  have i2':=i2
  rw [e,List.cons_append] at i2'
  have hrng:=qcq x 1 (k:Int) (by have:=(Vq h1).k1;omega)
  have hk:(((vV x 1 (k:Int)).2.toNat:Nat):Int)=(vV x 1 (k:Int)).2:=by have:=hrng.2.2 h1;omega
  obtain ⟨a2,k2,j1,j2⟩:=rtB (y :: l) (qB s a1) (vV x 1 (k:Int)).2.toNat (acc++[x]) r (by rw [hk];exact h2) (by simp) hr (by
   have:=i2.gap
   rw [qz]
   rwa [List.append_assoc])
  have hno:¬ (qB s a1=s.length∨qv s a1 124=true∨qC s a1=vow):=by
   rintro (q|q|q)
   ·have:=i2'.lt;omega
   ·exact i2'.no (YV (c:=124) hne.2.2.2.2.1 rfl) q
   ·exact i2'.wd_ne (c:=118) hne.2.2.2.2.2.2 q
  refine ⟨a2,k2,?_,j2⟩
  rw [ZE,i1,if_pos rfl,if_neg hno]
  show (if (vV x 1 (k:Int)).2.toNat<k then brL s (acc++[x]) (qB s a1) (vV x 1 (k:Int)).2.toNat else _)=_
  rw [if_pos (by have:=hrng.1;have:=hrng.2.2 h1;omega),j1,List.append_assoc]
  rfl
theorem qhy {b:Br} (h:jj b=0):(1≤b.1∧b.1≤65536)∧(1≤b.2.1∧b.2.1≤65536)∧(wL b.2.2 1 4095).1=true∧b.2.2≠[]:=by
 unfold jj at h
 split at h
 ·cases h
 ·rename_i c
  split at h
  ·rename_i c2
   exact ⟨by omega,by omega,c2.1,List.length_pos_iff.1 c2.2⟩
  ·cases h
theorem rtR {s r:qJ} {a:Nat} {b:Br} (hb:jj b=0) (hr:EnB r) (h:G s a (Lib.itoa b.1++(47 :: (Lib.itoa b.2.1++(32 :: (qz b.2.2++10 :: r)))))):∃ a' k',wH s a=(0,b,a',k')∧G s a' r:=by
 obtain ⟨⟨b1,b2⟩,⟨b3,b4⟩,b5,b6⟩:=qhy hb
 have e1:=num_rt b1 b2 h (by show (47:UInt8)∈sgn;decide)
 have h2:=h.on
 rw [QO (by decide)] at h2
 have h3:=h2.one
 rw [qhf b3 b4] at h3
 have e2:=num_rt b3 b4 h3 (by show (32:UInt8)∈sgn;decide)
 have h4:=h3.on
 have hnx:nx (qz b.2.2++10 :: r)=qz b.2.2++10 :: r:=by
  cases hi:b.2.2 with
  | nil=>exact absurd hi b6
  | cons y l =>
   rw [hi] at b5
   rw [qz,List.append_assoc]
   exact nx_it (wR b5).1 _
 rw [QM (.inl rfl),hnx] at h4
 obtain ⟨a1,k1,i1,i2⟩:=rtB b.2.2 _ 4095 [] r b5 b6 hr h4
 refine ⟨a1,k1,?_,i2⟩
 unfold wH
 rw [e1,if_pos rfl,if_pos (h2.yes (c:=47) rfl),e2,if_pos rfl,i1,if_pos rfl]
 rfl
theorem brs_end {l:List Br} {r:qJ} (hr:EnV r):EnB (yD l++r):=by
 cases l with
 | nil=>exact .inl hr
 | cons b l=>exact .inr ⟨_,rfl⟩
theorem rtV {s r:qJ} (hr:EnV r):∀ (l:List Br) (m:Nat) (acc:List Br) (a:Nat) (z:Int),(∀ b∈l,jj b=0)→l.length≤m→G s a (yD l++r)→∃ a' z',YS s m acc a z=(0,acc++l,a',z')∧G s a' r
 | [],m,acc,a,z,_,_,h=>by
  have hno:¬ qv s a 124=true:=by
   rcases hr with rfl|⟨t,rfl⟩
   ·exact h.no0
   ·exact G.no (b:=118) h (by decide)
  refine ⟨qB s a,z,?_,h.gap⟩
  rw [List.append_nil]
  cases m with
  | zero=>rw [YS,if_neg hno]
  | succ m=>rw [YS,if_neg hno]
 | b :: l,0,acc,a,z,_,hm,_=>by simp at hm
 | b :: l,m+1,acc,a,z,hb,hm,h=>by
  have e0:yD (b :: l)++r=124 :: 32 :: (Lib.itoa b.1++(47 :: (Lib.itoa b.2.1++(32 :: (qz b.2.2++10 :: (yD l++r)))))):=by
   unfold yD
   rw [List.flatMap_cons]
   unfold brT
   simp
  rw [e0] at h
  obtain ⟨⟨b1,b2⟩,_,_,_⟩:=qhy (hb b (by simp))
  have h2:=h.one
  rw [QM (.inl rfl),qhf b1 b2] at h2
  obtain ⟨a1,k1,i1,i2⟩:=rtR (hb b (by simp)) (brs_end hr) h2
  obtain ⟨a2,z2,j1,j2⟩:=rtV hr l m (acc++[b]) a1 (k1:Int) (fun c hc=>hb c (by simp [hc])) (by simp only [List.length_cons] at hm;omega) i2
  refine ⟨a2,z2,?_,j2⟩
  rw [YS,if_pos (h.yes (c:=124) rfl),i1,if_pos rfl]
  show YS s m (acc++[b]) a1 (k1:Int)=_
  rw [j1,List.append_assoc]
  rfl
theorem qgi:∀ {l:List Br},YC l=0→∀ b∈l,jj b=0
 | b :: l,h,c,hc=>by
  rw [YC] at h
  split at h
  ·rename_i c1
   rcases List.mem_cons.1 hc with rfl|hc
   ·exact c1
   ·exact qgi h c hc
  ·rename_i c1
   exact absurd h c1
theorem qcw {v:Vo} (h:vA v=0):jM v.1=true∧v.2.length≤1024∧∀ b∈v.2,jj b=0:=by
 unfold vA at h
 split at h
 ·rename_i c
  split at h
  ·cases h
  ·exact ⟨c,by omega,qgi h⟩
 ·cases h
theorem qbz:∀ {l:List Vo},wY l=0→∀ v∈l,vA v=0
 | v :: l,h,c,hc=>by
  rw [wY] at h
  split at h
  ·rename_i c1
   rcases List.mem_cons.1 hc with rfl|hc
   ·exact c1
   ·exact qbz h c hc
  ·rename_i c1
   exact absurd h c1
theorem qdp {l:List Vo} (h:yF l=0):l.length≤64∧∀ v∈l,vA v=0:=by
 unfold yF at h
 split at h
 ·cases h
 ·exact ⟨by omega,qbz h⟩
theorem abc_sgn:∀ b∈abc,b ∉ sgn∧b≠32∧b≠10:=by decide
theorem rtC {s r:qJ} {a:Nat} {v:Vo} {z:Int} (hv:vA v=0) (hr:EnV r) (h:G s a (voT v++r)):∃ a' z',wW s a z=(0,v,a',z')∧G s a' r:=by
 obtain ⟨v1,v2,v3⟩:=qcw hv
 have hn:=of_decide_eq_true v1
 have e0:voT v++r=vow++(32 :: (v.1++(10 :: (yD v.2++r)))):=by unfold voT;simp
 rw [e0] at h
 have hw:=h.wd vow_sgn (by show (32:UInt8)∈sgn;decide)
 have h2:=h.on
 have hnx:nx (v.1++(10 :: (yD v.2++r)))=v.1++(10 :: (yD v.2++r)):=by
  cases hi:v.1 with
  | nil=>exact absurd hi hn.1
  | cons b t=>exact QO (abc_sgn b (hn.2.2 b (by rw [hi];simp))).2
 rw [QM (.inl rfl),hnx] at h2
 have h2:G s (qB s a+5) (v.1++(10 :: (yD v.2++r))):=h2
 have hw2:=h2.wd (fun b hb=>(abc_sgn b (hn.2.2 b hb)).1) (by show (10:UInt8)∈sgn;decide)
 have h3:=h2.on
 rw [(brs_end hr).nl.1] at h3
 obtain ⟨a1,z1,i1,i2⟩:=rtV hr v.2 1024 [] _ z v3 v2 h3
 refine ⟨a1,z1,?_,i2⟩
 unfold wW
 rw [if_pos hw,hw2,if_pos v1,i1,if_pos rfl]
 rfl
theorem pc_end (l:List Vo):EnV (yU l):=by
 cases l with
 | nil=>exact .inl rfl
 | cons v l =>
  refine .inr ⟨v.1++(10 :: yD v.2)++yU l,?_⟩
  unfold yU
  rw [List.flatMap_cons]
  unfold voT
  simp
theorem rtP {s:qJ}:∀ (l:List Vo) (m:Nat) (acc:List Vo) (a:Nat) (z:Int),(∀ v∈l,vA v=0)→l.length≤m→G s a (yU l)→Yz s m acc a z=(0,acc++l,0)
 | [],m,acc,a,z,_,_,h=>by
  rw [List.append_nil]
  cases m with
  | zero=>rw [Yz,if_pos h.end]
  | succ m=>rw [Yz,if_pos h.end]
 | v :: l,0,acc,a,z,_,hm,_=>by simp at hm
 | v :: l,m+1,acc,a,z,hv,hm,h=>by
  have e0:yU (v :: l)=voT v++yU l:=by unfold yU;rw [List.flatMap_cons]
  rw [e0] at h
  have hne:¬ qB s a=s.length:=by have:=G.lt (b:=118) h;omega
  obtain ⟨a1,z1,i1,i2⟩:=rtC (z:=z) (hv v (by simp)) (pc_end l) h.gap
  have:=rtP l m (acc++[v]) a1 z1 (fun c hc=>hv c (by simp [hc])) (by simp only [List.length_cons] at hm;omega) i2
  rw [Yz,if_neg hne,i1,if_pos rfl]
  show Yz s m (acc++[v]) a1 z1=_
  rw [this,List.append_assoc]
  rfl
theorem read_piece {l:List Vo} (h:yF l=0) (hl:(yU l).length≤65536):zK (yU l)=(0,l,0):=by
 obtain ⟨h1,h2⟩:=qdp h
 unfold zK
 rw [if_neg (by omega)]
 have:=rtP (s:=yU l) l 64 [] 0 0 h2 h1 (by
  have:=G.of (s:=yU l) (a:=0) rfl (Nat.zero_le _)
  rw [List.drop_zero,(EnB.nx (.inl (pc_end l))).1] at this
  exact this)
 rw [this]
 rfl
def yG (l:List Vo):qJ × Int:=if yF l=0 then (if 65536<(yU l).length then ([],4) else (yU l,0)) else ([],yF l)
theorem print_read {l:List Vo} (h:(yG l).2=0):zK (yG l).1=(0,l,0):=by
 unfold yG at h ⊢
 split at h
 ·rename_i c
  rw [if_pos c]
  split at h
  ·cases h
  ·rename_i c2
   rw [if_neg c2]
   exact read_piece c (by omega)
 ·rename_i c
  exact absurd h c
end Go.Proofs.YtmlnilkbolcknaaGreatDoor.Pm
namespace Go.Proofs.YtmlnilkbolcknaaGreatDoor
open Go.RowKit
theorem ret_int {k:IntKind} {a b:Int} (h:a=b):Ending.returned (.int k a) = .returned (.int k b):=by rw [h]
theorem Qz {a b:Bool} (h:a=b):Ending.returned (.bool a) = .returned (.bool b):=by rw [h]
theorem wU {B:Nat} {a w:World} (h:Below B a w) (n:Nat):Below B a (w.drewN n):=⟨h.os,h.tape,h.output,h.size,h.block⟩
theorem jF {a w w':World} (h:Below w.heap.size w w') (k:Below a.heap.size a w):Below a.heap.size a w':=k.trans (h.mono k.size)
theorem jz {a w:World} (k:Below a.heap.size a w) (o:Obj):Below a.heap.size a (w.alloc o):=k.alloc k.size o
end Go.Proofs.YtmlnilkbolcknaaGreatDoor
namespace Go.Proofs.YtmlnilkbolcknaaGreatDoor.Pm
open Go
theorem mixed:Tryz.prog.follows .mixedOrders=true:=by kernel_rfl
theorem qD:Tryz.prog.follows .mixedOrders=true:=mixed
end Go.Proofs.YtmlnilkbolcknaaGreatDoor.Pm
namespace Go.Proofs.YtmlnilkbolcknaaGreatDoor.Pm
open Go Go.RowKit
theorem rep_opn {P:Program} {c:Cx} {id off:Nat} {v:Value} (h:Rep P c (.opn id off) v):v = .pointer none∨∃ b T,c.own id=some (some b,T)∧v = .pointer (some ⟨b,off,none⟩):=by
 cases h with
 | sh h=>cases h
 | opn h=>exact h
theorem qhe {P:Program} {c:Cx} {p:PV} {vs:Array Value} (h:RL P c [p] vs):vs = #[vs.getD 0 undef]∧Rep P c p (vs.getD 0 undef):=by
 obtain ⟨h1,h2⟩:=h
 refine ⟨?_,h2 0 (by simp)⟩
 apply Array.ext (by simpa using h1)
 intro i hi hj
 have:i=0:=by simp at hj;omega
 subst this
 simp [Array.getD_eq_getD_getElem?,hi]
theorem hSt_over {T:TypeId} {cells:List PV} {R:Hp}:zC [(kb 0,some (.blk T cells))] (ZF (some (T,cells) :: R))=ZF (some (T,cells) :: R):=by
 funext k
 simp only [zC,lk]
 by_cases h:Nat.beq k (kb 0)=true
 ·rw [h,Nat.eq_of_beq_eq_true h];rfl
 ·simp only [h];rfl
theorem YL {P:Program} {c:Cx} {H:Hp} {i:Nat} {T:TypeId} {cells:List PV} {b:Nat} {T2:TypeId} (hh:Heap (wT P c H) (· < H.length) c (ZF H)) (hi:H.getD i none=some (T,cells)) (ho:c.own i=some (some b,T2)) :
  T2=T∧∃ cs:Array Value,c.w.heap[b]? = some (.cells cs T (0,0))∧cells.length≤cs.size∧∀ j,j<cells.length→Rep P c (cells.getD j P0) (cs.getD j undef):=by
 obtain ⟨ob,ho',hone,hbk⟩:=hh.blk i T cells (by rw [QH,hi])
 rw [ho] at ho'
 cases ho'
 rcases hbk with ⟨hb,_⟩|⟨b',cs,hb1,hb2,hb3,hb4⟩
 ·cases hb
 ·obtain rfl:b=b':=by simpa using hb1
  exact ⟨rfl,cs,hb2,hb3,hb4⟩
theorem pc_check {P:Program} {f:FuncId} {T:TypeId} {q:PV} {R:Hp} (hf:FnOk P f)
  (h1:∀ (b:Nat) (w:World),w.cell? ⟨b,0,none⟩=some (.pointer (some ⟨b,0,none⟩))→Calls P f #[.pointer (some ⟨b,0,none⟩)] w fun e w'=>e = .returned (.tuple #[])∧w'=w)
  (h2:∀ (b:Nat) (w:World) (cs:Array Value),w.heap[b]? = some (.cells cs T (0,0))→2≤cs.size→w.cell? ⟨b,0,none⟩=some (.pointer none) →
   Calls P f #[.pointer (some ⟨b,0,none⟩)] w fun e w'=>e = .returned (.tuple #[])∧w'=w.setCell ⟨b,0,none⟩ (.pointer (some ⟨b,0,none⟩))) :
  PC P f [.opt 0 0] (some (T,[.opn 0 0,q]) :: R) (.tup []) (some (T,[.opn 0 0,q]) :: R):=by
 refine ⟨hf,Nat.le_refl _,fun c vs hh hrl=>?_⟩
 obtain ⟨hvs,hv⟩:=qhe hrl
 obtain ⟨b,T2,ho,hv⟩:=vj hv
 rw [hv] at hvs
 obtain ⟨rfl,cs,hb,hsz,hr⟩:=YL (i:=0) hh rfl ho
 have hsz:2≤cs.size:=hsz
 have hcell:c.w.cell? ⟨b,0,none⟩=some (cs.getD 0 undef):=by
  rw [cell_of_row c.w _ _ cs _ _ hb]
  simp [Array.getD_eq_getD_getElem?,show 0<cs.size by omega]
 have ht:∀ {c':Cx},Rep P c' (.tup []) (.tuple #[]):=.tup rfl fun i hi=>by simp at hi
 rw [hvs]
 rcases rep_opn (hr 0 (by simp)) with e|⟨b2,T3,ho2,e⟩
 ·refine (h2 b c.w cs hb hsz (hcell.trans (congrArg some e))).mono ?_
  rintro ee w' ⟨rfl,rfl⟩
  have key:=qea (E:=wT P c (some (T2,[.opn 0 0,q]) :: R)) (g:=ZF (some (T2,[.opn 0 0,q]) :: R)) hh (id:=0) (b:=b) (T:=T2) (cells:=[.opn 0 0,q]) (cells':=[.opn 0 0,q]) rfl ho cs (cs.setIfInBounds 0 (.pointer (some ⟨b,0,none⟩))) (c.w.setCell ⟨b,0,none⟩ (.pointer (some ⟨b,0,none⟩))) hb
   (by show (c.w.heap.modify b _)[b]? = _;rw [Array.getElem?_modify,if_pos rfl,hb];rfl) (by simp) (fun b' hb'=>by show (c.w.heap.modify b _)[b']? = _;rw [Array.getElem?_modify,if_neg (Ne.symm hb')]) (by show (c.w.heap.modify b _).size=_;simp) rfl rfl rfl
   (by obtain ⟨ob,_,hone,_⟩:=hh.blk 0 T2 [.opn 0 0,q] rfl;exact hone) hsz (fun j hj=>by
    have:j=0∨j=1:=by simp at hj;omega
    rcases this with rfl|rfl
    ·rw [show (cs.setIfInBounds 0 (.pointer (some ⟨b,0,none⟩))).getD 0 undef = .pointer (some ⟨b,0,none⟩) by simp [Array.getD_eq_getD_getElem?,show 0<cs.size by omega]]
     exact .opn (.inr ⟨b,T2,ho,rfl⟩)
    ·rw [show (cs.setIfInBounds 0 (.pointer (some ⟨b,0,none⟩))).getD 1 undef=cs.getD 1 undef by simp [Array.getD_eq_getD_getElem?]]
     exact hr 1 (by simp))
  rw [hSt_over] at key
  exact ⟨_,⟨_,c.S,c.own⟩,rfl,rfl,key.2,ht⟩
 ·rw [ho] at ho2
  cases ho2
  refine (h1 b c.w (hcell.trans (congrArg some e))).mono ?_
  rintro ee w' ⟨rfl,rfl⟩
  exact ⟨_,c,rfl,rfl,hh,ht⟩
def qR (l:List UInt8):List PV:=l.map fun b=>.av (.int .u8 b.toNat)
theorem qhv (l:List UInt8):(qR l).length=l.length:=by unfold qR;rw [List.length_map]
theorem byt_app (l m:List UInt8):qR l++qR m=qR (l++m):=by unfold qR;rw [List.map_append]
theorem byt_one (l:List UInt8) (b:UInt8):qR l++[.av (.int .u8 b.toNat)]=qR (l++[b]):=byt_app l [b]
theorem qM (l:List UInt8):YY (qR l):=fun p hp=>by
 obtain ⟨x,_,rfl⟩:=List.mem_map.1 hp
 rfl
theorem pc_string {P:Program} {f:FuncId} {T U:TypeId} {p:PV} {l:List UInt8} (hf:FnOk P f) (hl:l≠[])
  (h1:∀ (b g cap:Nat) (cs cur:Array Value) (w:World),w.heap[b]? = some (.cells cs T (0,0))→1<cs.size→cs.getD 1 undef = .slice (some ⟨g,0,none⟩) l.length cap→w.heap[g]? = some (.cells cur U (0,0))→l.length≤cap→l.length≤cur.size →
   (∀ j x,l[j]? = some x→cur.getD j undef = .int .u8 x.toNat)→Calls P f #[.pointer (some ⟨b,0,none⟩)] w fun e w'=>e = .returned (.string (st l))∧∃ k,w'=(w.drewN k).freeze ⟨g,0,none⟩ l.length) :
  PC P f [.opt 0 0] [some (T,[p,.osl 1 0 l.length]),some (U,qR l)] (.av (.string (st l))) [none,none]:=by
 refine ⟨hf,Nat.le_refl _,fun c vs hh hrl=>?_⟩
 obtain ⟨hvs,hv⟩:=qhe hrl
 obtain ⟨b,T2,ho,hv⟩:=vj hv
 rw [hv] at hvs
 obtain ⟨rfl,cs,hb,hsz,hr⟩:=YL (i:=0) hh rfl ho
 have hsz:2≤cs.size:=hsz
 obtain ⟨ob,U2,ho1,hv1⟩:=jw (show Rep P c (.osl 1 0 l.length) (cs.getD 1 undef) from hr 1 (by simp))
 have hl0:l.length≠0:=by simpa using hl
 rcases hv1 with ⟨_,_,hz⟩|⟨g,cap,cur0,rfl,hsl,_,hcap,_⟩
 ·exact absurd hz hl0
 obtain ⟨rfl,cur,hg,hgs,hgr⟩:=YL (i:=1) hh rfl ho1
 rw [qhv] at hgs hgr
 have hbytes:∀ j x,l[j]? = some x→cur.getD j undef = .int .u8 x.toNat:=fun j x hx=>by
  have hj:j<l.length:=(List.getElem?_eq_some_iff.1 hx).1
  have:=hgr j hj
  have e:(qR l).getD j P0 = .av (.int .u8 x.toNat):=by
   unfold qR
   rw [List.getD_eq_getElem?_getD,List.getElem?_map,hx];rfl
  rw [e] at this
  exact qy this
 rw [hvs]
 refine (h1 b g cap cs cur c.w hb (by omega) hsl hg hcap hgs hbytes).mono ?_
 rintro ee w' ⟨rfl,k,rfl⟩
 have hfz:((c.w.drewN k).freeze ⟨g,0,none⟩ l.length).heap=c.w.heap.modify g fun
   | .cells c elem (lo,hi)=>.cells c elem (if lo == hi then (0,0+l.length) else (min lo 0,max hi (0+l.length)))
   | o=>o:=by
  unfold World.freeze
  rw [if_neg hl0]
  rfl
 have hto:∀ b',b'≠g→((c.w.drewN k).freeze ⟨g,0,none⟩ l.length).heap[b']? = c.w.heap[b']? := fun b' hb'=>by rw [hfz,Array.getElem?_modify,if_neg (Ne.symm hb')]
 have hts:((c.w.drewN k).freeze ⟨g,0,none⟩ l.length).heap.size=c.w.heap.size:=by rw [hfz];simp
 have hos:((c.w.drewN k).freeze ⟨g,0,none⟩ l.length).os=c.w.os:=by unfold World.freeze;rw [if_neg hl0];rfl
 have htp:((c.w.drewN k).freeze ⟨g,0,none⟩ l.length).tape=c.w.tape:=by unfold World.freeze;rw [if_neg hl0];rfl
 have hou:((c.w.drewN k).freeze ⟨g,0,none⟩ l.length).output=c.w.output:=by unfold World.freeze;rw [if_neg hl0];rfl
 have hlive:vD (ZF [some (T2,[p,.osl 1 0 l.length]),some (U2,qR l)]) 1:=⟨U2,qR l,rfl⟩
 have hap:=hh.apart 1 g U2 hlive ho1
 have hno:∀ i,¬ vD (ZF [none,none]) i:=fun i ⟨T',ds,hx⟩=>by
  rw [QH] at hx
  rcases i with _|_|i
  ·cases hx
  ·cases hx
  ·simp at hx
 have hk:Keep c ⟨(c.w.drewN k).freeze ⟨g,0,none⟩ l.length,c.S,c.own⟩:=⟨fun b' hS=>⟨hS,hto b' fun e=>hap.1 (e▸hS)⟩,fun _ _ hx=>hx,fun b' ds T' z hx=>by
  by_cases e:b'=g
  ·subst e
   show ∃ cs' z',((c.w.drewN k).freeze ⟨b',0,none⟩ l.length).heap[b']? = _∧_
   rw [hfz,Array.getElem?_modify,if_pos rfl,hx]
   exact ⟨ds,_,rfl,rfl⟩
  ·exact ⟨ds,z,(hto b' e).trans hx,rfl⟩⟩
 have hbnd:∀ i b' T',c.own i=some (some b',T')→b'<((c.w.drewN k).freeze ⟨g,0,none⟩ l.length).heap.size:=fun i b' T' hx=>by
  rw [hts];exact hh.bnd i b' T' hx
 have hsok:∀ b',c.S b'→b'<((c.w.drewN k).freeze ⟨g,0,none⟩ l.length).heap.size:=fun b' hS=>by
  rw [hts];exact hh.sok b' hS
 have hsame:∀ b',b'<c.w.heap.size→¬ (wT P c [some (T2,[p,.osl 1 0 l.length]),some (U2,qR l)]).Bor b'→((c.w.drewN k).freeze ⟨g,0,none⟩ l.length).heap[b']? = c.w.heap[b']? := fun b' hb1 hB=>hto b' fun e=>hB (by
  subst e
  exact ⟨1,U2,hlive,ho1⟩)
 have hH:Heap (wT P c [some (T2,[p,.osl 1 0 l.length]),some (U2,qR l)]) (· < 2) ⟨(c.w.drewN k).freeze ⟨g,0,none⟩ l.length,c.S,c.own⟩ (ZF [none,none]) :=
  { ids:=hh.ids,blk:=fun i T' ds hx=>absurd ⟨T',ds,hx⟩ (hno i),inj:=fun i j b' T' T3 l1=>absurd l1 (hno i),apart:=fun i b' T' l1=>absurd l1 (hno i),bnd:=hbnd,sok:=hsok,
    os:=hos.trans hh.os,tape:=htp.trans hh.tape,output:=hou.trans hh.output,size:=by show _≤_;rw [hts];exact hh.size,same:=hsame,laid:=hh.laid,s0:=hh.s0,s1:=hh.s1,keep:=hh.keep.trans hk }
 exact ⟨_,⟨(c.w.drewN k).freeze ⟨g,0,none⟩ l.length,c.S,c.own⟩,rfl,rfl,hH,.sh (.av _)⟩
theorem pc_string0 {P:Program} {f:FuncId} {T:TypeId} {p:PV} (hf:FnOk P f)
  (h1:∀ (b:Nat) (w:World),w.cell? ⟨b,1,none⟩=some (.slice none 0 0)→Calls P f #[.pointer (some ⟨b,0,none⟩)] w fun e w'=>e = .returned (.string (st []))∧∃ k,w'=w.drewN k) :
  PC P f [.opt 0 0] [some (T,[p,.av (.slice none 0 0)])] (.av (.string (st []))) [some (T,[p,.av (.slice none 0 0)])]:=by
 refine ⟨hf,Nat.le_refl _,fun c vs hh hrl=>?_⟩
 obtain ⟨hvs,hv⟩:=qhe hrl
 obtain ⟨b,T2,ho,hv⟩:=vj hv
 rw [hv] at hvs
 obtain ⟨rfl,cs,hb,hsz,hr⟩:=YL (i:=0) hh rfl ho
 have hsz:2≤cs.size:=hsz
 have hcell:c.w.cell? ⟨b,1,none⟩=some (.slice none 0 0):=by
  rw [cell_of_row c.w _ _ cs _ _ hb]
  have:=qy (hr 1 (by simp))
  rw [← this]
  simp [Array.getD_eq_getD_getElem?,show 1<cs.size by omega]
 rw [hvs]
 refine (h1 b c.w hcell).mono ?_
 rintro ee w' ⟨rfl,k,rfl⟩
 have hk:Keep c ⟨c.w.drewN k,c.S,c.own⟩:=⟨fun b' hS=>⟨hS,rfl⟩,fun _ _ hx=>hx,fun b' ds T' z hx=>⟨ds,z,hx,rfl⟩⟩
 have hblk:∀ i T' ds,ZF [some (T2,[p,.av (.slice none 0 0)])] (kb i)=some (.blk T' ds)→∃ ob,c.own i=some (ob,T')∧BlkOk P ⟨c.w.drewN k,c.S,c.own⟩ ob T' ds:=fun i T' ds hx=>by
  obtain ⟨ob,h1,h2⟩:=hh.blk i T' ds hx
  exact ⟨ob,h1,h2.mono hk fun _ _=>rfl⟩
 have hH:Heap (wT P c [some (T2,[p,.av (.slice none 0 0)])]) (· < 1) ⟨c.w.drewN k,c.S,c.own⟩ (ZF [some (T2,[p,.av (.slice none 0 0)])]) :=
  { ids:=hh.ids,blk:=hblk,inj:=hh.inj,apart:=hh.apart,bnd:=hh.bnd,sok:=hh.sok,os:=hh.os,tape:=hh.tape,output:=hh.output,size:=hh.size,same:=hh.same,laid:=hh.laid,s0:=hh.s0,s1:=hh.s1,keep:=hh.keep.trans hk }
 exact ⟨_,⟨c.w.drewN k,c.S,c.own⟩,rfl,rfl,hH,.sh (.av _)⟩
section
variable {P:Program} {n:Nat} {c0:Cx} {Bor:BorD} {n0:Nat} {l:L}
theorem Wk.cell (id j:Nat) (p q:PV) {B:TypeId} {cells:List PV} (hs:get l (kb id)=some (.blk B cells)) (hj:cells[j]? = some p) (hq1:q.one=true) (hr:∀ c v,Rep P c p v→Rep P c q v) :
  Wk P n c0 Bor n0 l n0 ([(kb id,some (.blk B (cells.set j q)))]++l):=fun cx a hI=>by
 refine ⟨cx,rfl,?_⟩
 have hge:∀ k,get ([(kb id,some (.blk B (cells.set j q)))]++l) k=if Nat.beq k (kb id) then some (.blk B (cells.set j q)) else get l k:=fun k=>by
  rw [vI]
  simp only [zC,lk]
  by_cases h1:Nat.beq k (kb id)=true
  ·simp [h1]
  ·simp only [h1];rfl
 have hb:∀ i,get ([(kb id,some (.blk B (cells.set j q)))]++l) (kb i)=if i=id then some (.blk B (cells.set j q)) else get l (kb i):=fun i=>by
  rw [hge,ZV];by_cases e:i=id <;> simp [e]
 have hsl:∀ s,get ([(kb id,some (.blk B (cells.set j q)))]++l) (Pm.ks s)=get l (Pm.ks s):=fun s=>by
  rw [hge,jD,if_neg (by simp)]
 have hl:∀ i,vD (get ([(kb id,some (.blk B (cells.set j q)))]++l)) i→vD (get l) i:=fun i ⟨T',cs,hx⟩=>by
  rw [hb] at hx
  by_cases e:i=id
  ·subst e;exact ⟨B,cells,hs⟩
  ·rw [if_neg e] at hx;exact ⟨T',cs,hx⟩
 have hh:=hI.toHeap
 exact { ids:=hh.ids
         blk:=fun i T' cs hx=>by
           rw [hb] at hx
           by_cases e:i=id
           · subst e
             rw [if_pos rfl] at hx
             cases hx
             obtain ⟨ob,h1,h2,h3⟩:=hh.blk i B cells hs
             refine ⟨ob,h1,fun p hp=>?_,?_⟩
             · rcases List.mem_or_eq_of_mem_set hp with h|h
               · exact h2 p h
               · rw [h];exact hq1
             · rcases h3 with ⟨_,h4⟩|⟨b,arr,h4,h5,h6,h7⟩
               · rw [h4] at hj;simp at hj
               · refine .inr ⟨b,arr,h4,h5,by rw [List.length_set];exact h6,fun k hk=>?_⟩
                 rw [List.length_set] at hk
                 by_cases e:k=j
                 · subst e
                   have h8:=h7 k hk
                   have e2:cells.getD k P0=p:=by rw [List.getD_eq_getElem?_getD,hj];rfl
                   rw [e2] at h8
                   rw [show (cells.set k q).getD k P0=q from by rw [List.getD_eq_getElem?_getD,List.getElem?_set_self hk];rfl]
                   exact hr _ _ h8
                 · rw [show (cells.set j q).getD k P0=cells.getD k P0 from by rw [List.getD_eq_getElem?_getD,List.getD_eq_getElem?_getD,List.getElem?_set_ne (Ne.symm e)]]
                   exact h7 k hk
           · rw [if_neg e] at hx
             exact hh.blk i T' cs hx
         inj:=fun i j b T T' l1 l2=>hh.inj i j b T T' (hl i l1) (hl j l2),apart:=fun i b T l1=>hh.apart i b T (hl i l1),bnd:=hh.bnd,sok:=hh.sok,
         os:=hh.os,tape:=hh.tape,output:=hh.output,size:=hh.size,same:=hh.same,laid:=hh.laid,s0:=hh.s0,s1:=hh.s1,keep:=hh.keep,tmps:=hI.tmps,dfr:=hI.dfr
         slot:=fun s' p hp=>by
           rw [hsl] at hp
           exact hI.slot s' p hp
         isv:=fun s' x hx=>by
           rw [hsl] at hx
           exact hI.isv s' x hx }
theorem Wk.opnc (id j i off:Nat) {B:TypeId} {cells:List PV} (hs:get l (kb id)=some (.blk B cells)) (hj:cells[j]? = some (.av (.pointer none))):Wk P n c0 Bor n0 l n0 ([(kb id,some (.blk B (cells.set j (.opn i off))))]++l) :=
 Wk.cell id j (.av (.pointer none)) (.opn i off) hs hj rfl fun _ _ h=>.opn (.inl (qy h))
end
set_option maxRecDepth 100000
set_option maxHeartbeats 4000000
set_option maxHeartbeats 1000000 in
theorem cc_used (b:Nat) (w:World) (h0:w.cell? ⟨b,0,none⟩=some (.pointer (some ⟨b,0,none⟩))) :
  Calls Tryz.prog 60 #[.pointer (some ⟨b,0,none⟩)] w fun e w'=>e = .returned (.tuple #[])∧w'=w:=by
 obtain ⟨j,hj,_⟩:=Option.map_eq_some_iff.1 (show (Tryz.prog.info? 75).map (·.size)=some 2 by kernel_rfl)
 go_enter Tryz.func60,Tryz.ntmps60
 go_wp2
 rw [Lib.run_neq_ptr_same w _ Tryz.underlying72 hj]
 go_wp2
 go_end0
 exact ⟨rfl,rfl⟩
theorem row_lies:∀ {n:Nat},2≤n→liesAt Tryz.prog Tryz.prog.depth 77 (n / Tryz.prog.cellsOf 77) 0 75 1=true:=by
 intro n hn
 have hd:Tryz.prog.depth=Tryz.prog.depth-1+1:=by
  have:1≤Tryz.prog.depth:=by decide +kernel
  omega
 have hc:Tryz.prog.cellsOf 77=2:=by kernel_rfl
 have h1:rowAt Tryz.prog (sameLayout Tryz.prog Tryz.prog.depth · 75) Tryz.prog.depth 77 1 0 1=true:=by kernel_rfl
 have mono:∀ {d e m:Nat} {fits:TypeId→Bool},1≤m→rowAt Tryz.prog fits d e 1 0 1=true→rowAt Tryz.prog fits d e m 0 1=true:=by
  intro d e m fits hm h
  cases d with
  | zero=>cases h
  | succ d =>
   unfold rowAt at h ⊢
   dsimp only at h ⊢
   split at h
   ·cases h
   ·rename_i hs
    rw [if_neg hs]
    simp only [Nat.zero_div,Nat.zero_mod,Nat.zero_add,Bool.or_eq_true,Bool.and_eq_true,decide_eq_true_eq,Nat.zero_lt_one,true_and,Nat.le_refl] at h ⊢
    rcases h with h|h
    ·exact .inl ⟨⟨h.1.1,hm⟩,h.2⟩
    ·exact .inr ⟨by omega,h⟩
 rw [hd]
 unfold liesAt
 rw [hc,mono (m:=n / 2) (by omega) h1]
 rfl
set_option maxHeartbeats 1000000 in
theorem cc_fresh (b:Nat) (w:World) (cs:Array Value) (hb:w.heap[b]? = some (.cells cs 77 (0,0))) (hn:2≤cs.size) (h0:w.cell? ⟨b,0,none⟩=some (.pointer none)) :
  Calls Tryz.prog 60 #[.pointer (some ⟨b,0,none⟩)] w fun e w'=>e = .returned (.tuple #[])∧w'=w.setCell ⟨b,0,none⟩ (.pointer (some ⟨b,0,none⟩)):=by
 obtain ⟨j,hj,hjs⟩:=Option.map_eq_some_iff.1 (show (Tryz.prog.info? 75).map (·.size)=some 2 by kernel_rfl)
 have hsh:w.shape? b=some (77,cs.size):=by simp [World.shape?,hb]
 have hfz:w.frozen? ⟨b,0,none⟩=false:=Lib.frozen_of_heap hb 0
 have hlies:=row_lies hn
 clear hb
 go_enter Tryz.func60,Tryz.ntmps60
 go_wp2
 rw [Lib.run_to_unsafe w ⟨b,0,none⟩ Tryz.underlying72 Tryz.underlying149 hj (by rw [hjs];decide) hsh (by show 0<cs.size;omega)]
 simp only [Result.andThen]
 rw [Oper.upon_value]
 go_wp2
 rw [run_callFunc_extern Tryz.func93 (by kernel_rfl) (by kernel_rfl) (by kernel_rfl) (e:=Extern.AbiNoEscape.same) (by kernel_rfl)]
 rw [Lib.run_noEscape]
 simp only [Result.andThen]
 rw [Oper.upon_value]
 go_wp2
 rw [Lib.run_from_unsafe w ⟨b,0,none⟩ Tryz.underlying149 Tryz.underlying72 hj hsh hlies]
 simp only [Result.andThen]
 rw [Oper.upon_value]
 go_wp2
 go_end0
 exact ⟨rfl,rfl⟩
theorem qkk (q:PV) (R:Hp):PC Tryz.prog 60 [.opt 0 0] (some (77,[.opn 0 0,q]) :: R) (.tup []) (some (77,[.opn 0 0,q]) :: R) :=
 pc_check (ww Tryz.func60 (by kernel_rfl) (by kernel_rfl)) cc_used cc_fresh
set_option maxHeartbeats 2000000 in
theorem str_some (b g cap:Nat) (cs cur:Array Value) (l:List UInt8) (w:World) (hb:w.heap[b]? = some (.cells cs 77 (0,0))) (hn:1<cs.size) (hsl:cs.getD 1 undef = .slice (some ⟨g,0,none⟩) l.length cap) (hg:w.heap[g]? = some (.cells cur 5 (0,0)))
  (hcap:l.length≤cap) (hcs:l.length≤cur.size) (hbytes:∀ j x,l[j]? = some x→cur.getD j undef = .int .u8 x.toNat) (h0:l≠[]) (h63:l.length≤140737488355328) :
  Calls Tryz.prog 32 #[.pointer (some ⟨b,0,none⟩)] w fun e w'=>e = .returned (.string (st l))∧∃ k,w'=(w.drewN k).freeze ⟨g,0,none⟩ l.length:=by
 have hl0:l.length≠0:=by simpa using h0
 have c1:w.drew.cell? ⟨b,1,none⟩=some (.slice (some ⟨g,0,none⟩) l.length cap):=by
  have hb':w.drew.heap[b]? = some (.cells cs 77 (0,0)):=hb
  rw [Lib.cell_of_heap hb',← hsl,Array.getD_eq_getD_getElem?,Array.getElem?_eq_getElem hn]
  rfl
 have hSD:(Builtin.unsafeSliceData_ #[73] 120 #[.slice (some ⟨g,0,none⟩) l.length cap]).run Tryz.prog w.drew = .ok (.pointer (some ⟨g,0,none⟩)) w.drew :=
  Lib.run_unsafeSliceData_row _ _ _ _ _ _ (by omega)
 have hUS:(Builtin.unsafeString_ #[120,3] 9 #[.pointer (some ⟨g,0,none⟩),.int .i64 l.length]).run Tryz.prog w.drew = .ok (.string (st l)) (w.drew.freeze ⟨g,0,none⟩ l.length):=by
  refine Lib.run_unsafeString_row w.drew 120 3 9 5 Tryz.underlying120 (by kernel_rfl) g cur.size (by have hg':w.drew.heap[g]? = some (.cells cur 5 (0,0)):=hg;simp [World.shape?,hg']) l h0 (by omega) (by omega) ?_
  intro j x hx
  have hg':w.drew.heap[g]? = some (.cells cur 5 (0,0)):=hg
  have hj:j<l.length:=(List.getElem?_eq_some_iff.1 hx).1
  have:=hbytes j x hx
  rw [wD,Nat.zero_add,Lib.cell_of_heap hg',← this,Array.getD_eq_getD_getElem?,Array.getElem?_eq_getElem (show j<cur.size by omega)]
  rfl
 clear hb hsl hg hcap hcs hbytes h0 h63 hl0
 go_enter Tryz.func32,Tryz.ntmps32
 go_wp2
 go_region
 all_goals (go_wp2;go_ret;exact ⟨rfl,1,rfl⟩)
theorem string_pc (p:PV) (l:List UInt8) (h0:l≠[]) (hl:l.length≤140737488355328):PC Tryz.prog 32 [.opt 0 0] [some (77,[p,.osl 1 0 l.length]),some (5,qR l)] (.av (.string (st l))) [none,none] :=
 pc_string (ww Tryz.func32 (by kernel_rfl) (by kernel_rfl)) h0 fun b g cap cs cur w h1 h2 h3 h4 h5 h6 h7=>str_some b g cap cs cur l w h1 h2 h3 h4 h5 h6 h7 h0 hl
set_option maxHeartbeats 2000000 in
theorem str_none (b:Nat) (w:World) (h0:w.cell? ⟨b,1,none⟩=some (.slice none 0 0)) :
  Calls Tryz.prog 32 #[.pointer (some ⟨b,0,none⟩)] w fun e w'=>e = .returned (.string (st []))∧∃ k,w'=w.drewN k:=by
 have c1:w.drew.cell? ⟨b,1,none⟩=some (.slice none 0 0):=h0
 have hSD:(Builtin.unsafeSliceData_ #[73] 120 #[.slice none 0 0]).run Tryz.prog w.drew = .ok (.pointer none) w.drew:=rfl
 have hUS:∀ W,(Builtin.unsafeString_ #[120,3] 9 #[.pointer none,.int .i64 0]).run Tryz.prog W = .ok (.string .empty) W:=fun W=>Lib.run_unsafeString_none W _ _ _ none
 go_enter Tryz.func32,Tryz.ntmps32
 go_wp2
 go_region
 all_goals (go_wp2;go_ret;exact ⟨rfl,1,rfl⟩)
theorem qkw (p:PV):PC Tryz.prog 32 [.opt 0 0] [some (77,[p,.av (.slice none 0 0)])] (.av (.string (st []))) [some (77,[p,.av (.slice none 0 0)])] :=
 pc_string0 (ww Tryz.func32 (by kernel_rfl) (by kernel_rfl)) str_none
end Go.Proofs.YtmlnilkbolcknaaGreatDoor.Pm
namespace Go.Proofs
open Go.Shelf
def Tryz.lays99_ren:Go.Shelf.Ren:=⟨fun|99=>147|206=>168|n=>n,fun|9=>9|4=>4|3=>3|n=>n,fun|n=>n⟩
theorem Tryz.lays99:Go.Proofs.Lays.n99 Tryz.prog Tryz.lays99_ren:={
  mixed:=by kernel_rfl,
  f99:=Tryz.func147.trans (congrArg some (by kernel_rfl)),
  f206:=Tryz.func168.trans (congrArg some (by kernel_rfl)),
  t3:=Tryz.underlying3,
  a3:=Tryz.isAgg3,
  z3:=Tryz.sizeOf3,
  v3:=Tryz.zeroValue3,
  t4:=Tryz.underlying4,
  a4:=Tryz.isAgg4,
  z4:=Tryz.sizeOf4,
  v4:=Tryz.zeroValue4,
  t9:=Tryz.underlying9,
  a9:=Tryz.isAgg9,
  z9:=Tryz.sizeOf9,
  v9:=Tryz.zeroValue9 }
def Tryz.lays101_ren:Go.Shelf.Ren:=⟨fun|101=>162|208=>178|206=>168|n=>n,fun|9=>9|4=>4|3=>3|n=>n,fun|n=>n⟩
theorem Tryz.lays101:Go.Proofs.Lays.n101 Tryz.prog Tryz.lays101_ren:={
  mixed:=by kernel_rfl,
  f101:=Tryz.func162.trans (congrArg some (by kernel_rfl)),
  f206:=Tryz.func168.trans (congrArg some (by kernel_rfl)),
  f208:=Tryz.func178.trans (congrArg some (by kernel_rfl)),
  t3:=Tryz.underlying3,
  a3:=Tryz.isAgg3,
  z3:=Tryz.sizeOf3,
  v3:=Tryz.zeroValue3,
  t4:=Tryz.underlying4,
  a4:=Tryz.isAgg4,
  z4:=Tryz.sizeOf4,
  v4:=Tryz.zeroValue4,
  t9:=Tryz.underlying9,
  a9:=Tryz.isAgg9,
  z9:=Tryz.sizeOf9,
  v9:=Tryz.zeroValue9 }
def Tryz.lays143_ren:Go.Shelf.Ren:=⟨fun|143=>181|219=>188|217=>172|225=>159|224=>158|267=>191|266=>184|314=>192|n=>n,fun|9=>9|3=>3|4=>4|5=>5|46=>191|146=>209|51=>198|n=>n,fun|1=>3|n=>n⟩
theorem Tryz.lays143:Go.Proofs.Lays.n143 Tryz.prog Tryz.lays143_ren:={
  mixed:=by kernel_rfl,
  f143:=Tryz.func181.trans (congrArg some (by kernel_rfl)),
  f217:=Tryz.func172.trans (congrArg some (by kernel_rfl)),
  f219:=Tryz.func188.trans (congrArg some (by kernel_rfl)),
  f224:=Tryz.func158.trans (congrArg some (by kernel_rfl)),
  f225:=Tryz.func159.trans (congrArg some (by kernel_rfl)),
  f266:=Tryz.func184.trans (congrArg some (by kernel_rfl)),
  f267:=Tryz.func191.trans (congrArg some (by kernel_rfl)),
  f314:=Tryz.func192.trans (congrArg some (by kernel_rfl)),
  t3:=Tryz.underlying3,
  a3:=Tryz.isAgg3,
  z3:=Tryz.sizeOf3,
  v3:=Tryz.zeroValue3,
  t4:=Tryz.underlying4,
  a4:=Tryz.isAgg4,
  z4:=Tryz.sizeOf4,
  v4:=Tryz.zeroValue4,
  t5:=Tryz.underlying5,
  a5:=Tryz.isAgg5,
  z5:=Tryz.sizeOf5,
  v5:=Tryz.zeroValue5,
  t9:=Tryz.underlying9,
  a9:=Tryz.isAgg9,
  z9:=Tryz.sizeOf9,
  v9:=Tryz.zeroValue9,
  t46:=Tryz.underlying191,
  a46:=Tryz.isAgg191,
  z46:=Tryz.sizeOf191,
  v46:=Tryz.zeroValue191,
  t51:=Tryz.underlying198,
  a51:=Tryz.isAgg198,
  z51:=Tryz.sizeOf198,
  v51:=Tryz.zeroValue198,
  t146:=Tryz.underlying209,
  a146:=Tryz.isAgg209,
  z146:=Tryz.sizeOf209,
  v146:=Tryz.zeroValue209,
  g1:=by kernel_rfl }
def Tryz.lays144_ren:Go.Shelf.Ren:=⟨fun|144=>180|143=>181|219=>188|217=>172|225=>159|224=>158|267=>191|266=>184|314=>192|n=>n,fun|9=>9|4=>4|3=>3|5=>5|46=>191|146=>209|51=>198|n=>n,fun|1=>3|n=>n⟩
theorem Tryz.lays144:Go.Proofs.Lays.n144 Tryz.prog Tryz.lays144_ren:={
  mixed:=by kernel_rfl,
  f143:=Tryz.func181.trans (congrArg some (by kernel_rfl)),
  f144:=Tryz.func180.trans (congrArg some (by kernel_rfl)),
  f217:=Tryz.func172.trans (congrArg some (by kernel_rfl)),
  f219:=Tryz.func188.trans (congrArg some (by kernel_rfl)),
  f224:=Tryz.func158.trans (congrArg some (by kernel_rfl)),
  f225:=Tryz.func159.trans (congrArg some (by kernel_rfl)),
  f266:=Tryz.func184.trans (congrArg some (by kernel_rfl)),
  f267:=Tryz.func191.trans (congrArg some (by kernel_rfl)),
  f314:=Tryz.func192.trans (congrArg some (by kernel_rfl)),
  t3:=Tryz.underlying3,
  a3:=Tryz.isAgg3,
  z3:=Tryz.sizeOf3,
  v3:=Tryz.zeroValue3,
  t4:=Tryz.underlying4,
  a4:=Tryz.isAgg4,
  z4:=Tryz.sizeOf4,
  v4:=Tryz.zeroValue4,
  t5:=Tryz.underlying5,
  a5:=Tryz.isAgg5,
  z5:=Tryz.sizeOf5,
  v5:=Tryz.zeroValue5,
  t9:=Tryz.underlying9,
  a9:=Tryz.isAgg9,
  z9:=Tryz.sizeOf9,
  v9:=Tryz.zeroValue9,
  t46:=Tryz.underlying191,
  a46:=Tryz.isAgg191,
  z46:=Tryz.sizeOf191,
  v46:=Tryz.zeroValue191,
  t51:=Tryz.underlying198,
  a51:=Tryz.isAgg198,
  z51:=Tryz.sizeOf198,
  v51:=Tryz.zeroValue198,
  t146:=Tryz.underlying209,
  a146:=Tryz.isAgg209,
  z146:=Tryz.sizeOf209,
  v146:=Tryz.zeroValue209,
  g1:=by kernel_rfl }
def Tryz.lays160_ren:Go.Shelf.Ren:=⟨fun|160=>57|232=>83|231=>82|227=>84|234=>86|233=>85|236=>88|235=>87|228=>115|271=>118|151=>117|197=>116|120=>145|152=>135|260=>144|137=>156|119=>157|224=>158|225=>159|217=>172|266=>184|n=>n,fun|9=>9|4=>4|3=>3|5=>5|117=>145|116=>144|0=>0|124=>148|21=>21|105=>170|46=>191|119=>205|139=>208|138=>207|n=>n,fun|3=>1|4=>2|n=>n⟩
theorem Tryz.lays160:Go.Proofs.Lays.n160 Tryz.prog Tryz.lays160_ren:={
  mixed:=by kernel_rfl,
  f119:=Tryz.func157.trans (congrArg some (by kernel_rfl)),
  f120:=Tryz.func145.trans (congrArg some (by kernel_rfl)),
  f137:=Tryz.func156.trans (congrArg some (by kernel_rfl)),
  f151:=Tryz.func117.trans (congrArg some (by kernel_rfl)),
  f152:=Tryz.func135.trans (congrArg some (by kernel_rfl)),
  f160:=Tryz.func57.trans (congrArg some (by kernel_rfl)),
  f197:=Tryz.func116.trans (congrArg some (by kernel_rfl)),
  f217:=Tryz.func172.trans (congrArg some (by kernel_rfl)),
  f224:=Tryz.func158.trans (congrArg some (by kernel_rfl)),
  f225:=Tryz.func159.trans (congrArg some (by kernel_rfl)),
  f227:=Tryz.func84.trans (congrArg some (by kernel_rfl)),
  f228:=Tryz.func115.trans (congrArg some (by kernel_rfl)),
  f231:=Tryz.func82.trans (congrArg some (by kernel_rfl)),
  f232:=Tryz.func83.trans (congrArg some (by kernel_rfl)),
  f233:=Tryz.func85.trans (congrArg some (by kernel_rfl)),
  f234:=Tryz.func86.trans (congrArg some (by kernel_rfl)),
  f235:=Tryz.func87.trans (congrArg some (by kernel_rfl)),
  f236:=Tryz.func88.trans (congrArg some (by kernel_rfl)),
  f260:=Tryz.func144.trans (congrArg some (by kernel_rfl)),
  f266:=Tryz.func184.trans (congrArg some (by kernel_rfl)),
  f271:=Tryz.func118.trans (congrArg some (by kernel_rfl)),
  t0:=Tryz.underlying0,
  a0:=Tryz.isAgg0,
  z0:=Tryz.sizeOf0,
  v0:=Tryz.zeroValue0,
  t3:=Tryz.underlying3,
  a3:=Tryz.isAgg3,
  z3:=Tryz.sizeOf3,
  v3:=Tryz.zeroValue3,
  t4:=Tryz.underlying4,
  a4:=Tryz.isAgg4,
  z4:=Tryz.sizeOf4,
  v4:=Tryz.zeroValue4,
  t5:=Tryz.underlying5,
  a5:=Tryz.isAgg5,
  z5:=Tryz.sizeOf5,
  v5:=Tryz.zeroValue5,
  t9:=Tryz.underlying9,
  a9:=Tryz.isAgg9,
  z9:=Tryz.sizeOf9,
  v9:=Tryz.zeroValue9,
  t21:=Tryz.underlying21,
  a21:=Tryz.isAgg21,
  z21:=Tryz.sizeOf21,
  v21:=Tryz.zeroValue21,
  t46:=Tryz.underlying191,
  a46:=Tryz.isAgg191,
  z46:=Tryz.sizeOf191,
  v46:=Tryz.zeroValue191,
  t105:=Tryz.underlying170,
  a105:=Tryz.isAgg170,
  z105:=Tryz.sizeOf170,
  v105:=Tryz.zeroValue170,
  t116:=Tryz.underlying144,
  a116:=Tryz.isAgg144,
  z116:=Tryz.sizeOf144,
  t117:=Tryz.underlying145,
  a117:=Tryz.isAgg145,
  z117:=Tryz.sizeOf145,
  v117:=Tryz.zeroValue145,
  t119:=Tryz.underlying205,
  a119:=Tryz.isAgg205,
  z119:=Tryz.sizeOf205,
  t124:=Tryz.underlying148,
  a124:=Tryz.isAgg148,
  z124:=Tryz.sizeOf148,
  v124:=Tryz.zeroValue148,
  t138:=Tryz.underlying207,
  a138:=Tryz.isAgg207,
  z138:=Tryz.sizeOf207,
  v138:=Tryz.zeroValue207,
  t139:=Tryz.underlying208,
  a139:=Tryz.isAgg208,
  z139:=Tryz.sizeOf208,
  v139:=Tryz.zeroValue208,
  g3:=by kernel_rfl,
  g4:=by kernel_rfl }
def Tryz.lays161_ren:Go.Shelf.Ren:=⟨fun|161=>163|231=>82|227=>84|233=>85|235=>87|228=>115|197=>116|151=>117|260=>144|152=>135|137=>156|119=>157|224=>158|225=>159|217=>172|266=>184|n=>n,fun|9=>9|4=>4|3=>3|5=>5|117=>145|116=>144|0=>0|124=>148|105=>170|21=>21|119=>205|46=>191|139=>208|138=>207|n=>n,fun|3=>1|4=>2|n=>n⟩
theorem Tryz.lays161:Go.Proofs.Lays.n161 Tryz.prog Tryz.lays161_ren:={
  mixed:=by kernel_rfl,
  f119:=Tryz.func157.trans (congrArg some (by kernel_rfl)),
  f137:=Tryz.func156.trans (congrArg some (by kernel_rfl)),
  f151:=Tryz.func117.trans (congrArg some (by kernel_rfl)),
  f152:=Tryz.func135.trans (congrArg some (by kernel_rfl)),
  f161:=Tryz.func163.trans (congrArg some (by kernel_rfl)),
  f197:=Tryz.func116.trans (congrArg some (by kernel_rfl)),
  f217:=Tryz.func172.trans (congrArg some (by kernel_rfl)),
  f224:=Tryz.func158.trans (congrArg some (by kernel_rfl)),
  f225:=Tryz.func159.trans (congrArg some (by kernel_rfl)),
  f227:=Tryz.func84.trans (congrArg some (by kernel_rfl)),
  f228:=Tryz.func115.trans (congrArg some (by kernel_rfl)),
  f231:=Tryz.func82.trans (congrArg some (by kernel_rfl)),
  f233:=Tryz.func85.trans (congrArg some (by kernel_rfl)),
  f235:=Tryz.func87.trans (congrArg some (by kernel_rfl)),
  f260:=Tryz.func144.trans (congrArg some (by kernel_rfl)),
  f266:=Tryz.func184.trans (congrArg some (by kernel_rfl)),
  t0:=Tryz.underlying0,
  a0:=Tryz.isAgg0,
  z0:=Tryz.sizeOf0,
  v0:=Tryz.zeroValue0,
  t3:=Tryz.underlying3,
  a3:=Tryz.isAgg3,
  z3:=Tryz.sizeOf3,
  v3:=Tryz.zeroValue3,
  t4:=Tryz.underlying4,
  a4:=Tryz.isAgg4,
  z4:=Tryz.sizeOf4,
  v4:=Tryz.zeroValue4,
  t5:=Tryz.underlying5,
  a5:=Tryz.isAgg5,
  z5:=Tryz.sizeOf5,
  v5:=Tryz.zeroValue5,
  t9:=Tryz.underlying9,
  a9:=Tryz.isAgg9,
  z9:=Tryz.sizeOf9,
  v9:=Tryz.zeroValue9,
  t21:=Tryz.underlying21,
  a21:=Tryz.isAgg21,
  z21:=Tryz.sizeOf21,
  v21:=Tryz.zeroValue21,
  t46:=Tryz.underlying191,
  a46:=Tryz.isAgg191,
  z46:=Tryz.sizeOf191,
  v46:=Tryz.zeroValue191,
  t105:=Tryz.underlying170,
  a105:=Tryz.isAgg170,
  z105:=Tryz.sizeOf170,
  v105:=Tryz.zeroValue170,
  t116:=Tryz.underlying144,
  a116:=Tryz.isAgg144,
  z116:=Tryz.sizeOf144,
  t117:=Tryz.underlying145,
  a117:=Tryz.isAgg145,
  z117:=Tryz.sizeOf145,
  v117:=Tryz.zeroValue145,
  t119:=Tryz.underlying205,
  a119:=Tryz.isAgg205,
  z119:=Tryz.sizeOf205,
  t124:=Tryz.underlying148,
  a124:=Tryz.isAgg148,
  z124:=Tryz.sizeOf148,
  v124:=Tryz.zeroValue148,
  t138:=Tryz.underlying207,
  a138:=Tryz.isAgg207,
  z138:=Tryz.sizeOf207,
  v138:=Tryz.zeroValue207,
  t139:=Tryz.underlying208,
  a139:=Tryz.isAgg208,
  z139:=Tryz.sizeOf208,
  v139:=Tryz.zeroValue208,
  g3:=by kernel_rfl,
  g4:=by kernel_rfl }
def Tryz.lays105_ren:Go.Shelf.Ren:=⟨fun|105=>124|212=>146|99=>147|165=>148|166=>27|170=>31|169=>32|263=>166|264=>167|206=>168|240=>60|241=>169|276=>93|277=>183|n=>n,fun|9=>9|3=>3|4=>4|20=>20|0=>0|46=>191|109=>192|5=>5|72=>75|76=>80|51=>198|146=>209|53=>178|148=>211|70=>72|37=>73|75=>79|127=>120|164=>149|80=>86|n=>n,fun|n=>n⟩
theorem Tryz.lays105:Go.Proofs.Lays.n105 Tryz.prog Tryz.lays105_ren:={
  mixed:=by kernel_rfl,
  f99:=Tryz.func147.trans (congrArg some (by kernel_rfl)),
  f105:=Tryz.func124.trans (congrArg some (by kernel_rfl)),
  f165:=Tryz.func148.trans (congrArg some (by kernel_rfl)),
  f166:=Tryz.func27.trans (congrArg some (by kernel_rfl)),
  f169:=Tryz.func32.trans (congrArg some (by kernel_rfl)),
  f170:=Tryz.func31.trans (congrArg some (by kernel_rfl)),
  f206:=Tryz.func168.trans (congrArg some (by kernel_rfl)),
  f212:=Tryz.func146.trans (congrArg some (by kernel_rfl)),
  f240:=Tryz.func60.trans (congrArg some (by kernel_rfl)),
  f241:=Tryz.func169.trans (congrArg some (by kernel_rfl)),
  f263:=Tryz.func166.trans (congrArg some (by kernel_rfl)),
  f264:=Tryz.func167.trans (congrArg some (by kernel_rfl)),
  f276:=Tryz.func93.trans (congrArg some (by kernel_rfl)),
  f277:=Tryz.func183.trans (congrArg some (by kernel_rfl)),
  t0:=Tryz.underlying0,
  a0:=Tryz.isAgg0,
  z0:=Tryz.sizeOf0,
  v0:=Tryz.zeroValue0,
  t3:=Tryz.underlying3,
  a3:=Tryz.isAgg3,
  z3:=Tryz.sizeOf3,
  v3:=Tryz.zeroValue3,
  t4:=Tryz.underlying4,
  a4:=Tryz.isAgg4,
  z4:=Tryz.sizeOf4,
  v4:=Tryz.zeroValue4,
  t5:=Tryz.underlying5,
  a5:=Tryz.isAgg5,
  z5:=Tryz.sizeOf5,
  v5:=Tryz.zeroValue5,
  t9:=Tryz.underlying9,
  a9:=Tryz.isAgg9,
  z9:=Tryz.sizeOf9,
  v9:=Tryz.zeroValue9,
  t20:=Tryz.underlying20,
  a20:=Tryz.isAgg20,
  z20:=Tryz.sizeOf20,
  v20:=Tryz.zeroValue20,
  t37:=Tryz.underlying73,
  a37:=Tryz.isAgg73,
  z37:=Tryz.sizeOf73,
  v37:=Tryz.zeroValue73,
  t46:=Tryz.underlying191,
  a46:=Tryz.isAgg191,
  z46:=Tryz.sizeOf191,
  v46:=Tryz.zeroValue191,
  t51:=Tryz.underlying198,
  a51:=Tryz.isAgg198,
  z51:=Tryz.sizeOf198,
  v51:=Tryz.zeroValue198,
  t53:=Tryz.underlying178,
  a53:=Tryz.isAgg178,
  z53:=Tryz.sizeOf178,
  v53:=Tryz.zeroValue178,
  t70:=Tryz.underlying72,
  a70:=Tryz.isAgg72,
  z70:=Tryz.sizeOf72,
  v70:=Tryz.zeroValue72,
  t72:=Tryz.underlying75,
  a72:=Tryz.isAgg75,
  z72:=Tryz.sizeOf75,
  v72:=Tryz.zeroValue75,
  t75:=Tryz.underlying79,
  a75:=Tryz.isAgg79,
  z75:=Tryz.sizeOf79,
  v75:=Tryz.zeroValue79,
  t76:=Tryz.underlying80,
  a76:=Tryz.isAgg80,
  z76:=Tryz.sizeOf80,
  v76:=Tryz.zeroValue80,
  t109:=Tryz.underlying192,
  a109:=Tryz.isAgg192,
  z109:=Tryz.sizeOf192,
  v109:=Tryz.zeroValue192,
  t127:=Tryz.underlying120,
  a127:=Tryz.isAgg120,
  z127:=Tryz.sizeOf120,
  v127:=Tryz.zeroValue120,
  t146:=Tryz.underlying209,
  a146:=Tryz.isAgg209,
  z146:=Tryz.sizeOf209,
  v146:=Tryz.zeroValue209,
  t148:=Tryz.underlying211,
  a148:=Tryz.isAgg211,
  z148:=Tryz.sizeOf211,
  v148:=Tryz.zeroValue211,
  t164:=Tryz.underlying149,
  a164:=Tryz.isAgg149,
  z164:=Tryz.sizeOf149,
  v164:=Tryz.zeroValue149 }
def Tryz.lays172_ren:Go.Shelf.Ren:=⟨fun|172=>137|244=>160|245=>161|247=>173|279=>174|280=>175|281=>176|282=>177|287=>185|316=>186|171=>28|205=>187|321=>189|322=>190|243=>61|246=>94|283=>126|284=>127|285=>128|286=>129|129=>150|317=>149|318=>151|319=>152|320=>153|337=>170|338=>171|n=>n,fun|9=>9|3=>3|75=>79|76=>80|4=>4|5=>5|167=>214|37=>73|0=>0|85=>215|2=>2|168=>217|53=>178|175=>225|46=>191|210=>229|127=>120|145=>234|143=>232|21=>21|171=>177|173=>181|212=>197|51=>198|20=>20|213=>199|232=>223|233=>224|80=>86|n=>n,fun|15=>6|16=>7|17=>0|18=>4|19=>5|n=>n⟩
theorem Tryz.lays172:Go.Proofs.Lays.n172 Tryz.prog Tryz.lays172_ren:={
  mixed:=by kernel_rfl,
  f129:=Tryz.func150.trans (congrArg some (by kernel_rfl)),
  f171:=Tryz.func28.trans (congrArg some (by kernel_rfl)),
  f172:=Tryz.func137.trans (congrArg some (by kernel_rfl)),
  f205:=Tryz.func187.trans (congrArg some (by kernel_rfl)),
  f243:=Tryz.func61.trans (congrArg some (by kernel_rfl)),
  f244:=Tryz.func160.trans (congrArg some (by kernel_rfl)),
  f245:=Tryz.func161.trans (congrArg some (by kernel_rfl)),
  f246:=Tryz.func94.trans (congrArg some (by kernel_rfl)),
  f247:=Tryz.func173.trans (congrArg some (by kernel_rfl)),
  f279:=Tryz.func174.trans (congrArg some (by kernel_rfl)),
  f280:=Tryz.func175.trans (congrArg some (by kernel_rfl)),
  f281:=Tryz.func176.trans (congrArg some (by kernel_rfl)),
  f282:=Tryz.func177.trans (congrArg some (by kernel_rfl)),
  f283:=Tryz.func126.trans (congrArg some (by kernel_rfl)),
  f284:=Tryz.func127.trans (congrArg some (by kernel_rfl)),
  f285:=Tryz.func128.trans (congrArg some (by kernel_rfl)),
  f286:=Tryz.func129.trans (congrArg some (by kernel_rfl)),
  f287:=Tryz.func185.trans (congrArg some (by kernel_rfl)),
  f316:=Tryz.func186.trans (congrArg some (by kernel_rfl)),
  f317:=Tryz.func149.trans (congrArg some (by kernel_rfl)),
  f318:=Tryz.func151.trans (congrArg some (by kernel_rfl)),
  f319:=Tryz.func152.trans (congrArg some (by kernel_rfl)),
  f320:=Tryz.func153.trans (congrArg some (by kernel_rfl)),
  f321:=Tryz.func189.trans (congrArg some (by kernel_rfl)),
  f322:=Tryz.func190.trans (congrArg some (by kernel_rfl)),
  f337:=Tryz.func170.trans (congrArg some (by kernel_rfl)),
  f338:=Tryz.func171.trans (congrArg some (by kernel_rfl)),
  t0:=Tryz.underlying0,
  a0:=Tryz.isAgg0,
  z0:=Tryz.sizeOf0,
  v0:=Tryz.zeroValue0,
  t2:=Tryz.underlying2,
  a2:=Tryz.isAgg2,
  z2:=Tryz.sizeOf2,
  v2:=Tryz.zeroValue2,
  t3:=Tryz.underlying3,
  a3:=Tryz.isAgg3,
  z3:=Tryz.sizeOf3,
  v3:=Tryz.zeroValue3,
  t4:=Tryz.underlying4,
  a4:=Tryz.isAgg4,
  z4:=Tryz.sizeOf4,
  v4:=Tryz.zeroValue4,
  t5:=Tryz.underlying5,
  a5:=Tryz.isAgg5,
  z5:=Tryz.sizeOf5,
  v5:=Tryz.zeroValue5,
  t9:=Tryz.underlying9,
  a9:=Tryz.isAgg9,
  z9:=Tryz.sizeOf9,
  v9:=Tryz.zeroValue9,
  t20:=Tryz.underlying20,
  a20:=Tryz.isAgg20,
  z20:=Tryz.sizeOf20,
  v20:=Tryz.zeroValue20,
  t21:=Tryz.underlying21,
  a21:=Tryz.isAgg21,
  z21:=Tryz.sizeOf21,
  v21:=Tryz.zeroValue21,
  t37:=Tryz.underlying73,
  a37:=Tryz.isAgg73,
  z37:=Tryz.sizeOf73,
  v37:=Tryz.zeroValue73,
  t46:=Tryz.underlying191,
  a46:=Tryz.isAgg191,
  z46:=Tryz.sizeOf191,
  v46:=Tryz.zeroValue191,
  t51:=Tryz.underlying198,
  a51:=Tryz.isAgg198,
  z51:=Tryz.sizeOf198,
  v51:=Tryz.zeroValue198,
  t53:=Tryz.underlying178,
  a53:=Tryz.isAgg178,
  z53:=Tryz.sizeOf178,
  v53:=Tryz.zeroValue178,
  t75:=Tryz.underlying79,
  a75:=Tryz.isAgg79,
  z75:=Tryz.sizeOf79,
  v75:=Tryz.zeroValue79,
  t76:=Tryz.underlying80,
  a76:=Tryz.isAgg80,
  z76:=Tryz.sizeOf80,
  v76:=Tryz.zeroValue80,
  t85:=Tryz.underlying215,
  a85:=Tryz.isAgg215,
  z85:=Tryz.sizeOf215,
  v85:=Tryz.zeroValue215,
  t127:=Tryz.underlying120,
  a127:=Tryz.isAgg120,
  z127:=Tryz.sizeOf120,
  v127:=Tryz.zeroValue120,
  t143:=Tryz.underlying232,
  a143:=Tryz.isAgg232,
  z143:=Tryz.sizeOf232,
  v143:=Tryz.zeroValue232,
  t145:=Tryz.underlying234,
  a145:=Tryz.isAgg234,
  z145:=Tryz.sizeOf234,
  v145:=Tryz.zeroValue234,
  t167:=Tryz.underlying214,
  a167:=Tryz.isAgg214,
  z167:=Tryz.sizeOf214,
  v167:=Tryz.zeroValue214,
  t168:=Tryz.underlying217,
  a168:=Tryz.isAgg217,
  z168:=Tryz.sizeOf217,
  v168:=Tryz.zeroValue217,
  t171:=Tryz.underlying177,
  a171:=Tryz.isAgg177,
  z171:=Tryz.sizeOf177,
  v171:=Tryz.zeroValue177,
  t173:=Tryz.underlying181,
  a173:=Tryz.isAgg181,
  z173:=Tryz.sizeOf181,
  v173:=Tryz.zeroValue181,
  t175:=Tryz.underlying225,
  a175:=Tryz.isAgg225,
  z175:=Tryz.sizeOf225,
  v175:=Tryz.zeroValue225,
  t210:=Tryz.underlying229,
  a210:=Tryz.isAgg229,
  z210:=Tryz.sizeOf229,
  v210:=Tryz.zeroValue229,
  t212:=Tryz.underlying197,
  a212:=Tryz.isAgg197,
  z212:=Tryz.sizeOf197,
  v212:=Tryz.zeroValue197,
  t213:=Tryz.underlying199,
  a213:=Tryz.isAgg199,
  z213:=Tryz.sizeOf199,
  t232:=Tryz.underlying223,
  a232:=Tryz.isAgg223,
  z232:=Tryz.sizeOf223,
  v232:=Tryz.zeroValue223,
  t233:=Tryz.underlying224,
  a233:=Tryz.isAgg224,
  z233:=Tryz.sizeOf224,
  v233:=Tryz.zeroValue224,
  g15:=by kernel_rfl,
  g16:=by kernel_rfl,
  g17:=by kernel_rfl,
  g18:=by kernel_rfl,
  g19:=by kernel_rfl }
def Tryz.laysM171_ren:Go.Shelf.Ren:=⟨fun|171=>28|243=>61|246=>94|283=>126|284=>127|285=>128|286=>129|129=>150|317=>149|318=>151|319=>152|320=>153|337=>170|338=>171|n=>n,fun|3=>3|9=>9|2=>2|4=>4|171=>177|0=>0|53=>178|37=>73|5=>5|173=>181|212=>197|51=>198|20=>20|213=>199|46=>191|232=>223|233=>224|n=>n,fun|17=>0|18=>4|19=>5|n=>n⟩
theorem Tryz.laysM171:Go.Proofs.LaysM.n171 Tryz.prog Tryz.laysM171_ren:={
  mixed:=by kernel_rfl,
  f129:=Tryz.func150.trans (congrArg some (by kernel_rfl)),
  f171:=Tryz.func28.trans (congrArg some (by kernel_rfl)),
  f243:=Tryz.func61.trans (congrArg some (by kernel_rfl)),
  f246:=Tryz.func94.trans (congrArg some (by kernel_rfl)),
  f283:=Tryz.func126.trans (congrArg some (by kernel_rfl)),
  f284:=Tryz.func127.trans (congrArg some (by kernel_rfl)),
  f285:=Tryz.func128.trans (congrArg some (by kernel_rfl)),
  f286:=Tryz.func129.trans (congrArg some (by kernel_rfl)),
  f317:=Tryz.func149.trans (congrArg some (by kernel_rfl)),
  f318:=Tryz.func151.trans (congrArg some (by kernel_rfl)),
  f319:=Tryz.func152.trans (congrArg some (by kernel_rfl)),
  f320:=Tryz.func153.trans (congrArg some (by kernel_rfl)),
  f337:=Tryz.func170.trans (congrArg some (by kernel_rfl)),
  f338:=Tryz.func171.trans (congrArg some (by kernel_rfl)),
  t0:=Tryz.underlying0,
  a0:=Tryz.isAgg0,
  z0:=Tryz.sizeOf0,
  v0:=Tryz.zeroValue0,
  t2:=Tryz.underlying2,
  a2:=Tryz.isAgg2,
  z2:=Tryz.sizeOf2,
  v2:=Tryz.zeroValue2,
  t3:=Tryz.underlying3,
  a3:=Tryz.isAgg3,
  z3:=Tryz.sizeOf3,
  v3:=Tryz.zeroValue3,
  t4:=Tryz.underlying4,
  a4:=Tryz.isAgg4,
  z4:=Tryz.sizeOf4,
  v4:=Tryz.zeroValue4,
  t5:=Tryz.underlying5,
  a5:=Tryz.isAgg5,
  z5:=Tryz.sizeOf5,
  v5:=Tryz.zeroValue5,
  t9:=Tryz.underlying9,
  a9:=Tryz.isAgg9,
  z9:=Tryz.sizeOf9,
  v9:=Tryz.zeroValue9,
  t20:=Tryz.underlying20,
  a20:=Tryz.isAgg20,
  z20:=Tryz.sizeOf20,
  v20:=Tryz.zeroValue20,
  t37:=Tryz.underlying73,
  a37:=Tryz.isAgg73,
  z37:=Tryz.sizeOf73,
  v37:=Tryz.zeroValue73,
  t46:=Tryz.underlying191,
  a46:=Tryz.isAgg191,
  z46:=Tryz.sizeOf191,
  v46:=Tryz.zeroValue191,
  t51:=Tryz.underlying198,
  a51:=Tryz.isAgg198,
  z51:=Tryz.sizeOf198,
  v51:=Tryz.zeroValue198,
  t53:=Tryz.underlying178,
  a53:=Tryz.isAgg178,
  z53:=Tryz.sizeOf178,
  v53:=Tryz.zeroValue178,
  t171:=Tryz.underlying177,
  a171:=Tryz.isAgg177,
  z171:=Tryz.sizeOf177,
  v171:=Tryz.zeroValue177,
  t173:=Tryz.underlying181,
  a173:=Tryz.isAgg181,
  z173:=Tryz.sizeOf181,
  v173:=Tryz.zeroValue181,
  t212:=Tryz.underlying197,
  a212:=Tryz.isAgg197,
  z212:=Tryz.sizeOf197,
  v212:=Tryz.zeroValue197,
  t213:=Tryz.underlying199,
  a213:=Tryz.isAgg199,
  z213:=Tryz.sizeOf199,
  t232:=Tryz.underlying223,
  a232:=Tryz.isAgg223,
  z232:=Tryz.sizeOf223,
  v232:=Tryz.zeroValue223,
  t233:=Tryz.underlying224,
  a233:=Tryz.isAgg224,
  z233:=Tryz.sizeOf224,
  v233:=Tryz.zeroValue224,
  g17:=by kernel_rfl,
  g18:=by kernel_rfl,
  g19:=by kernel_rfl,
  i0:=by kernel_rfl,
  i2:=by kernel_rfl,
  i3:=by kernel_rfl,
  i4:=by kernel_rfl,
  i5:=by kernel_rfl,
  i9:=by kernel_rfl,
  i20:=by kernel_rfl,
  i37:=by kernel_rfl,
  i46:=by kernel_rfl,
  i51:=by kernel_rfl,
  i53:=by kernel_rfl,
  i171:=by kernel_rfl,
  i173:=by kernel_rfl,
  i212:=by kernel_rfl,
  i232:=by kernel_rfl,
  i233:=by kernel_rfl,
  m17:=by kernel_rfl,
  m18:=by kernel_rfl,
  m19:=by kernel_rfl }
def Tryz.lays197_ren:Go.Shelf.Ren:=⟨fun|197=>116|260=>144|n=>n,fun|9=>9|21=>21|3=>3|4=>4|5=>5|105=>170|119=>205|0=>0|46=>191|139=>208|138=>207|n=>n,fun|3=>1|4=>2|n=>n⟩
theorem Tryz.lays197:Go.Proofs.Lays.n197 Tryz.prog Tryz.lays197_ren:={
  mixed:=by kernel_rfl,
  f197:=Tryz.func116.trans (congrArg some (by kernel_rfl)),
  f260:=Tryz.func144.trans (congrArg some (by kernel_rfl)),
  t0:=Tryz.underlying0,
  a0:=Tryz.isAgg0,
  z0:=Tryz.sizeOf0,
  v0:=Tryz.zeroValue0,
  t3:=Tryz.underlying3,
  a3:=Tryz.isAgg3,
  z3:=Tryz.sizeOf3,
  v3:=Tryz.zeroValue3,
  t4:=Tryz.underlying4,
  a4:=Tryz.isAgg4,
  z4:=Tryz.sizeOf4,
  v4:=Tryz.zeroValue4,
  t5:=Tryz.underlying5,
  a5:=Tryz.isAgg5,
  z5:=Tryz.sizeOf5,
  v5:=Tryz.zeroValue5,
  t9:=Tryz.underlying9,
  a9:=Tryz.isAgg9,
  z9:=Tryz.sizeOf9,
  v9:=Tryz.zeroValue9,
  t21:=Tryz.underlying21,
  a21:=Tryz.isAgg21,
  z21:=Tryz.sizeOf21,
  v21:=Tryz.zeroValue21,
  t46:=Tryz.underlying191,
  a46:=Tryz.isAgg191,
  z46:=Tryz.sizeOf191,
  v46:=Tryz.zeroValue191,
  t105:=Tryz.underlying170,
  a105:=Tryz.isAgg170,
  z105:=Tryz.sizeOf170,
  v105:=Tryz.zeroValue170,
  t119:=Tryz.underlying205,
  a119:=Tryz.isAgg205,
  z119:=Tryz.sizeOf205,
  t138:=Tryz.underlying207,
  a138:=Tryz.isAgg207,
  z138:=Tryz.sizeOf207,
  v138:=Tryz.zeroValue207,
  t139:=Tryz.underlying208,
  a139:=Tryz.isAgg208,
  z139:=Tryz.sizeOf208,
  v139:=Tryz.zeroValue208,
  g3:=by kernel_rfl,
  g4:=by kernel_rfl }
theorem Tryz.builder105:Builder.Extra Tryz.prog Tryz.lays105_ren where
 sizeBuilder:=by kernel_rfl
 liesBuilder:=by kernel_rfl
 t5:=Tryz.underlying5
 a5:=Tryz.isAgg5
 z5:=Tryz.sizeOf5
 v5:=Tryz.zeroValue5
 infoByte:=by kernel_rfl
 cellsByte:=by kernel_rfl
 sizeByte:=by kernel_rfl
 neB5:=by decide
end Go.Proofs
namespace Go.Proofs.YtmlnilkbolcknaaGreatDoor.Pm
open Go Go.RowKit

theorem qar (s p:List UInt8):PC Tryz.prog 147 [sv (st s),sv (st p)] [] (bv (Lib.hasPrefix s p)) [] :=
 wF (ww Tryz.func147 (by kernel_rfl) (by kernel_rfl)) rfl rfl fun w=>(Any.strings_HasPrefix Tryz.lays99 (st s) (st p) w).mono fun e w' ⟨h1,h2⟩=>⟨h1,h2▸Below.refl _ _⟩
theorem qes (s p:List UInt8):PC Tryz.prog 162 [sv (st s),sv (st p)] [] (sv (st (Lib.trimPrefix s p))) [] :=
 wF (ww Tryz.func162 (by kernel_rfl) (by kernel_rfl)) rfl rfl fun w=>(Any.strings_TrimPrefix Tryz.lays101 (st s) (st p) w).mono fun e w' ⟨h1,h2⟩=>⟨h1,h2▸Below.refl _ _⟩
theorem index_pc (s:List UInt8) (c:UInt8):PC Tryz.prog 181 [sv (st s),sv (st [c])] [] (iv (Lib.indexByte s c)) [] :=
 wF (ww Tryz.func181 (by kernel_rfl) (by kernel_rfl)) rfl rfl fun w=>(Any.strings_Index_one Tryz.lays143 (st s) c w).mono fun e w' ⟨h1,h2⟩=>⟨h1,h2▸Below.refl _ _⟩
theorem qki (s:List UInt8) (c:UInt8):PC Tryz.prog 180 [sv (st s),sv (st [c])] [] (bv (decide (0≤Lib.indexByte s c))) [] :=
 wF (ww Tryz.func180 (by kernel_rfl) (by kernel_rfl)) rfl rfl fun w=>(Any.strings_Contains_one Tryz.lays144 (st s) c w).mono fun e w' ⟨h1,h2⟩=>⟨h1,h2▸Below.refl _ _⟩
theorem yT (s cs:List UInt8) (hs:s.length≤9223372036854775807) (hc:cs.length<4294967281) (ha:∀ (j:Nat) b,cs[j]? = some b→b.toNat<128):PC Tryz.prog 57 [sv (st s),sv (st cs)] [] (sv (st (Lib.trimS s cs))) [] :=
 wF (ww Tryz.func57 (by kernel_rfl) (by kernel_rfl)) rfl rfl fun w=>(Any.strings_Trim_laid Tryz.lays160 (by kernel_rfl) (st s) (st cs) w hs hc ha).mono fun e w' ⟨h1,h2⟩=>⟨h1,h2⟩
theorem qid (s cs:List UInt8) (hc:cs.length<4294967281) (ha:∀ (j:Nat) b,cs[j]? = some b→b.toNat<128):PC Tryz.prog 163 [sv (st s),sv (st cs)] [] (sv (st (Lib.trimLeftS s cs))) [] :=
 wF (ww Tryz.func163 (by kernel_rfl) (by kernel_rfl)) rfl rfl fun w=>(Any.strings_TrimLeft_laid Tryz.lays161 (by kernel_rfl) (st s) (st cs) w hc ha).mono fun e w' ⟨h1,h2⟩=>⟨h1,h2⟩
theorem vz (s:List UInt8) (c:Nat) (hc:c≤9223372036854775807) (hl:s.length*c≤140737488355328):PC Tryz.prog 124 [sv (st s),iv (c:Int)] [] (sv (st (Lib.repeatL s c))) [] :=
 wF (ww Tryz.func124 (by kernel_rfl) (by kernel_rfl)) rfl rfl fun w=>(Any.strings_Repeat Tryz.lays105 Tryz.builder105 (st s) c w hc hl)
theorem qbc (s:List UInt8) (n:Int) (hs:s.length≤18) (h:Lib.atoi s=some n):PC Tryz.prog 137 [sv (st s)] [] (.tup [iv n,.av .nilIface]) [] :=
 wF (ww Tryz.func137 (by kernel_rfl) (by kernel_rfl)) rfl rfl fun w=>(Any.strconv_Atoi Tryz.lays172 (st s) n hs h w).mono fun e w' ⟨h1,t,h2⟩=>⟨h1,h2▸Lib.bytesWorld_below _ _ _⟩
theorem zz (n:Int) (h0 : -9223372036854775808≤n) (h1:n≤9223372036854775807):PC Tryz.prog 28 [iv n] [] (sv (st (Lib.itoa n))) [] :=
 qdr (ww Tryz.func28 (by kernel_rfl) (by kernel_rfl)) rfl rfl fun w hL=>(Any.strconv_Itoa Tryz.laysM171 n h0 h1 w hL.2.1).mono fun e w' ⟨h1,k,os,h2⟩=>⟨h1,h2▸Lib.below_grow _ _ (Nat.le_refl _) _ _⟩
theorem qbv (s:List UInt8):PC Tryz.prog 116 [sv (st s)] [] (.tup [.av (.int .i32 (((Lib.decodeGo (st s)).1:Nat):Int)),iv (((Lib.decodeGo (st s)).2:Nat):Int)]) [] :=
 qdr (ww Tryz.func116 (by kernel_rfl) (by kernel_rfl)) rfl rfl fun w hL=>(Any.utf8_DecodeRuneInString Tryz.lays197 (st s) w (by first|exact hL.2.2|exact hL.2.2.1))
end Go.Proofs.YtmlnilkbolcknaaGreatDoor.Pm
namespace Go.Proofs
open Go.Shelf
def Tryz.lays195_ren:Go.Shelf.Ren:=⟨fun|195=>119|n=>n,fun|9=>9|3=>3|0=>0|4=>4|n=>n,fun|n=>n⟩
theorem Tryz.lays195:Go.Proofs.Lays.n195 Tryz.prog Tryz.lays195_ren:={
  mixed:=by kernel_rfl,
  f195:=Tryz.func119.trans (congrArg some (by kernel_rfl)),
  t0:=Tryz.underlying0,
  a0:=Tryz.isAgg0,
  z0:=Tryz.sizeOf0,
  v0:=Tryz.zeroValue0,
  t3:=Tryz.underlying3,
  a3:=Tryz.isAgg3,
  z3:=Tryz.sizeOf3,
  v3:=Tryz.zeroValue3,
  t4:=Tryz.underlying4,
  a4:=Tryz.isAgg4,
  z4:=Tryz.sizeOf4,
  v4:=Tryz.zeroValue4,
  t9:=Tryz.underlying9,
  a9:=Tryz.isAgg9,
  z9:=Tryz.sizeOf9,
  v9:=Tryz.zeroValue9 }
end Go.Proofs
namespace Go.Proofs.YtmlnilkbolcknaaGreatDoor.Pm
open Go Go.RowKit
theorem runes_pc (s:List UInt8) (hs:s.length<9223372036854775807):PC Tryz.prog 119 [sv (st s)] [] (iv (ZI s:Nat)) [] :=
 wF (ww Tryz.func119 (by kernel_rfl) (by kernel_rfl)) rfl rfl fun w=>(Any.utf8_RuneCountInString Tryz.lays195 (st s) w hs).mono fun e w' ⟨h1,pos,h2⟩=>⟨h1,h2▸(Below.refl _ _).alloc (Nat.le_refl _) _⟩
end Go.Proofs.YtmlnilkbolcknaaGreatDoor.Pm
set_option maxRecDepth 100000
set_option maxHeartbeats 4000000
namespace Go.Proofs.YtmlnilkbolcknaaGreatDoor.Pm
open Go Go.Proofs.YtmlnilkbolcknaaGreatDoor.Pi
theorem qic (s:List UInt8) (hs:s.length≤9223372036854775807):PC Tryz.prog 23 [(sv (st s))] [] (bv (jM s)) []:=by
 refine zZ Tryz.func23 rfl (by kernel_rfl) (Nat.le_of_ble_eq_true rfl) (by kernel_rfl) (l0:=[ps 0 (sv (st s))]) rfl (fun c0 Bor hc0=>?_)
 refine qA<|qL qD [.r] []<|qA ?_
 by_cases h1:s=([]:TX)
 ·refine zU qD ([(1,.val (.av (.bool (!decide (s=([]:TX))))))]++gn 3 3++[(6,.yes false)]++gn 8 3) [ps 2 (bv false)] (oc (zw _ _:(!((st s).toList == (st ([]:TX)).toList)) = !decide (s=([]:TX))) (on 4 (bt h1) (on 3 ff oz))) ?_
  rw [show jM s=false from by unfold jM;rw [Bool.eq_iff_iff];simp only [← trim_nil,decide_eq_true_eq,reduceCtorEq];constructor <;> intro hh <;> simp_all <;> omega]
  exact zN hc0 [2] []
 by_cases h2:(s.length:Int)≤32
 ·refine zU qD ([(1,.val (.av (.bool (!decide (s=([]:TX))))))]++gy 3 3++[(6,.yes true),(8,.gd true .no),(9,.gd true (.call [] [(sv (st s)),(sv (st ([97,98,99,100,101,102,103,104,105,106,107,108,109,110,111,112,113,114,115,116,117,118,119,120,121,122]:TX)))] [] (sv (st (Lib.trimS s abc))) [])),(10,.gd true (.val (.av (.bool (decide ((Lib.trimS s abc)=([]:TX))))))),(11,.yes true)]) [ps 2 (bv (decide ((Lib.trimS s abc)=([]:TX))))] (oc (zw _ _:(!((st s).toList == (st ([]:TX)).toList)) = !decide (s=([]:TX))) (on 4 (bf h1) (on 2 (zR h2) (zY 80 (yT s abc hs (by decide) abc_ascii) (oc (zR h2) (oc (zj _ _:((st (Lib.trimS s abc)).toList == (st ([]:TX)).toList)=decide ((Lib.trimS s abc)=([]:TX))) (oc (zR h2) oz))))))) ?_
  rw [show jM s=(decide ((Lib.trimS s abc)=([]:TX))) from by unfold jM;rw [Bool.eq_iff_iff];simp only [← trim_nil,decide_eq_true_eq,reduceCtorEq];constructor <;> intro hh <;> simp_all <;> omega]
  exact zN hc0 [2] []
 refine zU qD ([(1,.val (.av (.bool (!decide (s=([]:TX))))))]++gy 3 3++[(6,.yes true)]++gn 8 3++[(11,.yes false)]) [ps 2 (bv false)] (oc (zw _ _:(!((st s).toList == (st ([]:TX)).toList)) = !decide (s=([]:TX))) (on 4 (bf h1) (on 4 (zP h2) oz))) ?_
 rw [show jM s=false from by unfold jM;rw [Bool.eq_iff_iff];simp only [← trim_nil,decide_eq_true_eq,reduceCtorEq];constructor <;> intro hh <;> simp_all <;> omega]
 exact zN hc0 [2] []
theorem qct (r l:Int):PC Tryz.prog 120 [(.av (.int .i32 r)),(iv l)] [] (bv (vK r l)) []:=by
 refine zZ Tryz.func120 rfl (by kernel_rfl) (Nat.le_of_ble_eq_true rfl) (by kernel_rfl) (l0:=[ps 0 (.av (.int .i32 r)),ps 1 (iv l)]) rfl (fun c0 Bor hc0=>?_)
 refine qA<|qL qD [.r] []<|qA ?_
 by_cases h1:32≤r
 ·by_cases h2:r=34
  ·refine zU qD (gy 3 2++[(5,.yes true)]++gn 7 2++[(9,.yes false)]++gn 11 3++[(16,.gd false .no)]) [ps 4 (bv false)] (on 3 (zR h1) (on 3 (bt h2) (on 4 ff oz))) ?_
   rw [show vK r l=false from by unfold vK;rw [Bool.eq_iff_iff];simp only [decide_eq_true_eq];constructor <;> intro hh <;> first|trivial|rfl|omega|(cases hh;done)]
   exact zN hc0 [4] []
  by_cases h3:r=127
  ·refine zU qD (gy 3 2++[(5,.yes true)]++gy 7 2++[(9,.yes true)]++gn 11 3++[(16,.gd false .no),(17,.yes false)]) [ps 4 (bv false)] (on 3 (zR h1) (on 3 (bf h2) (on 5 (bt h3) oz))) ?_
   rw [show vK r l=false from by unfold vK;rw [Bool.eq_iff_iff];simp only [decide_eq_true_eq];constructor <;> intro hh <;> first|trivial|rfl|omega|(cases hh;done)]
   exact zN hc0 [4] []
  by_cases h4:r=65533
  ·refine zU qD (gy 3 2++[(5,.yes true)]++gy 7 2++[(9,.yes true)]++gy 11 3++gn 14 2++[(16,.gd true (.yes false)),(17,.yes true)]) [ps 4 (bv (decide (1<l)))] (on 3 (zR h1) (on 3 (bf h2) (on 3 (bf h3) (on 2 (bt h4) (oc (bf h3) (oc (bt h4) (oc (bf h3) oz))))))) ?_
   rw [show vK r l=(decide (1<l)) from by unfold vK;rw [Bool.eq_iff_iff];simp only [decide_eq_true_eq];constructor <;> intro hh <;> first|trivial|rfl|omega|(cases hh;done)]
   exact zN hc0 [4] []
  refine zU qD (gy 3 2++[(5,.yes true)]++gy 7 2++[(9,.yes true)]++gy 11 5++[(16,.gd true (.yes true)),(17,.yes true)]) [ps 4 (bv true)] (on 3 (zR h1) (on 3 (bf h2) (on 3 (bf h3) (on 2 (bf h4) (oc (bf h3) (oc (bf h4) (oc (bf h3) oz))))))) ?_
  rw [show vK r l=true from by unfold vK;rw [Bool.eq_iff_iff];simp only [decide_eq_true_eq];constructor <;> intro hh <;> first|trivial|rfl|omega|(cases hh;done)]
  exact zN hc0 [4] []
 refine zU qD (gn 3 2++[(5,.yes false)]++gn 7 2++gn 11 3++[(16,.gd false .no)]) [ps 4 (bv false)] (on 3 (zP h1) (on 6 ff oz)) ?_
 rw [show vK r l=false from by unfold vK;rw [Bool.eq_iff_iff];simp only [decide_eq_true_eq];constructor <;> intro hh <;> first|trivial|rfl|omega|(cases hh;done)]
 exact zN hc0 [4] []
theorem sung_pc (s:List UInt8) (hs:s.length≤140737488351232):PC Tryz.prog 90 [(sv (st s))] [] (bv (wA s)) []:=by
 refine zZ Tryz.func90 rfl (by kernel_rfl) (Nat.le_of_ble_eq_true rfl) (by kernel_rfl) (l0:=[ps 0 (sv (st s))]) rfl (fun c0 Bor hc0=>?_)
 refine qA<|qL qD [.r] []<|qA<|qA<|yJ qD 1 [.k1,.n] [ps 3 (nv (ZI s))] (zY 16 (runes_pc s (by omega)) oz)<|qA ?_
 by_cases h1:(ZI s:Int)<1
 ·refine zE qD (gy 3 2++[(5,.yes true)]) [.k1,.d,.n] [ps 13 (bv true)] (on 3 (zR h1) oz)<|qU (b:=true) rfl rfl<|qA<|zU qD [] [ps 2 (bv false)] (oz) ?_
  rw [show wA s=false from by unfold wA;rw [zP (by omega),Bool.false_and]]
  exact zN hc0 [2] []
 refine zE qD (gn 3 2++[(5,.yes false)]) [.k1,.d,.n] [ps 13 (bv (decide (100<(ZI s:Int))))] (on 3 (zP h1) oz) ?_
 by_cases h2:100<(ZI s:Int)
 ·refine qX (zR h2)<|qA<|zU qD [] [ps 2 (bv false)] (oz) ?_
  rw [show wA s=false from by unfold wA;rw [zP (by omega),Bool.false_and]]
  exact zN hc0 [2] []
 refine qW (zP h2)<|qF<|qA<|zI<|vW (α:={x:List UInt8 // x.length≤s.length∧wz x=wz s}) (fun x=>[ps 0 (sv (st x.1))]) (fun x=>x.1.length) 0 ⟨s,⟨Nat.le_refl _,rfl⟩⟩ (Wk.ren2 _ 0 hc0 [] rfl rfl (by kernel_rfl) (by kernel_rfl)) ?_
 rintro ⟨t,⟨ht1,ht2⟩⟩
 refine qA<|qA<|zU qD [(1,.val (.av (.bool (!decide (t=([]:TX))))))] [ps 0 (sv (st t)),ps 15 (bv (!(decide (t=([]:TX)))))] (oc (zw _ _:(!((st t).toList == (st ([]:TX)).toList)) = !decide (t=([]:TX))) oz) ?_
 by_cases h3:t=([]:TX)
 ·refine qW (bt h3)<|vL rfl rfl<|qA<|zU qD [] [ps 2 (bv true)] (oz) ?_
  rw [show wA s=true from by unfold wA;rw [← ht2,h3,qcg,Bool.and_true,decide_eq_true_eq];omega]
  exact zN hc0 [2] []
 refine qX (bf h3)<|qF<|zI<|qA ?_
 have hdl:=jy t
 refine T_r0 qD 1 [ps 0 (sv (st t)),ps 4 (.av (.int .i32 (zS t:Int))),ps 5 (nv (zB t))] (zY 24 (qbv t) oz)<|qA<|qA<|yJ qD 2 [.k1,.d,.k1,.n] [ps 24 (bv (!(vK (zS t:Int) (zB t:Int))))] (zY 88 (qct _ _:PC Tryz.prog 120 [(.av (.int .i32 (zS t:Int))),(nv (zB t))] [] (bv (vK (zS t:Int) (zB t:Int))) []) oz) ?_
 by_cases h4:(vK (zS t:Int) (zB t:Int))=true
 ·refine qW (congrArg Bool.not h4)<|qF<|zU qD [(2,.val (.av (.string (st (t.drop (zB t))))))] [ps 0 (sv (st (t.drop (zB t))))] (oc (by first|omega|(simp <;> omega):(0:Int)≤(zB t:Int)∧(zB t:Int)≤(t.length:Int)∧(t.length:Int)≤(t.length:Int)) (oc (QQ _ _ _ rfl:(st t).extract (((zB t:Nat):Int):Int).toNat (((t.length:Nat):Int):Int).toNat=st (t.drop (zB t))) oz))<|zM ?_
  have hfa:=QU (s:=t) h3
  rw [h4,Bool.true_and] at hfa
  have hdp:=jC (l:=t) h3
  exact vH ⟨t.drop (zB t),⟨by rw [List.length_drop];omega,by rw [← hfa];exact ht2⟩⟩ (Wk.trans (Wk.eq (show _=[ps 0 (sv (st (t.drop (zB t))))] from by rfl)) (Wk.ren2 _ 0 hc0 [] rfl rfl (by kernel_rfl) (by kernel_rfl))) (show (t.drop (zB t)).length<t.length from by show (t.drop (zB t)).length<t.length;rw [List.length_drop];omega)
 refine qX (congrArg Bool.not (Bool.eq_false_iff.2 h4))<|qA<|zU qD [] [ps 2 (bv false)] (oz) ?_
 rw [show wA s=false from by unfold wA;rw [← ht2,QU (s:=t) h3,eq_false_of_ne_true h4,Bool.false_and,Bool.and_false]]
 exact wV fun cx_ a_ hI_=>yv (rt hc0 [ps 2 (bv false)] [] hI_)
end Go.Proofs.YtmlnilkbolcknaaGreatDoor.Pm
namespace Go.Proofs.YtmlnilkbolcknaaGreatDoor
open Go
section
end

structure Ext (w:World) where
 u:World
 h:RowKit.Below w.heap.size w u
instance Ext.some_ (w:World):Nonempty (Ext w):=⟨⟨w,RowKit.Below.refl _ _⟩⟩
theorem Ext.cells (w:World):∀ (d:Ext w) (b o:Nat),b<w.heap.size→d.u.cell? ⟨b,o,none⟩=w.cell? ⟨b,o,none⟩:=fun d b o h=>d.h.cell (p:=⟨b,o,none⟩) h

section
end
end Go.Proofs.YtmlnilkbolcknaaGreatDoor
namespace Go.Proofs.YtmlnilkbolcknaaGreatDoor.Pi
open Go.RowKit
def I64 (n:Int):Prop := -9223372036854775808≤n∧n≤9223372036854775807
set_option maxHeartbeats 1000000 in
theorem qjf (l:Int) (w:World) :
  Calls Tryz.prog 123 #[.int .i64 l] w fun e w'=>e = .returned (.int .i64 (nat7 l))∧w=w':=by
 have h:l=0∨l=1∨l=2∨l=3∨l=4∨l=5∨(¬ l=0∧¬ l=1∧¬ l=2∧¬ l=3∧¬ l=4∧¬ l=5):=by omega
 rcases h with rfl|rfl|rfl|rfl|rfl|rfl|⟨h0,h1,h2,h3,h4,h5⟩
 all_goals
  go_enter Tryz.func123,Tryz.ntmps123
  go_wp2
  go_ret
  exact ⟨ret_int (by unfold nat7;omega),rfl⟩

set_option maxHeartbeats 1000000 in
theorem right_any (l a o:Int) (w:World) :
  Calls Tryz.prog 89 #[.agg #[.int .i64 l,.int .i64 a,.int .i64 o]] w fun e w'=>e = .returned (.bool (rightB l a o))∧Below w.heap.size w w':=by
 by_cases h1:0≤l
 ·by_cases h2:l<7
  ·by_cases h3 : -3≤a
   ·by_cases h4:a≤3
    ·by_cases h5 : -12≤o
     ·go_enter Tryz.func89,Tryz.ntmps89
      go_wp2
      go_ret
      refine ⟨Qz ?_,(by repeat (first|exact Below.refl _ _|assumption|refine wU ?_ _|refine Below.drew ?_|refine jz ?_ _|refine Below.setCell ?_ (by first|omega|(simp <;> omega)) _|refine jF (by assumption) ?_))⟩
      rw [Bool.eq_iff_iff,rightB_iff];simp;omega
     ·go_enter Tryz.func89,Tryz.ntmps89
      go_wp2
      go_ret
      refine ⟨Qz ?_,(by repeat (first|exact Below.refl _ _|assumption|refine wU ?_ _|refine Below.drew ?_|refine jz ?_ _|refine Below.setCell ?_ (by first|omega|(simp <;> omega)) _|refine jF (by assumption) ?_))⟩
      rw [eq_comm,← Bool.not_eq_true,rightB_iff];omega
    ·go_enter Tryz.func89,Tryz.ntmps89
     go_wp2
     go_ret
     refine ⟨Qz ?_,(by repeat (first|exact Below.refl _ _|assumption|refine wU ?_ _|refine Below.drew ?_|refine jz ?_ _|refine Below.setCell ?_ (by first|omega|(simp <;> omega)) _|refine jF (by assumption) ?_))⟩
     rw [eq_comm,← Bool.not_eq_true,rightB_iff];omega
   ·go_enter Tryz.func89,Tryz.ntmps89
    go_wp2
    go_ret
    refine ⟨Qz ?_,(by repeat (first|exact Below.refl _ _|assumption|refine wU ?_ _|refine Below.drew ?_|refine jz ?_ _|refine Below.setCell ?_ (by first|omega|(simp <;> omega)) _|refine jF (by assumption) ?_))⟩
    rw [eq_comm,← Bool.not_eq_true,rightB_iff];omega
  ·go_enter Tryz.func89,Tryz.ntmps89
   go_wp2
   go_ret
   refine ⟨Qz ?_,(by repeat (first|exact Below.refl _ _|assumption|refine wU ?_ _|refine Below.drew ?_|refine jz ?_ _|refine Below.setCell ?_ (by first|omega|(simp <;> omega)) _|refine jF (by assumption) ?_))⟩
   rw [eq_comm,← Bool.not_eq_true,rightB_iff];omega
 ·go_enter Tryz.func89,Tryz.ntmps89
  go_wp2
  go_ret
  refine ⟨Qz ?_,(by repeat (first|exact Below.refl _ _|assumption|refine wU ?_ _|refine Below.drew ?_|refine jz ?_ _|refine Below.setCell ?_ (by first|omega|(simp <;> omega)) _|refine jF (by assumption) ?_))⟩
  rw [eq_comm,← Bool.not_eq_true,rightB_iff];omega

set_option maxRecDepth 100000
set_option maxHeartbeats 4000000
def R2 (r:Int × Int):Value:=.tuple #[.int .i64 r.1,.int .i64 r.2]
theorem ret_R2 {r:Int × Int} {a b:Int} (h:r=(a,b)):Ending.returned (.tuple #[.int .i64 a,.int .i64 b]) = .returned (R2 r):=by rw [h];rfl
theorem qkr:wrap64 9223372036854775808 = -9223372036854775808:=by unfold wrap64;decide

theorem qks (s h:Int) (w:World) (hs:I64 s) (hh:I64 h) :
  Calls Tryz.prog 121 #[.agg #[.int .i64 s,.int .i64 h]] w fun e w'=>e = .returned (.bool (withinB s h))∧Below w.heap.size w w':=by
 unfold I64 at hs hh
 have hw:=qkr
 have cs:s = -9223372036854775808∨(-9223372036854775808<s∧s < -200)∨(-200≤s∧s≤200)∨200<s:=by omega
 have ch:h = -9223372036854775808∨(-9223372036854775808<h∧h < -4096)∨(-4096≤h∧h≤4096)∨4096<h:=by omega
 rcases cs with rfl|⟨c1,c2⟩|⟨c1,c2⟩|c1 <;> rcases ch with rfl|⟨d1,d2⟩|⟨d1,d2⟩|d1
 all_goals
  go_enter Tryz.func121,Tryz.ntmps121
  go_wp2
  all_goals
   go_ret
   refine ⟨Qz ?_,(by repeat (first|exact Below.refl _ _|assumption|refine wU ?_ _|refine Below.drew ?_|refine jz ?_ _|refine Below.setCell ?_ (by first|omega|(simp <;> omega)) _|refine jF (by assumption) ?_))⟩
   rw [Bool.eq_iff_iff,withinB_iff]
   simp
   try omega


theorem tq (n k:Int) (hk:0<k):k*n.tdiv k+n.tmod k=n ∧ -k<n.tmod k∧n.tmod k<k:=by
 have h1:=Int.natAbs_tmod n k
 have h2:=Nat.mod_lt n.natAbs (show 0<k.natAbs by omega)
 exact ⟨Int.mul_tdiv_add_tmod n k,by omega,by omega⟩

set_option maxHeartbeats 1000000 in
theorem floor_any (n:Int) (w:World) (h1 : -1000≤n) (h2:n≤1000) :
  Calls Tryz.prog 122 #[.int .i64 n,.int .i64 7] w fun e w'=>e = .returned (R2 (n / 7,n % 7))∧∃ k,w'=w.drewN k:=by
 have t:=tq n 7 (by omega)
 have e1:IntKind.i64.wrap (n.tdiv 7)=n.tdiv 7:=IntWalk.i64_in _ (by omega)
 by_cases hc:n.tmod 7<0
 ·have HR:=Lib.hid (show n.tdiv 7-1=n / 7∧n.tmod 7+7=n % 7 by omega)
  have q1 : -1000≤n.tdiv 7∧n.tdiv 7≤1000:=by omega
  have q2 : -7≤n.tmod 7:=by omega
  clear t
  go_enter Tryz.func122,Tryz.ntmps122
  go_wp2
  go_quiet (fail)
  go_wp2
  go_ret2
  exact ⟨ret_R2 (by rw [HR.out.1,HR.out.2]),nq,rfl⟩
 ·have HR:=Lib.hid (show n.tdiv 7=n / 7∧n.tmod 7=n % 7 by omega)
  have hc':0≤n.tmod 7:=by omega
  clear t
  go_enter Tryz.func122,Tryz.ntmps122
  go_wp2
  go_quiet (fail)
  go_wp2
  go_ret2
  exact ⟨ret_R2 (by rw [HR.out.1,HR.out.2]),nq,rfl⟩

end Go.Proofs.YtmlnilkbolcknaaGreatDoor.Pi
namespace Go.Proofs.YtmlnilkbolcknaaGreatDoor.Pi
open Go.RowKit
end Go.Proofs.YtmlnilkbolcknaaGreatDoor.Pi
namespace Go.Proofs.YtmlnilkbolcknaaGreatDoor.Pm
open Go Go.Proofs.YtmlnilkbolcknaaGreatDoor.Pi
abbrev pitP (l a o:Int):PV:=.agg [iv l,iv a,iv o]
abbrev invP (s h:Int):PV:=.agg [iv s,iv h]
theorem Qj (l:Int):PC Tryz.prog 123 [iv l] [] (iv (Pi.nat7 l)) [] :=
 wF (ww Tryz.func123 (by kernel_rfl) (by kernel_rfl)) rfl rfl fun w=>(qjf l w).mono fun _ w' ⟨e1,e2⟩=>⟨e1,e2▸RowKit.Below.refl _ _⟩
theorem VW (l a o:Int):PC Tryz.prog 89 [pitP l a o] [] (bv (rightB l a o)) [] :=
 wF (ww Tryz.func89 (by kernel_rfl) (by kernel_rfl)) rfl rfl fun w=>right_any l a o w
theorem pwithin_pc (s h:Int) (i1:Pi.I64 s) (i2:Pi.I64 h):PC Tryz.prog 121 [invP s h] [] (bv (withinB s h)) [] :=
 wF (ww Tryz.func121 (by kernel_rfl) (by kernel_rfl)) rfl rfl fun w=>qks s h w i1 i2
theorem ZX (n:Int) (h1 : -1000≤n) (h2:n≤1000):PC Tryz.prog 122 [iv n,iv 7] [] (.tup [iv (n / 7),iv (n % 7)]) [] :=
 wF (ww Tryz.func122 (by kernel_rfl) (by kernel_rfl)) rfl rfl fun w=>(floor_any n w h1 h2).mono fun _ w' ⟨e1,k,e2⟩=>⟨e1,by rw [e2];exact ⟨rfl,rfl,rfl,Nat.le_refl _,fun _ _=>rfl⟩⟩
set_option maxRecDepth 100000
set_option maxHeartbeats 4000000
theorem sign_pc (r:Int):PC Tryz.prog 182 [(.av (.int .i32 r))] [] (.tup [(iv ((zV r).1)),(bv ((zV r).2))]) []:=by
 refine zZ Tryz.func182 rfl (by kernel_rfl) (Nat.le_of_ble_eq_true rfl) (by kernel_rfl) (l0:=[ps 0 (.av (.int .i32 r))]) rfl (fun c0 Bor hc0=>?_)
 refine qA<|qL qD [.r] []<|qA<|qA<|zU qD [] [ps 4 (.av (.int .i32 r))] (oz)<|zI<|qA<|qA<|qL qD [.k1,.n] [ps 5 (bv (decide (r=9839)))] ?_
 by_cases h1:r=9839
 ·refine qX (zR h1)<|qF<|qX (zR h1)<|qA<|zU qD [] [ps 2 (iv 1),ps 3 (bv true)] (oz) ?_
  rw [show zV r=(1,true) from by unfold zV;simp [*]]
  exact zN hc0 [2,3] []
 refine qW (zP h1)<|qL qD [.k1,.d,.n] [ps 5 (bv (decide (r=35)))] ?_
 by_cases h2:r=35
 ·refine qX (zR h2)<|qA<|zU qD [] [ps 2 (iv 1),ps 3 (bv true)] (oz) ?_
  rw [show zV r=(1,true) from by unfold zV;simp [*]]
  exact zN hc0 [2,3] []
 refine qW (zP h2)<|qA<|qA<|qL qD [.k1,.d,.n] [ps 8 (bv (decide (r=119082)))] ?_
 by_cases h3:r=119082
 ·refine qX (zR h3)<|qF<|qX (zR h3)<|qA<|zU qD [] [ps 2 (iv 2),ps 3 (bv true)] (oz) ?_
  rw [show zV r=(2,true) from by unfold zV;simp [*]]
  exact zN hc0 [2,3] []
 refine qW (zP h3)<|qL qD [.k1,.d,.n] [ps 8 (bv (decide (r=120)))] ?_
 by_cases h4:r=120
 ·refine qX (zR h4)<|qA<|zU qD [] [ps 2 (iv 2),ps 3 (bv true)] (oz) ?_
  rw [show zV r=(2,true) from by unfold zV;simp [*]]
  exact zN hc0 [2,3] []
 refine qW (zP h4)<|qA<|qA<|qL qD [.k1,.d,.n] [ps 11 (bv (decide (r=9837)))] ?_
 by_cases h5:r=9837
 ·refine qX (zR h5)<|qF<|qX (zR h5)<|qA<|zU qD [] [ps 2 (iv (-1)),ps 3 (bv true)] (oz) ?_
  rw [show zV r=(-1,true) from by unfold zV;simp [*]]
  exact zN hc0 [2,3] []
 refine qW (zP h5)<|qL qD [.k1,.d,.n] [ps 11 (bv (decide (r=98)))] ?_
 by_cases h6:r=98
 ·refine qX (zR h6)<|qA<|zU qD [] [ps 2 (iv (-1)),ps 3 (bv true)] (oz) ?_
  rw [show zV r=(-1,true) from by unfold zV;simp [*]]
  exact zN hc0 [2,3] []
 refine qW (zP h6)<|qA<|zU qD [] [ps 14 (bv (decide (r=119083)))] (oz) ?_
 by_cases h7:r=119083
 ·refine qX (zR h7)<|qA<|zU qD [] [ps 2 (iv (-2)),ps 3 (bv true)] (oz) ?_
  rw [show zV r=(-2,true) from by unfold zV;simp [*]]
  exact zN hc0 [2,3] []
 refine qW (zP h7)<|qF<|zM<|qA<|zU qD [] [ps 2 (iv 0),ps 3 (bv false)] (oz) ?_
 rw [show zV r=(0,false) from by unfold zV;simp [*]]
 exact zN hc0 [2,3] []
theorem qbp (s:List UInt8) (hs:s.length≤9223372036854775807):PC Tryz.prog 164 [(sv (st s))] [] (.tup [(iv ((qG s).1)),(bv ((qG s).2))]) []:=by
 refine zZ Tryz.func164 rfl (by kernel_rfl) (Nat.le_of_ble_eq_true rfl) (by kernel_rfl) (l0:=[ps 0 (sv (st s))]) rfl (fun c0 Bor hc0=>?_)
 refine qA<|qL qD [.r] []<|qA<|yJ qD 1 [.k1,.n] [ps 4 (bv (Lib.hasPrefix s ([45]:TX)))] (zY 24 (qar s ([45]:TX)) oz)<|qA<|qA<|qL qD [.k2,.n] [ps 9 (bv (Lib.hasPrefix s ([45]:TX)))] ?_
 by_cases h1:(Lib.hasPrefix s ([45]:TX))=true
 ·refine qU (b:=(Lib.hasPrefix s ([45]:TX))) rfl h1 ?_
  have hp1:=pre_len h1
  refine zE qD [(1,.val (.av (.string (st (s.drop 1)))))] [.d,.n,.k1,.d] [ps 0 (sv (st (s.drop 1)))] (oc (by first|omega|(simp <;> omega):(0:Int)≤(1:Int)∧(1:Int)≤(s.length:Int)∧(s.length:Int)≤(s.length:Int)) (oc (QQ _ _ _ rfl:(st s).extract ((1:Int):Int).toNat (((s.length:Nat):Int):Int).toNat=st (s.drop 1)) oz))<|qA<|qA ?_
  by_cases h2:(s.drop 1)=([]:TX)
  ·refine zE qD ([(1,.val (.av (.bool (decide ((s.drop 1)=([]:TX))))))]++gy 3 3++[(6,.yes true)]++gy 8 4++[(18,.gd true .no)]++gy 21 3) [.k2,.n] [ps 36 (bv true)] (oc (zj _ _:((st (s.drop 1)).toList == (st ([]:TX)).toList)=decide ((s.drop 1)=([]:TX))) (on 4 (zR h2) (on 8 tt oz)))<|qU (b:=true) rfl rfl<|qA<|zU qD [] [ps 2 (iv 0),ps 3 (bv false)] (oz) ?_
   rw [jx (s:=s) (by rw [YA h1];exact .inl h2)]
   exact zN hc0 [2,3] []
  by_cases h3:4<(((s.drop 1).length:Nat):Int)
  ·refine zE qD ([(1,.val (.av (.bool (decide ((s.drop 1)=([]:TX))))))]++gn 3 3++[(6,.yes false)]++gy 8 4++[(18,.gd true .no),(19,.yes true)]++gy 21 3) [.k2,.n] [ps 36 (bv true)] (oc (zj _ _:((st (s.drop 1)).toList == (st ([]:TX)).toList)=decide ((s.drop 1)=([]:TX))) (on 4 (zP h2) (on 6 (zR h3) (on 3 tt oz))))<|qU (b:=true) rfl rfl<|qA<|zU qD [] [ps 2 (iv 0),ps 3 (bv false)] (oz) ?_
   rw [jx (s:=s) (by rw [YA h1];exact .inr (.inl (by omega)))]
   exact zN hc0 [2,3] []
  by_cases h4:((((s.drop 1).getD 0 0).toNat:Nat):Int)=48
  ·by_cases h5:1<(((s.drop 1).length:Nat):Int)
   ·refine zE qD ([(1,.val (.av (.bool (decide ((s.drop 1)=([]:TX))))))]++gn 3 3++[(6,.yes false)]++gn 8 4++gy 12 5++[(17,.gd true (.yes true)),(18,.gd false (.yes true)),(19,.yes false)]++gy 21 3) [.k2,.n] [ps 36 (bv true)] (oc (zj _ _:((st (s.drop 1)).toList == (st ([]:TX)).toList)=decide ((s.drop 1)=([]:TX))) (on 4 (zP h2) (on 2 (zP h3) (oc (by have:=List.length_pos_iff.2 h2;omega:(0:Int)≤0∧0<(((s.drop 1).length:Nat):Int)) (on 2 (zP h3) (on 4 (zR h4) (oc (zR h5) (oc (zR h4) (oc (zR h5) (oc (zP h3) (oc (zR h4) (oc (zP h3) (on 3 tt oz)))))))))))))<|qU (b:=true) rfl rfl<|qA<|zU qD [] [ps 2 (iv 0),ps 3 (bv false)] (oz) ?_
    rw [jx (s:=s) (by rw [YA h1];exact .inr (.inr (.inl ⟨by omega,.inl (by omega)⟩)))]
    exact zN hc0 [2,3] []
   refine zE qD ([(1,.val (.av (.bool (decide ((s.drop 1)=([]:TX))))))]++gn 3 3++[(6,.yes false)]++gn 8 4++gy 12 4++[(16,.gd false .no),(17,.gd true (.yes false)),(18,.gd false (.yes true)),(19,.yes false)]++gy 21 3++[(24,.yes true)]) [.k2,.n] [ps 36 (bv true)] (oc (zj _ _:((st (s.drop 1)).toList == (st ([]:TX)).toList)=decide ((s.drop 1)=([]:TX))) (on 4 (zP h2) (on 2 (zP h3) (oc (by have:=List.length_pos_iff.2 h2;omega:(0:Int)≤0∧0<(((s.drop 1).length:Nat):Int)) (on 2 (zP h3) (on 4 (zR h4) (oc (zP h5) (oc (zR h4) (oc (zP h5) (oc (zP h3) (oc (zR h4) (oc (zP h3) (on 4 (h1:(Lib.hasPrefix s ([45]:TX))=true) oz)))))))))))))<|qU (b:=true) rfl rfl<|qA<|zU qD [] [ps 2 (iv 0),ps 3 (bv false)] (oz) ?_
   rw [jx (s:=s) (by rw [YA h1];exact .inr (.inr (.inl ⟨by omega,.inr h1⟩)))]
   exact zN hc0 [2,3] []
  refine zE qD ([(1,.val (.av (.bool (decide ((s.drop 1)=([]:TX))))))]++gn 3 3++[(6,.yes false)]++gn 8 8++[(17,.gd false .no),(18,.gd false (.yes false)),(19,.yes false),(21,.gd false .no),(22,.gd false (.call [] [(sv (st (s.drop 1))),(sv (st digs))] [] (sv (st (Lib.trimS (s.drop 1) digs))) [])),(23,.gd false (.val (.av (.bool (!decide ((Lib.trimS (s.drop 1) digs)=([]:TX)))))))]) [.k2,.n] [ps 36 (bv (!(decide ((Lib.trimS (s.drop 1) digs)=([]:TX)))))] (oc (zj _ _:((st (s.drop 1)).toList == (st ([]:TX)).toList)=decide ((s.drop 1)=([]:TX))) (on 4 (zP h2) (on 2 (zP h3) (oc (by have:=List.length_pos_iff.2 h2;omega:(0:Int)≤0∧0<(((s.drop 1).length:Nat):Int)) (on 2 (zP h3) (on 5 (zP h4) (oc (zP h3) (oc (zP h4) (oc (zP h3) (on 2 ff (zY 248 (yT (s.drop 1) digs (by rw [List.length_drop];omega) (by decide) jZ) (oc ff (oc (zw _ _:(!((st (Lib.trimS (s.drop 1) digs)).toList == (st ([]:TX)).toList)) = !decide ((Lib.trimS (s.drop 1) digs)=([]:TX))) oz))))))))))))) ?_
  by_cases h6:(Lib.trimS (s.drop 1) digs)=([]:TX)
  ·refine qW (bt h6)<|qF<|qA ?_
   have hv:=qcm (QY (m:=Lib.hasPrefix s [45]) (t:=(s.drop 1)) h2 h3 (.inl h4) h6)
   refine yJ qD 1 [.d,.k1,.n,.d] [ps 5 (iv (yE (s.drop 1)))] (zY 280 (qbc (s.drop 1) _ (by omega) hv.1:PC Tryz.prog 137 [(sv (st (s.drop 1)))] [] (.tup [(iv (yE (s.drop 1))),(.av .nilIface)]) []) oz)<|qA<|qA<|qL qD [.d,.k1,.n] [ps 42 (bv (Lib.hasPrefix s ([45]:TX)))]<|qU (b:=(Lib.hasPrefix s ([45]:TX))) rfl h1<|zU qD [] [ps 5 (iv (0-(yE (s.drop 1))))] (oi (0-(yE (s.drop 1))) (by omega) oz)<|qA<|zU qD [] [ps 2 (iv (0-(yE (s.drop 1)))),ps 3 (bv true)] (oz) ?_
   rw [numS_neg (s:=s) (QY (m:=Lib.hasPrefix s [45]) (t:=(s.drop 1)) h2 h3 (.inl h4) h6) h1]
   exact zN hc0 [2,3] []
  refine qX (bf h6)<|qA<|zU qD [] [ps 2 (iv 0),ps 3 (bv false)] (oz) ?_
  rw [jx (s:=s) (by rw [YA h1];exact .inr (.inr (.inr h6)))]
  exact zN hc0 [2,3] []
 refine zD (b:=(Lib.hasPrefix s ([45]:TX))) rfl (Bool.eq_false_iff.2 h1)<|qF<|qA<|qA ?_
 by_cases h7:s=([]:TX)
 ·refine zE qD ([(1,.val (.av (.bool (decide (s=([]:TX))))))]++gy 3 3++[(6,.yes true)]++gy 8 4++[(18,.gd true .no)]++gy 21 3) [.k2,.d,.n] [ps 36 (bv true)] (oc (zj _ _:((st s).toList == (st ([]:TX)).toList)=decide (s=([]:TX))) (on 4 (zR h7) (on 8 tt oz)))<|qU (b:=true) rfl rfl<|qA<|zU qD [] [ps 2 (iv 0),ps 3 (bv false)] (oz) ?_
  rw [jx (s:=s) (by rw [jq h1];exact .inl h7)]
  exact zN hc0 [2,3] []
 by_cases h8:4<(s.length:Int)
 ·refine zE qD ([(1,.val (.av (.bool (decide (s=([]:TX))))))]++gn 3 3++[(6,.yes false)]++gy 8 4++[(18,.gd true .no),(19,.yes true)]++gy 21 3) [.k2,.d,.n] [ps 36 (bv true)] (oc (zj _ _:((st s).toList == (st ([]:TX)).toList)=decide (s=([]:TX))) (on 4 (zP h7) (on 6 (zR h8) (on 3 tt oz))))<|qU (b:=true) rfl rfl<|qA<|zU qD [] [ps 2 (iv 0),ps 3 (bv false)] (oz) ?_
  rw [jx (s:=s) (by rw [jq h1];exact .inr (.inl (by omega)))]
  exact zN hc0 [2,3] []
 by_cases h9:(((s.getD 0 0).toNat:Nat):Int)=48
 ·by_cases h10:1<(s.length:Int)
  ·refine zE qD ([(1,.val (.av (.bool (decide (s=([]:TX))))))]++gn 3 3++[(6,.yes false)]++gn 8 4++gy 12 5++[(17,.gd true (.yes true)),(18,.gd false (.yes true)),(19,.yes false)]++gy 21 3) [.k2,.d,.n] [ps 36 (bv true)] (oc (zj _ _:((st s).toList == (st ([]:TX)).toList)=decide (s=([]:TX))) (on 4 (zP h7) (on 2 (zP h8) (oc (by have:=List.length_pos_iff.2 h7;omega:(0:Int)≤0∧0<(s.length:Int)) (on 2 (zP h8) (on 4 (zR h9) (oc (zR h10) (oc (zR h9) (oc (zR h10) (oc (zP h8) (oc (zR h9) (oc (zP h8) (on 3 tt oz)))))))))))))<|qU (b:=true) rfl rfl<|qA<|zU qD [] [ps 2 (iv 0),ps 3 (bv false)] (oz) ?_
   rw [jx (s:=s) (by rw [jq h1];exact .inr (.inr (.inl ⟨by omega,.inl (by omega)⟩)))]
   exact zN hc0 [2,3] []
  refine zE qD ([(1,.val (.av (.bool (decide (s=([]:TX))))))]++gn 3 3++[(6,.yes false)]++gn 8 4++gy 12 4++[(16,.gd false .no),(17,.gd true (.yes false)),(18,.gd false (.yes true)),(19,.yes false),(21,.gd false .no),(22,.gd false (.call [] [(sv (st s)),(sv (st digs))] [] (sv (st (Lib.trimS s digs))) [])),(23,.gd false (.val (.av (.bool (!decide ((Lib.trimS s digs)=([]:TX))))))),(24,.yes false)]) [.k2,.d,.n] [ps 36 (bv (!(decide ((Lib.trimS s digs)=([]:TX)))))] (oc (zj _ _:((st s).toList == (st ([]:TX)).toList)=decide (s=([]:TX))) (on 4 (zP h7) (on 2 (zP h8) (oc (by have:=List.length_pos_iff.2 h7;omega:(0:Int)≤0∧0<(s.length:Int)) (on 2 (zP h8) (on 4 (zR h9) (oc (zP h10) (oc (zR h9) (oc (zP h10) (oc (zP h8) (oc (zR h9) (oc (zP h8) (oc (Bool.eq_false_iff.2 h1:(Lib.hasPrefix s ([45]:TX))=false) (oc (Bool.eq_false_iff.2 h1:(Lib.hasPrefix s ([45]:TX))=false) (zY 224 (yT s digs hs (by decide) jZ) (oc (Bool.eq_false_iff.2 h1:(Lib.hasPrefix s ([45]:TX))=false) (oc (zw _ _:(!((st (Lib.trimS s digs)).toList == (st ([]:TX)).toList)) = !decide ((Lib.trimS s digs)=([]:TX))) (oc (Bool.eq_false_iff.2 h1:(Lib.hasPrefix s ([45]:TX))=false) oz)))))))))))))))))) ?_
  by_cases h11:(Lib.trimS s digs)=([]:TX)
  ·refine qW (bt h11)<|qF<|qA ?_
   have hv:=qcm (QY (m:=Lib.hasPrefix s [45]) (t:=s) h7 h8 (.inr ⟨h10,h1⟩) h11)
   refine yJ qD 1 [.d,.k1,.n,.d] [ps 5 (iv (yE s))] (zY 256 (qbc s _ (by omega) hv.1:PC Tryz.prog 137 [(sv (st s))] [] (.tup [(iv (yE s)),(.av .nilIface)]) []) oz)<|qA<|qA<|qL qD [.d,.k1,.n] [ps 42 (bv (Lib.hasPrefix s ([45]:TX)))]<|zD (b:=(Lib.hasPrefix s ([45]:TX))) rfl (Bool.eq_false_iff.2 h1)<|qF<|qA<|zU qD [] [ps 2 (iv (yE s)),ps 3 (bv true)] (oz) ?_
   rw [qje (s:=s) (QY (m:=Lib.hasPrefix s [45]) (t:=s) h7 h8 (.inr ⟨h10,h1⟩) h11) h1]
   exact zN hc0 [2,3] []
  refine qX (bf h11)<|qA<|zU qD [] [ps 2 (iv 0),ps 3 (bv false)] (oz) ?_
  rw [jx (s:=s) (by rw [jq h1];exact .inr (.inr (.inr h11)))]
  exact zN hc0 [2,3] []
 refine zE qD ([(1,.val (.av (.bool (decide (s=([]:TX))))))]++gn 3 3++[(6,.yes false)]++gn 8 8++[(17,.gd false .no),(18,.gd false (.yes false)),(19,.yes false),(21,.gd false .no),(22,.gd false (.call [] [(sv (st s)),(sv (st digs))] [] (sv (st (Lib.trimS s digs))) [])),(23,.gd false (.val (.av (.bool (!decide ((Lib.trimS s digs)=([]:TX)))))))]) [.k2,.d,.n] [ps 36 (bv (!(decide ((Lib.trimS s digs)=([]:TX)))))] (oc (zj _ _:((st s).toList == (st ([]:TX)).toList)=decide (s=([]:TX))) (on 4 (zP h7) (on 2 (zP h8) (oc (by have:=List.length_pos_iff.2 h7;omega:(0:Int)≤0∧0<(s.length:Int)) (on 2 (zP h8) (on 5 (zP h9) (oc (zP h8) (oc (zP h9) (oc (zP h8) (on 2 ff (zY 224 (yT s digs hs (by decide) jZ) (oc ff (oc (zw _ _:(!((st (Lib.trimS s digs)).toList == (st ([]:TX)).toList)) = !decide ((Lib.trimS s digs)=([]:TX))) oz))))))))))))) ?_
 by_cases h12:(Lib.trimS s digs)=([]:TX)
 ·refine qW (bt h12)<|qF<|qA ?_
  have hv:=qcm (QY (m:=Lib.hasPrefix s [45]) (t:=s) h7 h8 (.inl h9) h12)
  refine yJ qD 1 [.d,.k1,.n,.d] [ps 5 (iv (yE s))] (zY 256 (qbc s _ (by omega) hv.1:PC Tryz.prog 137 [(sv (st s))] [] (.tup [(iv (yE s)),(.av .nilIface)]) []) oz)<|qA<|qA<|qL qD [.d,.k1,.n] [ps 42 (bv (Lib.hasPrefix s ([45]:TX)))]<|zD (b:=(Lib.hasPrefix s ([45]:TX))) rfl (Bool.eq_false_iff.2 h1)<|qF<|qA<|zU qD [] [ps 2 (iv (yE s)),ps 3 (bv true)] (oz) ?_
  rw [qje (s:=s) (QY (m:=Lib.hasPrefix s [45]) (t:=s) h7 h8 (.inl h9) h12) h1]
  exact zN hc0 [2,3] []
 refine qX (bf h12)<|qA<|zU qD [] [ps 2 (iv 0),ps 3 (bv false)] (oz) ?_
 rw [jx (s:=s) (by rw [jq h1];exact .inr (.inr (.inr h12)))]
 exact zN hc0 [2,3] []
end Go.Proofs.YtmlnilkbolcknaaGreatDoor.Pm
