/-
  THE VALUE MACHINE (LG): the package variables that are told: the powers of ten of strconv,the two tables of utf8. | THE VALUE MACHINE (A): values as trees,how they lie in memory,and what a state of values says of a frame and a world. No program in sight. | THE VALUE MACHINE (B): what operations do to blocks: new wM,stores,rows that grow. No program in sight. | THE VALUE MACHINE (C): regions: what each operation does by values,in whatever order it is done. No program in sight. | THE VALUE MACHINE (D): what QM operations do,by values. No program in sight. | THE VALUE MACHINE (E): numbers,truth values,strings. No program in sight. | THE VALUE MACHINE (F): lengths,slices,places,loads. No program in sight. | THE VALUE MACHINE (G): what is made and written. No program in sight. | THE VALUE MACHINE (H): rows made,stored into,appended to,copied. No program in sight. | THE VALUE MACHINE (I): append,copy,functions as values,the greater of two. No program in sight. | THE VALUE MACHINE (P): structs compared. No program in sight. | THE VALUE MACHINE (Q): copy. No program in sight. | THE VALUE MACHINE (J): contracts by values;calls. No program in sight. | THE VALUE MACHINE (K): a call,by its contract. No program in sight. | THE VALUE MACHINE (V): pointers held against nil;the greatest of three. No program in sight. | THE VALUE MACHINE (X): rows laid down for Wq,by themselves and at a call. No program in sight. | THE VALUE MACHINE (W): atomic loads and stores (functions without a body). No program in sight. | THE VALUE MACHINE (Z): bytes laid down for Wq,as a string. No program in sight. | THE VALUE MACHINE (IF): plain values flat;interface values. No program in sight. | THE VALUE MACHINE (Ly): a row that is laid down as soon as it is made. No program in sight. | THE VALUE MACHINE (L): regions reckoned;the rules of a walk by values. No program in sight. | THE VALUE MACHINE (M): a walk by values: what is left to run,states said anew,loops,whole functions. No program in sight.
-/
import Derived.Test.YtmlnilkbolcknaaGreatDoorRows
import Derived.Shelf.Strconv.Itoa3
import Derived.Shelf.Unicode.DecodeAny
import Derived.Orders
import Derived.Below
import Derived.WalkKit
import Derived.Deep.AppendSrc
import Derived.Laws.CopyRow
import Derived.IntWalk
import Derived.Laws.Cells
import Derived.Great.BuildSlice
import Derived.Laws.MakeOwn
import Derived.Laws.CopyOwn
import Derived.Laws.StructEq
import Derived.Laws.LoneSync
import Derived.Laws.BytesArg
set_option linter.unusedVariables false
set_option linter.unusedSimpArgs false
set_option linter.deprecated false
namespace Go.Proofs.YtmlnilkbolcknaaGreatDoor.Pm
open Go
def LB:List Nat:=[1,2,0]
def LP (w : World) : Prop := Lib.TabIs Tryz.prog w "internal/strconv.uint64pow10" .u64 Lib.pow10Tab ∧ Lib.Utf8Tabs 1 2 w
theorem LP_mono {w w':World} (h:∀ b∈LB,w'.heap[b]? = w.heap[b]?) (hp:LP w):LP w':=by
 obtain ⟨h1,h2,h3⟩:=hp
 have e1:w'.heap[1]? = w.heap[1]? := h _ (by simp [LB])
 have e2:w'.heap[2]? = w.heap[2]? := h _ (by simp [LB])
 have e3:w'.heap[0]? = w.heap[0]? := h _ (by simp [LB])
 refine ⟨?_,fun c hc=>?_,fun i hi=>?_⟩
 ·unfold Lib.TabIs World.var? at h1 ⊢
  rw [show Tryz.prog.globalNamed "internal/strconv.uint64pow10" = some 0 from by kernel_rfl] at h1 ⊢
  simp only [Option.bind_some] at h1 ⊢
  rw [e3];exact h1
 ·have:=h2 c hc
  simpa only [World.cell?,e1] using this
 ·have:=h3 i hi
  simpa only [World.cell?,e2] using this
inductive PV where
 | av (v:Value)
 | agg (cs:List PV)
 | tup (vs:List PV)
 | osl (id off len:Nat)
 | opt (id off:Nat)
 | ssl (cs:List PV) (off len:Nat)
 | spt (cs:List PV) (off:Nat)
 | fn (f:Fn) (first cap:List PV)
 | err
 | opn (id off:Nat)
abbrev P0:PV:=.av undef
def PV.one:PV→Bool
 | .av v=>v.oneCell'
 | .agg _=>false
 | .tup _=>false
 | _=>true
def wM (cs:List PV):Prop:=∀ p∈cs,PV.one p=true

inductive SRep (w:World) (S:Nat→Prop):PV→Value→Prop
 | av (v:Value):SRep w S (.av v) v
 | agg {cs:List PV} {vs:Array Value} (hn:vs.size=cs.length) (h:∀ i,i<cs.length→SRep w S (cs.getD i P0) (vs.getD i undef)):SRep w S (.agg cs) (.agg vs)
 | tup {cs:List PV} {vs:Array Value} (hn:vs.size=cs.length) (h:∀ i,i<cs.length→SRep w S (cs.getD i P0) (vs.getD i undef)):SRep w S (.tup cs) (.tuple vs)
 | emp {cs:List PV} {off:Nat} {a:Option Addr} {cap:Nat}:SRep w S (.ssl cs off 0) (.slice a 0 cap)
 | ssl {cs:List PV} {off len b a cap:Nat} {vf:Nat→Value} (hS:S b) (hc:∀ j,j<cs.length→w.cell? ⟨b,a+j,none⟩=some (vf j)) (h:∀ j,j<cs.length→SRep w S (cs.getD j P0) (vf j)) (ho:wM cs) (hl:len≤cap) :
   SRep w S (.ssl cs off len) (.slice (some ⟨b,a+off,none⟩) len cap)
 | spt {cs:List PV} {off b a:Nat} {vf:Nat→Value} (hS:S b) (hc:∀ j,j<cs.length→w.cell? ⟨b,a+j,none⟩=some (vf j)) (h:∀ j,j<cs.length→SRep w S (cs.getD j P0) (vf j)) (ho:wM cs) :
   SRep w S (.spt cs off) (.pointer (some ⟨b,a+off,none⟩))
 | fn {f:Fn} {cs ds:List PV} {vs us:Array Value} (hn:vs.size=cs.length) (h:∀ i,i<cs.length→SRep w S (cs.getD i P0) (vs.getD i undef))
   (hm:us.size=ds.length) (k:∀ i,i<ds.length→SRep w S (ds.getD i P0) (us.getD i undef)):SRep w S (.fn f cs ds) (.func f vs us)
 | err (t:TypeId) (v:Value):SRep w S .err (.iface t v)

theorem qic {w w':World} {b i:Nat} (h:w'.heap[b]? = w.heap[b]?):w'.cell? ⟨b,i,none⟩=w.cell? ⟨b,i,none⟩:=by
 simp only [World.cell?,h]
theorem SRep.mono {w w':World} {S S':Nat→Prop} (hS:∀ b,S b→S' b∧w'.heap[b]? = w.heap[b]?) {p:PV} {v:Value} (h:SRep w S p v):SRep w' S' p v:=by
 induction h with
 | av v=>exact .av v
 | agg hn _ ih=>exact .agg hn ih
 | tup hn _ ih=>exact .tup hn ih
 | emp=>exact .emp
 | ssl hs hc _ ho hl ih=>exact .ssl (hS _ hs).1 (fun j hj=>(qic (hS _ hs).2).trans (hc j hj)) ih ho hl
 | spt hs hc _ ho ih=>exact .spt (hS _ hs).1 (fun j hj=>(qic (hS _ hs).2).trans (hc j hj)) ih ho
 | fn hn _ hm _ ih ik=>exact .fn hn ih hm ik
 | err t v=>exact .err t v

structure Cx where
 w:World
 S:Nat→Prop
 own:Nat→Option (Option Nat × TypeId)

def OslOk (P:Program) (w:World) (ob:Option Nat) (T:TypeId) (off len:Nat) (v:Value):Prop :=
 (∃ a,v = .slice a 0 0∧len=0)∨∃ b cap cs,ob=some b∧v = .slice (some ⟨b,off,none⟩) len cap∧(∃ z,w.heap[b]? = some (.cells cs T z))∧len≤cap∧off+cap*P.cellsOf T≤cs.size

inductive Rep (P:Program) (c:Cx):PV→Value→Prop
 | sh {p:PV} {v:Value} (h:SRep c.w c.S p v):Rep P c p v
 | agg {cs:List PV} {vs:Array Value} (hn:vs.size=cs.length) (h:∀ i,i<cs.length→Rep P c (cs.getD i P0) (vs.getD i undef)):Rep P c (.agg cs) (.agg vs)
 | tup {cs:List PV} {vs:Array Value} (hn:vs.size=cs.length) (h:∀ i,i<cs.length→Rep P c (cs.getD i P0) (vs.getD i undef)):Rep P c (.tup cs) (.tuple vs)
 | osl {id off len:Nat} {v:Value} {ob:Option Nat} {T:TypeId} (ho:c.own id=some (ob,T)) (h:OslOk P c.w ob T off len v):Rep P c (.osl id off len) v
 | opt {id off b:Nat} {T:TypeId} (ho:c.own id=some (some b,T)):Rep P c (.opt id off) (.pointer (some ⟨b,off,none⟩))
 | opn {id off:Nat} {v:Value} (h:v = .pointer none∨∃ b T,c.own id=some (some b,T)∧v = .pointer (some ⟨b,off,none⟩)):Rep P c (.opn id off) v
 | fn {f:Fn} {cs ds:List PV} {vs us:Array Value} (hn:vs.size=cs.length) (h:∀ i,i<cs.length→Rep P c (cs.getD i P0) (vs.getD i undef))
   (hm:us.size=ds.length) (k:∀ i,i<ds.length→Rep P c (ds.getD i P0) (us.getD i undef)):Rep P c (.fn f cs ds) (.func f vs us)

theorem SRep.one {w:World} {S:Nat→Prop} {p:PV} {v:Value} (h:SRep w S p v) (ho:p.one=true):v.oneCell'=true:=by
 cases h <;> first|exact ho|rfl|(simp [PV.one] at ho)
theorem Rep.one {P:Program} {c:Cx} {p:PV} {v:Value} (h:Rep P c p v) (ho:p.one=true):v.oneCell'=true:=by
 cases h with
 | sh h=>exact h.one ho
 | agg=>simp [PV.one] at ho
 | tup=>simp [PV.one] at ho
 | osl _ h =>
  rcases h with ⟨a,rfl,_⟩|⟨b,cap,cs,_,rfl,_⟩ <;> rfl
 | opt=>rfl
 | opn h=>rcases h with rfl | ⟨b,T,_,rfl⟩ <;> rfl
 | fn=>rfl
def Shape (w w':World):Prop:=∀ (b:Nat) (cs:Array Value) (T:TypeId) (z:Nat × Nat),w.heap[b]? = some (.cells cs T z)→∃ cs' z',w'.heap[b]? = some (.cells cs' T z')∧cs'.size=cs.size
theorem Shape.refl (w:World):Shape w w:=fun _ cs _ z h=>⟨cs,z,h,rfl⟩
theorem Shape.trans {a b c:World} (h:Shape a b) (k:Shape b c):Shape a c:=fun i cs T z hc=>by
 obtain ⟨cs',z',h1,h2⟩:=h i cs T z hc
 obtain ⟨cs'',z'',h3,h4⟩:=k i cs' T z' h1
 exact ⟨cs'',z'',h3,h4.trans h2⟩
structure Keep (c c':Cx):Prop where
 S:∀ b,c.S b→c'.S b∧c'.w.heap[b]? = c.w.heap[b]?
 own:∀ id x,c.own id=some x→c'.own id=some x
 shape:Shape c.w c'.w
theorem Keep.refl (c:Cx):Keep c c:=⟨fun _ h=>⟨h,rfl⟩,fun _ _ h=>h,Shape.refl _⟩
theorem Keep.trans {a b c:Cx} (h:Keep a b) (k:Keep b c):Keep a c :=
 ⟨fun i hi=>⟨(k.S i (h.S i hi).1).1,(k.S i (h.S i hi).1).2.trans (h.S i hi).2⟩,fun i x hx=>k.own i x (h.own i x hx),h.shape.trans k.shape⟩
theorem OslOk.mono {P:Program} {w w':World} (hk:Shape w w') {ob:Option Nat} {T:TypeId} {off len:Nat} {v:Value} (h:OslOk P w ob T off len v):OslOk P w' ob T off len v:=by
 rcases h with h|⟨b,cap,cs,h1,h2,⟨z,h3⟩,h4,h5⟩
 ·exact .inl h
 ·obtain ⟨cs',z',h6,h7⟩:=hk b cs T z h3
  exact .inr ⟨b,cap,cs',h1,h2,⟨z',h6⟩,h4,by omega⟩
theorem Rep.mono {P:Program} {c c':Cx} (hk:Keep c c') {p:PV} {v:Value} (h:Rep P c p v):Rep P c' p v:=by
 induction h with
 | sh h=>exact .sh (h.mono hk.S)
 | agg hn _ ih=>exact .agg hn ih
 | tup hn _ ih=>exact .tup hn ih
 | osl ho h=>exact .osl (hk.own _ _ ho) (h.mono hk.shape)
 | opt ho=>exact .opt (hk.own _ _ ho)
 | opn h=>exact .opn (h.imp id fun ⟨b,T,h1,h2⟩=>⟨b,T,hk.own _ _ h1,h2⟩)
 | fn hn _ hm _ ih ik=>exact .fn hn ih hm ik

def Laid (w:World) (S:Nat→Prop):Prop:=(∀ b∈LB,S b)∧LP w
theorem Laid.mono {c c':Cx} (hS:∀ b,c.S b→c'.S b∧c'.w.heap[b]? = c.w.heap[b]?) (h:Laid c.w c.S):Laid c'.w c'.S :=
 ⟨fun b hb=>(hS b (h.1 b hb)).1,LP_mono (fun b hb=>(hS b (h.1 b hb)).2) h.2⟩

/-! ### states -/
inductive Val where
 | pv (p:PV)
 | blk (T:TypeId) (cells:List PV)
abbrev ks (s:Nat):Nat:=2*s
abbrev kb (i:Nat):Nat:=2*i+1
abbrev St:=Nat→Option Val
def lk {α:Type} (k:Nat):List (Nat × α)→Option α
 | []=>none
 | (j,x) :: l=>if Nat.beq k j then some x else lk k l
abbrev L:=List (Nat × Option Val)
def get (l:L):St:=fun k=>(lk k l).join
def over (l:L) (g:St):St:=fun k=>match lk k l with|some x=>x|none=>g k
theorem jL (l m:L):get (l++m)=over l (get m):=by
 funext k
 induction l with
 | nil=>rfl
 | cons a l ih =>
  obtain ⟨j,x⟩:=a
  simp only [get,over,List.cons_append,lk] at ih ⊢
  by_cases h:Nat.beq k j=true
  ·simp [h]
  ·simp only [h];exact ih

def BlkOk (P:Program) (c:Cx) (ob:Option Nat) (T:TypeId) (cells:List PV):Prop:=wM cells∧(
 (ob=none∧cells=[])∨∃ b cs,ob=some b∧c.w.heap[b]? = some (.cells cs T (0,0))∧cells.length≤cs.size∧∀ j,j<cells.length→Rep P c (cells.getD j P0) (cs.getD j undef))

structure BorD where
 bor:Nat→Prop
 ds:List Deferred
instance:CoeFun BorD (fun _=>Nat→Prop):=⟨BorD.bor⟩
structure Env where
 P:Program
 n:Nat
 c0:Cx
 Bor:BorD
abbrev Env.W (E:Env):World:=E.c0.w
abbrev Env.S0 (E:Env):Nat→Prop:=E.c0.S

def vC (g:St) (id:Nat):Prop:=∃ T cells,g (kb id)=some (.blk T cells)

structure Heap (E:Env) (nx:Nat→Prop) (c:Cx) (g:St):Prop where
 ids:∀ id x,c.own id=some x→nx id
 blk:∀ id T cells,g (kb id)=some (.blk T cells)→∃ ob,c.own id=some (ob,T)∧BlkOk E.P c ob T cells
 inj:∀ id id' b T T',vC g id→vC g id'→c.own id=some (some b,T)→c.own id'=some (some b,T')→id=id'
 apart:∀ id b T,vC g id→c.own id=some (some b,T)→¬ c.S b∧(E.Bor b∨E.W.heap.size≤b)
 bnd:∀ id b T,c.own id=some (some b,T)→b<c.w.heap.size
 sok:∀ b,c.S b→b<c.w.heap.size
 os:c.w.os=E.W.os
 tape:c.w.tape=E.W.tape
 output:c.w.output=E.W.output
 size:E.W.heap.size≤c.w.heap.size
 same:∀ b,b<E.W.heap.size→¬ E.Bor b→c.w.heap[b]? = E.W.heap[b]?
 s0:∀ b,E.S0 b→c.S b
 s1:∀ b,c.S b→E.S0 b∨E.Bor b∨E.W.heap.size≤b
 keep:Keep E.c0 c
 laid:Laid E.W E.S0

structure Inv (E:Env) (nx:Nat→Prop) (c:Cx) (g:St) (a:Act):Prop extends Heap E nx c g where
 tmps:a.tmps.size=E.n
 dfr:a.defers=E.Bor.ds
 slot:∀ s p,g (ks s)=some (.pv p)→Rep E.P c p (a.tmps.getD s undef)
 isv:∀ s x,g (ks s)=some x→∃ p,x = .pv p

/-! ### how it goes on -/
theorem put_get (a:Act) (d s:Nat) (v:Value) (hd:d<a.tmps.size):((a.put (some d) v).tmps.getD s undef)=if s=d then v else a.tmps.getD s undef:=by
 simp only [Act.put,Array.getD_eq_getD_getElem?,Array.getElem?_setIfInBounds]
 by_cases h:s=d
 ·subst h;simp [hd]
 ·simp [h,Ne.symm h]
theorem put_size (a:Act) (d:Option Nat) (v:Value):(a.put d v).tmps.size=a.tmps.size:=by
 cases d <;> simp [Act.put]
theorem put_dfr (a:Act) (d:Option Nat) (v:Value):(a.put d v).defers=a.defers:=by
 cases d <;> rfl

def wd (d:Option Nat) (p:PV):L:=match d with|some d=>[(ks d,some (.pv p))]|none=>[]
theorem qjv (d:Option Nat) (p:PV) (i:Nat):lk (kb i) (wd d p)=none:=by
 cases d with
 | none=>rfl
 | some d=>simp only [wd,lk];rw [show Nat.beq (kb i) (ks d)=false from by rw [Bool.eq_false_iff];intro h;have:=Nat.eq_of_beq_eq_true h;simp only [ks,kb] at this;omega];rfl
theorem Vv (s d:Nat):Nat.beq (ks s) (ks d)=decide (s=d):=by
 by_cases h:s=d
 ·subst h;simp [Nat.beq_refl]
 ·rw [decide_eq_false h,Bool.eq_false_iff];intro h';have:=Nat.eq_of_beq_eq_true h';simp only [ks] at this;omega
theorem YT (s d:Nat):Nat.beq (kb s) (kb d)=decide (s=d):=by
 by_cases h:s=d
 ·subst h;simp [Nat.beq_refl]
 ·rw [decide_eq_false h,Bool.eq_false_iff];intro h';have:=Nat.eq_of_beq_eq_true h';simp only [kb] at this;omega
theorem qko (s d:Nat):Nat.beq (kb s) (ks d)=false:=by
 rw [Bool.eq_false_iff];intro h;have:=Nat.eq_of_beq_eq_true h;simp only [ks,kb] at this;omega
theorem jU (s d:Nat):Nat.beq (ks s) (kb d)=false:=by
 rw [Bool.eq_false_iff];intro h;have:=Nat.eq_of_beq_eq_true h;simp only [ks,kb] at this;omega

theorem Inv.put {E:Env} {nx nx':Nat→Prop} {c c':Cx} {g:St} {a:Act} (h:Inv E nx c g a) (hk:Keep c c') (wb:L) (hw:∀ s,lk (ks s) wb=none) (hh:Heap E nx' c' (over wb g))
  (d:Option Nat) (hd:∀ x,d=some x→x<E.n) {p:PV} {v:Value} (hv:d≠none→Rep E.P c' p v):Inv E nx' c' (over (wd d p) (over wb g)) (a.put d v):=by
 have hb:∀ i,over (wd d p) (over wb g) (kb i)=over wb g (kb i):=fun i=>by simp only [over,qjv]
 have hg:over (wd d p) (over wb g)=over (wd d p) (over wb g):=rfl
 have hl:∀ i,vC (over (wd d p) (over wb g)) i↔vC (over wb g) i:=fun i=>by simp only [vC,hb]
 refine { ids:=hh.ids,blk:=fun i T cs hx=>hh.blk i T cs (by rw [← hb];exact hx),inj:=fun i j b T T' h1 h2=>hh.inj i j b T T' ((hl i).1 h1) ((hl j).1 h2),
          apart:=fun i b T h1=>hh.apart i b T ((hl i).1 h1),bnd:=hh.bnd,sok:=hh.sok,os:=hh.os,tape:=hh.tape,output:=hh.output,size:=hh.size,same:=hh.same,laid:=hh.laid,s0:=hh.s0,s1:=hh.s1,keep:=hh.keep,
          tmps:=by rw [put_size];exact h.tmps,dfr:=by rw [put_dfr];exact h.dfr,slot:=fun s q hq=>?_,isv:=fun s x hx=>?_ }
 ·cases d with
  | none =>
   have:g (ks s)=some (.pv q):=by simpa [wd,over,lk,hw] using hq
   exact (h.slot s q this).mono hk
  | some d =>
   rw [put_get a d s v (by rw [h.tmps];exact hd d rfl)]
   by_cases e:s=d
   ·subst e
    simp only [over,wd,lk,Nat.beq_refl,if_true,Option.some.injEq,Val.pv.injEq] at hq
    subst hq
    rw [if_pos rfl]
    exact hv (by simp)
   ·rw [if_neg e]
    have:g (ks s)=some (.pv q):=by simpa [wd,over,lk,hw,Vv,e] using hq
    exact (h.slot s q this).mono hk
 ·cases d with
  | none=>exact h.isv s x (by simpa [wd,over,lk,hw] using hx)
  | some d =>
   by_cases e:s=d
   ·subst e
    simp only [over,wd,lk,Nat.beq_refl,if_true,Option.some.injEq] at hx
    exact ⟨p,hx.symm⟩
   ·exact h.isv s x (by simpa [wd,over,lk,hw,Vv,e] using hx)
theorem Inv.pure {E:Env} {nx nx':Nat→Prop} {c:Cx} {g:St} {a:Act} (h:Inv E nx c g a) (hn:∀ i,nx i→nx' i) (d:Option Nat) (hd:∀ x,d=some x→x<E.n) {p:PV} {v:Value} (hv:d≠none→Rep E.P c p v) :
  Inv E nx' c (over (wd d p) g) (a.put d v):=by
 have:=Inv.put (nx':=nx') h (Keep.refl c) [] (fun _=>rfl) { h.toHeap with ids:=fun i x hx=>hn i (h.ids i x hx) } d hd (p:=p) (v:=v) hv
 exact this
def yN (own:Nat→Option (Option Nat × TypeId)) (id:Nat) (x:Option Nat × TypeId):Nat→Option (Option Nat × TypeId):=fun i=>if i=id then some x else own i
theorem yB {own:Nat→Option (Option Nat × TypeId)} {id:Nat} {x:Option Nat × TypeId}:yN own id x id=some x:=by simp [yN]
theorem yS {own:Nat→Option (Option Nat × TypeId)} {id i:Nat} {x:Option Nat × TypeId} (h:i≠id):yN own id x i=own i:=by simp [yN,h]
theorem qcq {E:Env} {nx:Nat→Prop} {c:Cx} {g:St} (h:Heap E nx c g) {id:Nat} (hn:¬ nx id):c.own id=none:=by
 cases ho:c.own id with
 | none=>rfl
 | some x=>exact absurd (h.ids id x ho) hn
theorem QN (id:Nat) (x:Option Val) (g:St) (i:Nat):over [(kb id,x)] g (kb i)=if i=id then x else g (kb i):=by
 simp only [over,lk,YT]
 by_cases h:i=id <;> simp [h]
theorem qcr (id:Nat) (x:Option Val) (g:St) (s:Nat):over [(kb id,x)] g (ks s)=g (ks s):=by
 simp only [over,lk,jU]
 rfl
theorem qjw (id:Nat) (x:Option Val) (s:Nat):lk (ks s) [(kb id,x)]=none:=by
 simp only [lk,jU];rfl
theorem Vw (w:World) (o:Obj):(w.alloc o).heap[w.heap.size]? = some o:=by
 show (w.heap.push o)[w.heap.size]? = _
 simp
theorem some_lt {w:World} {b:Nat} {o:Obj} (h:w.heap[b]? = some o):b<w.heap.size:=(Array.getElem?_eq_some_iff.1 h).1

theorem BlkOk.mono {P:Program} {c c':Cx} (hk:Keep c c') {ob:Option Nat} {T:TypeId} {cells:List PV} (h:BlkOk P c ob T cells) (hb:∀ b,ob=some b→c'.w.heap[b]? = c.w.heap[b]?):BlkOk P c' ob T cells:=by
 obtain ⟨h0,h⟩:=h
 refine ⟨h0,?_⟩
 rcases h with h|⟨b,cs,h1,h2,h3,h4⟩
 ·exact .inl h
 ·exact .inr ⟨b,cs,h1,(hb b h1).trans h2,h3,fun j hj=>(h4 j hj).mono hk⟩

theorem heap_new {E:Env} {nx:Nat→Prop} {c:Cx} {g:St} (h:Heap E nx c g) {id:Nat} (hn:¬ nx id) (T:TypeId) (cs:Array Value) (cells:List PV) (w':World)
  (hw:w'.heap=c.w.heap.push (.cells cs T (0,0))) (hos:w'.os=c.w.os) (htp:w'.tape=c.w.tape) (hou:w'.output=c.w.output)
  (ho:wM cells) (hl:cells.length≤cs.size) (hr:∀ j,j<cells.length→Rep E.P c (cells.getD j P0) (cs.getD j undef)) :
  Keep c ⟨w',c.S,yN c.own id (some c.w.heap.size,T)⟩ ∧
   Heap E (fun i=>nx i∨i=id) ⟨w',c.S,yN c.own id (some c.w.heap.size,T)⟩ (over [(kb id,some (.blk T cells))] g):=by
 have hf:=qcq h hn
 have hne:∀ i x,c.own i=some x→i≠id:=fun i x hx e=>by rw [e,hf] at hx;cases hx
 have hold:∀ b,b<c.w.heap.size→w'.heap[b]? = c.w.heap[b]? := fun b hb=>by rw [hw,Array.getElem?_push,if_neg (by omega)]
 have hnew:w'.heap[c.w.heap.size]? = some (.cells cs T (0,0)):=by rw [hw];simp
 have hsz:w'.heap.size=c.w.heap.size+1:=by rw [hw];simp
 have hk:Keep c ⟨w',c.S,yN c.own id (some c.w.heap.size,T)⟩ :=
  ⟨fun b hb=>⟨hb,hold b (h.sok b hb)⟩,fun i x hx=>by show yN _ _ _ _=_;rw [yS (hne i x hx)];exact hx,fun b cs' T' z hb=>⟨cs',z,by rw [hold b (some_lt hb)];exact hb,rfl⟩⟩
 refine ⟨hk,{ ids:=fun i x hx=>?_,blk:=fun i T' cs' hx=>?_,inj:=fun i j b T1 T2 h1 h2 h3 h4=>?_,apart:=fun i b T1 h1 h2=>?_,bnd:=fun i b T1 h1=>?_,sok:=fun b hb=>?_,
               os:=hos.trans h.os,tape:=htp.trans h.tape,output:=hou.trans h.output,size:=?_,same:=fun b hb hB=>?_,laid:=h.laid,s0:=h.s0,s1:=h.s1,keep:=h.keep.trans hk }⟩
 ·by_cases e:i=id
  ·exact .inr e
  ·exact .inl (h.ids i x (by rw [← yS (x:=(some c.w.heap.size,T)) (own:=c.own) e];exact hx))
 ·rw [QN] at hx
  by_cases e:i=id
  ·rw [if_pos e] at hx
   cases hx
   subst e
   exact ⟨_,yB,ho,.inr ⟨_,cs,rfl,hnew,hl,fun j hj=>(hr j hj).mono hk⟩⟩
  ·rw [if_neg e] at hx
   obtain ⟨ob,h1,h2⟩:=h.blk i T' cs' hx
   refine ⟨ob,by show yN _ _ _ _=_;rw [yS e];exact h1,h2.mono hk fun b hb=>hold b ?_⟩
   subst hb
   exact h.bnd i b T' h1
 ·have hlv:∀ i,vC (over [(kb id,some (.blk T cells))] g) i→i≠id→vC g i:=fun i ⟨T',cs',hx⟩ e=>⟨T',cs',by rw [QN,if_neg e] at hx;exact hx⟩
  by_cases e:i=id <;> by_cases e':j=id
  ·omega
  ·subst e
   have h3':yN c.own i (some c.w.heap.size,T) i=_:=h3
   have h4':yN c.own i (some c.w.heap.size,T) j=_:=h4
   rw [yB] at h3'
   rw [yS e'] at h4'
   have:=h.bnd j b T2 h4'
   simp only [Option.some.injEq,Prod.mk.injEq] at h3'
   omega
  ·subst e'
   have h3':yN c.own j (some c.w.heap.size,T) i=_:=h3
   have h4':yN c.own j (some c.w.heap.size,T) j=_:=h4
   rw [yB] at h4'
   rw [yS e] at h3'
   have:=h.bnd i b T1 h3'
   simp only [Option.some.injEq,Prod.mk.injEq] at h4'
   omega
  ·have h3':yN c.own id (some c.w.heap.size,T) i=_:=h3
   have h4':yN c.own id (some c.w.heap.size,T) j=_:=h4
   rw [yS e] at h3'
   rw [yS e'] at h4'
   exact h.inj i j b T1 T2 (hlv i h1 e) (hlv j h2 e') h3' h4'
 ·have h2':yN c.own id (some c.w.heap.size,T) i=_:=h2
  by_cases e:i=id
  ·subst e
   rw [yB] at h2'
   simp only [Option.some.injEq,Prod.mk.injEq] at h2'
   have:=h.size
   exact ⟨fun hS=>by have:=h.sok b hS;omega,.inr (by omega)⟩
  ·rw [yS e] at h2'
   obtain ⟨T',cs',hx⟩:=h1
   rw [QN,if_neg e] at hx
   exact h.apart i b T1 ⟨T',cs',hx⟩ h2'
 ·have h1':yN c.own id (some c.w.heap.size,T) i=_:=h1
  show b<w'.heap.size
  by_cases e:i=id
  ·subst e
   rw [yB] at h1'
   simp only [Option.some.injEq,Prod.mk.injEq] at h1'
   omega
  ·rw [yS e] at h1'
   have:=h.bnd i b T1 h1'
   omega
 ·have:=h.sok b hb
  show b<w'.heap.size
  omega
 ·have:=h.size
  show _≤w'.heap.size
  omega
 ·have:=h.size
  exact (hold b (by omega)).trans (h.same b hb hB)

theorem qfw {E:Env} {nx:Nat→Prop} {c:Cx} {g:St} (h:Heap E nx c g) {id b:Nat} {T:TypeId} {cells cells':List PV} (hg:g (kb id)=some (.blk T cells)) (ho:c.own id=some (some b,T))
  (cs cs':Array Value) (w':World) (hb:c.w.heap[b]? = some (.cells cs T (0,0))) (hb':w'.heap[b]? = some (.cells cs' T (0,0))) (hcs:cs'.size=cs.size)
  (hoth:∀ b',b'≠b→w'.heap[b']? = c.w.heap[b']?) (hsz:w'.heap.size=c.w.heap.size) (hos:w'.os=c.w.os) (htp:w'.tape=c.w.tape) (hou:w'.output=c.w.output)
  (hone:wM cells') (hl:cells'.length≤cs.size) (hr:∀ j,j<cells'.length→Rep E.P c (cells'.getD j P0) (cs'.getD j undef)) :
  Keep c ⟨w',c.S,c.own⟩∧Heap E nx ⟨w',c.S,c.own⟩ (over [(kb id,some (.blk T cells'))] g):=by
 have hlive:vC g id:=⟨T,cells,hg⟩
 have hap:=h.apart id b T hlive ho
 have hk:Keep c ⟨w',c.S,c.own⟩:=⟨fun b' hS=>⟨hS,hoth b' fun e=>hap.1 (e▸hS)⟩,fun _ _ hx=>hx,fun b' cs1 T1 z h1=>by
  by_cases e:b'=b
  ·subst e
   rw [hb] at h1
   cases h1
   exact ⟨cs',_,hb',hcs⟩
  ·exact ⟨cs1,z,(hoth b' e).trans h1,rfl⟩⟩
 have hlv:∀ i,vC (over [(kb id,some (.blk T cells'))] g) i→vC g i:=fun i ⟨T',cs1,hx⟩=>by
  rw [QN] at hx
  by_cases e:i=id
  ·subst e;exact hlive
  ·rw [if_neg e] at hx;exact ⟨T',cs1,hx⟩
 refine ⟨hk,{ ids:=h.ids,blk:=fun i T' cs1 hx=>?_,inj:=fun i j b' T1 T2 h1 h2=>h.inj i j b' T1 T2 (hlv i h1) (hlv j h2),apart:=fun i b' T1 h1=>h.apart i b' T1 (hlv i h1),
               bnd:=fun i b' T1 h1=>by have:=h.bnd i b' T1 h1;show b'<w'.heap.size;omega,sok:=fun b' hS=>by have:=h.sok b' hS;show b'<w'.heap.size;omega,
               os:=hos.trans h.os,tape:=htp.trans h.tape,output:=hou.trans h.output,size:=by have:=h.size;show _≤w'.heap.size;omega,same:=fun b' hb1 hB=>?_,laid:=h.laid,s0:=h.s0,s1:=h.s1,keep:=h.keep.trans hk }⟩
 ·rw [QN] at hx
  by_cases e:i=id
  ·subst e
   rw [if_pos rfl] at hx
   cases hx
   exact ⟨_,ho,hone,.inr ⟨b,cs',rfl,hb',by omega,fun j hj=>(hr j hj).mono hk⟩⟩
  ·rw [if_neg e] at hx
   obtain ⟨ob,h1,h2⟩:=h.blk i T' cs1 hx
   refine ⟨ob,h1,h2.mono hk fun b' hb1=>hoth b' fun e'=>e ?_⟩
   subst hb1
   subst e'
   exact h.inj i id b' T' T ⟨T',cs1,hx⟩ hlive h1 ho
 ·have e:b'≠b:=fun e=>by
   subst e
   rcases hap.2 with h1|h1
   ·exact hB h1
   ·omega
  exact (hoth b' e).trans (h.same b' hb1 hB)

theorem heap_drop {E:Env} {nx:Nat→Prop} {c:Cx} {g:St} (h:Heap E nx c g) (id:Nat):Heap E nx c (over [(kb id,none)] g):=by
 have hlv:∀ i,vC (over [(kb id,none)] g) i→vC g i:=fun i ⟨T',cs1,hx⟩=>by
  rw [QN] at hx
  by_cases e:i=id
  ·rw [if_pos e] at hx;cases hx
  ·rw [if_neg e] at hx;exact ⟨T',cs1,hx⟩
 exact { h with
   blk:=fun i T' cs1 hx=>h.blk i T' cs1 (by
     rw [QN] at hx
     by_cases e:i=id
     · rw [if_pos e] at hx;cases hx
     · rw [if_neg e] at hx;exact hx),
   inj:=fun i j b' T1 T2 h1 h2=>h.inj i j b' T1 T2 (hlv i h1) (hlv j h2),apart:=fun i b' T1 h1=>h.apart i b' T1 (hlv i h1) }
theorem qhw {E:Env} {nx:Nat→Prop} {c:Cx} {g:St} (h:Heap E nx c g) {old id:Nat} (hn:¬ nx id) {T:TypeId} {cells:List PV} (hg:g (kb old)=some (.blk T cells)) {ob:Option Nat} (ho:c.own old=some (ob,T)) :
  Keep c ⟨c.w,c.S,yN c.own id (ob,T)⟩∧Heap E (fun i=>nx i∨i=id) ⟨c.w,c.S,yN c.own id (ob,T)⟩ (over [(kb old,none),(kb id,some (.blk T cells))] g):=by
 have hf:=qcq h hn
 have hne:∀ i x,c.own i=some x→i≠id:=fun i x hx e=>by rw [e,hf] at hx;cases hx
 have hoi:old≠id:=hne _ _ ho
 have hk:Keep c ⟨c.w,c.S,yN c.own id (ob,T)⟩ :=
  ⟨fun b hb=>⟨hb,rfl⟩,fun i x hx=>by show yN _ _ _ _=_;rw [yS (hne i x hx)];exact hx,Shape.refl _⟩
 have hgo:∀ i,over [(kb old,none),(kb id,some (.blk T cells))] g (kb i)=if i=old then none else if i=id then some (.blk T cells) else g (kb i):=fun i=>by
  simp only [over,lk,YT]
  by_cases h1:i=old
  ·rw [decide_eq_true h1,if_pos rfl,if_pos h1]
  ·rw [decide_eq_false h1,if_neg (by simp),if_neg h1]
   by_cases h2:i=id
   ·rw [decide_eq_true h2,if_pos rfl,if_pos h2]
   ·rw [decide_eq_false h2,if_neg (by simp),if_neg h2]
 have hlv:∀ i,vC (over [(kb old,none),(kb id,some (.blk T cells))] g) i→i=id∨(i≠id∧i≠old∧vC g i):=fun i ⟨T',cs1,hx⟩=>by
  rw [hgo] at hx
  by_cases e1:i=old
  ·rw [if_pos e1] at hx;cases hx
  ·rw [if_neg e1] at hx
   by_cases e2:i=id
   ·exact .inl e2
   ·rw [if_neg e2] at hx;exact .inr ⟨e2,e1,T',cs1,hx⟩
 have hlo:vC g old:=⟨T,cells,hg⟩
 refine ⟨hk,{ ids:=fun i x hx=>?_,blk:=fun i T' cs' hx=>?_,inj:=fun i j b T1 T2 h1 h2 h3 h4=>?_,apart:=fun i b T1 h1 h2=>?_,bnd:=fun i b T1 h1=>?_,sok:=h.sok,
               os:=h.os,tape:=h.tape,output:=h.output,size:=h.size,same:=h.same,laid:=h.laid,s0:=h.s0,s1:=h.s1,keep:=h.keep.trans hk }⟩
 ·by_cases e:i=id
  ·exact .inr e
  ·exact .inl (h.ids i x (by rw [← yS (x:=(ob,T)) (own:=c.own) e];exact hx))
 ·rw [hgo] at hx
  by_cases e1:i=old
  ·rw [if_pos e1] at hx;cases hx
  ·rw [if_neg e1] at hx
   by_cases e2:i=id
   ·subst e2
    rw [if_pos rfl] at hx
    cases hx
    obtain ⟨ob',h1,h2⟩:=h.blk old _ _ hg
    rw [ho] at h1
    cases h1
    exact ⟨_,yB,h2.mono hk fun _ _=>rfl⟩
   ·rw [if_neg e2] at hx
    obtain ⟨ob',h1,h2⟩:=h.blk i _ _ hx
    exact ⟨ob',by show yN _ _ _ _=_;rw [yS e2];exact h1,h2.mono hk fun _ _=>rfl⟩
 ·have h3':yN c.own id (ob,T) i=_:=h3
  have h4':yN c.own id (ob,T) j=_:=h4
  rcases hlv i h1 with e1|⟨e1,e2,l1⟩ <;> rcases hlv j h2 with e3|⟨e3,e4,l2⟩
  ·omega
  ·subst e1
   rw [yB] at h3'
   rw [yS e3] at h4'
   simp only [Option.some.injEq,Prod.mk.injEq] at h3'
   exact absurd (h.inj j old b T2 T l2 hlo h4' (by rw [ho,h3'.1])) e4
  ·subst e3
   rw [yB] at h4'
   rw [yS e1] at h3'
   simp only [Option.some.injEq,Prod.mk.injEq] at h4'
   exact absurd (h.inj i old b T1 T l1 hlo h3' (by rw [ho,h4'.1])) e2
  ·rw [yS e1] at h3'
   rw [yS e3] at h4'
   exact h.inj i j b T1 T2 l1 l2 h3' h4'
 ·have h2':yN c.own id (ob,T) i=_:=h2
  rcases hlv i h1 with e1|⟨e1,e2,l1⟩
  ·subst e1
   rw [yB] at h2'
   simp only [Option.some.injEq,Prod.mk.injEq] at h2'
   exact h.apart old b T hlo (by rw [ho,h2'.1])
  ·rw [yS e1] at h2'
   exact h.apart i b T1 l1 h2'
 ·have h1':yN c.own id (ob,T) i=_:=h1
  by_cases e:i=id
  ·subst e
   rw [yB] at h1'
   simp only [Option.some.injEq,Prod.mk.injEq] at h1'
   exact h.bnd old b T (by rw [ho,h1'.1])
  ·rw [yS e] at h1'
   exact h.bnd i b T1 h1'
structure Out where
 pv:PV
 wb:L
 obs:List Prop
 reads:List Nat
inductive Plan where
 | fail
 | look (k:Nat) (f:Val→Plan)
 | ob (p:Prop) (q:Plan)
 | done (pv:PV) (wb:L)
def run (g:St):Plan→Option Out
 | .fail=>none
 | .look k f=>match g k with
  | some v=>match run g (f v) with
   | some o=>some { o with reads:=k :: o.reads }
   | none=>none
  | none=>none
 | .ob p q=>match run g q with
  | some o=>some { o with obs:=p :: o.obs }
  | none=>none
 | .done pv wb=>some ⟨pv,wb,[],[]⟩
theorem WG {g g':St}:∀ {p:Plan} {o:Out},run g p=some o→(∀ k∈o.reads,g' k=g k)→run g' p=some o
 | .fail,_,h,_=>by simp [run] at h
 | .look k f,o,h,hk=>by
  simp only [run] at h ⊢
  cases hg:g k with
  | none=>simp [hg] at h
  | some v =>
   simp only [hg] at h
   cases hr:run g (f v) with
   | none=>simp [hr] at h
   | some o' =>
    simp only [hr,Option.some.injEq] at h
    subst h
    rw [hk k (by simp),hg]
    simp only
    rw [WG hr fun k' hk'=>hk k' (by simp [hk'])]
 | .ob p q,o,h,hk=>by
  simp only [run] at h ⊢
  cases hr:run g q with
  | none=>simp [hr] at h
  | some o' =>
   simp only [hr,Option.some.injEq] at h
   subst h
   rw [WG hr fun k' hk'=>hk k' hk']
 | .done pv wb,o,h,_=>by simpa [run] using h

def wr (d:Option Nat) (o:Out):L:=wd d o.pv++o.wb
theorem ZL (l m:L) (g:St):over (l++m) g=over l (over m g):=by
 funext k
 induction l with
 | nil=>rfl
 | cons a l ih =>
  obtain ⟨j,x⟩:=a
  simp only [over,List.cons_append,lk] at ih ⊢
  by_cases h:Nat.beq k j=true
  ·simp [h]
  ·simp only [h];exact ih

def qgn (E:Env) (ops:Array Oper) (i:Nat) (o:Oper) (out:Out) (id:Nat) (g:St):Prop :=
 ∀ (nx:Nat→Prop) (c:Cx) (a:Act) (K:Act→World→Prop) (Q:Exit→Act→World→Prop),(∀ t,t<8→¬ nx (id+t))→Inv E nx c g a →
  (∀ c' a',Inv E (fun j=>nx j∨(id≤j∧j<id+8)) c' (over (wr o.dst out) g) a'→K a' c'.w)→wpOp E.P ops Q i K a c.w

theorem Inv.drawn {E:Env} {nx:Nat→Prop} {c:Cx} {g:St} {a:Act} (h:Inv E nx c g a) (k:Nat):Inv E nx ⟨{ c.w with drawn:=k },c.S,c.own⟩ g a:=by
 have hk:Keep c ⟨{ c.w with drawn:=k },c.S,c.own⟩:=⟨fun _ hb=>⟨hb,rfl⟩,fun _ _ hx=>hx,fun _ cs _ z hb=>⟨cs,z,hb,rfl⟩⟩
 exact { ids:=h.ids,blk:=fun id T cells hg=>by
           obtain ⟨ob,h1,h2⟩:=h.blk id T cells hg
           exact ⟨ob,h1,h2.mono hk fun _ _=>rfl⟩,
         inj:=h.inj,apart:=h.apart,bnd:=h.bnd,sok:=h.sok,os:=h.os,tape:=h.tape,output:=h.output,size:=h.size,same:=h.same,laid:=h.laid,s0:=h.s0,s1:=h.s1,keep:=h.keep.trans hk,
         tmps:=h.tmps,dfr:=h.dfr,slot:=fun s p hp=>(h.slot s p hp).mono hk,isv:=h.isv }
theorem Inv.more {E:Env} {nx nx':Nat→Prop} {c:Cx} {g:St} {a:Act} (h:Inv E nx c g a) (hn:∀ i,nx i→nx' i):Inv E nx' c g a:={ h with ids:=fun i x hx=>hn i (h.ids i x hx) }

section
variable (g0:St) (W:Nat→L)
def wJ (p:Nat→Bool):Nat→St
 | 0=>g0
 | m+1=>if p m then over (W m) (wJ p m) else wJ p m
def ZG (l:L) (k:Nat):Bool:=(lk k l).isSome
theorem Qv {l:L} {k:Nat} (h:ZG l k=false) (g:St):over l g k=g k:=by
 unfold ZG at h
 unfold over
 cases hx:lk k l with
 | none=>rfl
 | some x=>rw [hx] at h;cases h
theorem qfh {l:L} {k:Nat} (h:ZG l k=true) (g g':St):over l g k=over l g' k:=by
 unfold ZG at h
 unfold over
 cases hx:lk k l with
 | none=>rw [hx] at h;cases h
 | some x=>rfl
variable {g0 W}
theorem jw {p q:Nat→Bool} {k:Nat}:∀ {m:Nat},(∀ j,j<m→ZG (W j) k=true→p j=q j)→wJ g0 W p m k=wJ g0 W q m k
 | 0,_=>rfl
 | m+1,h=>by
  have ih:=jw (m:=m) fun j hj=>h j (by omega)
  simp only [wJ]
  by_cases hh:ZG (W m) k=true
  ·rw [h m (by omega) hh]
   by_cases hq:q m=true
   ·simp only [hq,if_true];exact qfh hh _ _
   ·simp only [hq];exact ih
  ·have hh':ZG (W m) k=false:=by simpa using hh
   by_cases hp:p m=true <;> by_cases hq:q m=true <;> simp only [hp,hq,if_true] <;> simp only [Qv hh',Bool.false_eq_true,if_false] <;> exact ih
def ZU (p:Nat→Bool) (i:Nat):Nat→Bool:=fun j=>if j=i then true else p j
theorem qby {p:Nat→Bool} {i:Nat} (hp:p i=false):∀ {m:Nat},i<m→(∀ j k,i<j→j<m→p j=true→ZG (W i) k=true→ZG (W j) k=false) →
  wJ g0 W (ZU p i) m=over (W i) (wJ g0 W p m)
 | m+1,hi,h=>by
  simp only [wJ]
  by_cases e:m=i
  ·subst e
   have:wJ g0 W (ZU p m) m=wJ g0 W p m:=by
    funext k
    exact jw fun j hj _=>by simp [ZU,Nat.ne_of_lt hj]
   rw [this,hp]
   simp [ZU]
  ·have ih:=qby (m:=m) hp (by omega) fun j k h1 h2=>h j k h1 (by omega)
   have ea:ZU p i m=p m:=by simp [ZU,e]
   rw [ea,ih]
   by_cases hm:p m=true
   ·simp only [hm,if_true]
    funext k
    by_cases hk:ZG (W i) k=true
    ·rw [Qv (h m k (by omega) (by omega) hm hk)]
     exact qfh hk _ _
    ·have hk':ZG (W i) k=false:=by simpa using hk
     rw [Qv hk' _]
     by_cases hk2:ZG (W m) k=true
     ·exact qfh hk2 _ _
     ·have hk3:ZG (W m) k=false:=by simpa using hk2
      rw [Qv hk3,Qv hk3,Qv hk']
   ·simp only [hm];rfl
end

section
variable {E:Env} {ops:Array Oper} {g0:St} {tab:Nat→Out} {n0:Nat}
def nxP (n0:Nat) (p:Nat→Bool):Nat→Prop:=fun id=>id<n0∨∃ j,p j=true∧n0+8*j≤id∧id<n0+8*j+8
def Wt (ops:Array Oper) (tab:Nat→Out) (i:Nat):L:=wr ((ops[i]?).bind (·.dst)) (tab i)
theorem nx_add {n0:Nat} {p:Nat→Bool} {i:Nat} {id:Nat} (h:nxP n0 p id∨(n0+8*i≤id∧id<n0+8*i+8)):nxP n0 (ZU p i) id:=by
 rcases h with (h|⟨j,h1,h2⟩)|h
 ·exact .inl h
 ·refine .inr ⟨j,?_,h2⟩
  unfold ZU
  split
  ·rfl
  ·exact h1
 ·exact .inr ⟨i,by simp [ZU],h⟩
theorem nx_new {n0:Nat} {p:Nat→Bool} {i:Nat} (hp:p i=false):∀ t,t<8→¬ nxP n0 p (n0+8*i+t):=by
 intro t ht h
 rcases h with h|⟨j,h1,h2,h3⟩
 ·omega
 ·have:j=i:=by omega
  subst this
  rw [hp] at h1
  cases h1

theorem seq_ops (hs:∀ i o,ops[i]? = some o→qgn E ops i o (tab i) (n0+8*i) (wJ g0 (Wt ops tab) (fun j=>decide (j<i)) ops.size)) {Q:Exit→Act→World→Prop}
  (hQ:∀ c a,Inv E (fun id=>id<n0+8*ops.size) c (wJ g0 (Wt ops tab) (fun _=>true) ops.size) a→Q .normal a c.w) :
  ∀ (r k:Nat),k+r=ops.size→∀ c a,Inv E (nxP n0 (fun j=>decide (j<k))) c (wJ g0 (Wt ops tab) (fun j=>decide (j<k)) ops.size) a →
   wpOps E.P ops Q ((List.range ops.size).drop k) a c.w
 | 0,k,hk,c,a,h=>by
  have e1:(List.range ops.size).drop k=[]:=by rw [List.drop_eq_nil_iff];simp;omega
  rw [e1]
  have e2:wJ g0 (Wt ops tab) (fun j=>decide (j<k)) ops.size=wJ g0 (Wt ops tab) (fun _=>true) ops.size:=by
   funext x
   exact jw fun j hj _=>by simp;omega
  rw [e2] at h
  refine hQ c a (h.more fun id hid=>?_)
  rcases hid with h1|⟨j,h1,h2,h3⟩
  ·show id<_;omega
  ·have:j<k:=by simpa using h1
   show id<_;omega
 | r+1,k,hk,c,a,h=>by
  have hlt:k<ops.size:=by omega
  rw [List.drop_eq_getElem_cons (by simpa using hlt),List.getElem_range,wpOps_cons]
  have ho:ops[k]? = some ops[k]:=by simp [hlt]
  refine hs k _ ho (nxP n0 (fun j=>decide (j<k))) c a _ Q (nx_new (by simp)) h fun c' a' h'=>?_
  refine seq_ops hs hQ r (k+1) (by omega) c' a' ?_
  have e:(fun j=>decide (j<k+1))=ZU (fun j=>decide (j<k)) k:=by
   funext j
   unfold ZU
   by_cases e:j=k
   ·subst e;simp
   ·simp [e];omega
  rw [e,qby (by simp) hlt fun j x h1 h2 h3=>by simp at h3;omega]
  have:Wt ops tab k=wr ops[k].dst (tab k):=by simp [Wt,ho]
  rw [this]
  exact h'.more fun id hid=>nx_add hid

def befs (ops:List Oper):List (List Nat):=ops.foldl (fun acc o=>acc++[o.after.toList.flatMap fun e=>if Region.binds .any e then e.on :: acc.getD e.on [] else []]) []

def befB (ops:List Oper) (bf:List (List Nat)):Bool:=(List.range ops.length).all fun j=>(ops[j]?).all fun o =>
 (o.after.all fun e=>!Region.binds .any e || decide (e.on<j)) && (bf.getD j []).all fun i=>o.after.any fun e=>Region.binds .any e && (Nat.beq e.on i || (bf.getD e.on []).contains i)
def Closed (ops:Array Oper) (p:Nat→Bool):Prop:=∀ j o,ops[j]? = some o→p j=true→∀ e∈o.after,Region.binds .any e=true→p e.on=true
theorem bef_done {l:List Oper} {bf:List (List Nat)} (hb:befB l bf=true) {p:Nat→Bool} (hp:Closed l.toArray p):∀ (j:Nat) (o:Oper),l[j]? = some o→(∀ e∈o.after,Region.binds .any e=true→p e.on=true)→∀ i∈bf.getD j [],p i=true:=by
 intro j
 induction j using Nat.strongRecOn with
 | ind j ih =>
  intro o ho hd i hi
  simp only [befB,List.all_eq_true,List.mem_range] at hb
  have h1:=hb j (List.getElem?_eq_some_iff.1 ho).1
  rw [ho] at h1
  simp only [Option.all_some,Bool.and_eq_true,Array.all_eq_true_iff_forall_mem,List.all_eq_true] at h1
  have h2:=h1.2 i hi
  rw [Array.any_eq_true'] at h2
  obtain ⟨e,he,h3⟩:=h2
  simp only [Bool.and_eq_true,Bool.or_eq_true] at h3
  have hpe:=hd e he h3.1
  rcases h3.2 with h4|h4
  ·rw [← Nat.eq_of_beq_eq_true h4];exact hpe
  ·have hlt:e.on<j:=by have:=h1.1 e he;rw [h3.1] at this;simpa using this
   have hil:e.on<l.length:=by have:=(List.getElem?_eq_some_iff.1 ho).1;omega
   exact ih e.on hlt l[e.on] (by simp [hil]) (fun e' he' hb'=>hp e.on l[e.on] (by simp [hil]) hpe e' he' hb') i (by simpa using h4)

def left (f:Nat→Bool):Nat→Nat
 | 0=>0
 | n+1=>left f n+(if f n then 0 else 1)
theorem qhq {f:Nat→Bool}:∀ {n:Nat},left f n=0→∀ i,i<n→f i=true
 | n+1,h,i,hi=>by
  unfold left at h
  by_cases e:i=n
  ·subst e
   by_cases hf:f i=true
   ·exact hf
   ·simp [hf] at h
  ·exact qhq (n:=n) (by omega) i (by omega)
theorem YL {f g:Nat→Bool}:∀ {n:Nat},(∀ i,i<n→f i=g i)→left f n=left g n
 | 0,_=>rfl
 | n+1,h=>by rw [left,left,h n (by omega),YL fun i hi=>h i (by omega)]
theorem left_add {f:Nat→Bool} {i:Nat} (hf:f i=false):∀ {n:Nat},i<n→left f n=left (ZU f i) n+1
 | n+1,h=>by
  by_cases e:i=n
  ·subst e
   rw [left,left,hf,YL (f:=ZU f i) (g:=f) (fun j hj=>by unfold ZU;rw [if_neg (by omega)])]
   simp [ZU]
  ·have e2:ZU f i n=f n:=by unfold ZU;rw [if_neg (by omega)]
   rw [left,left,left_add hf (n:=n) (by omega),e2]
   omega
theorem qar:∀ n,left (fun _=>false) n=n
 | 0=>rfl
 | n+1=>by rw [left,qar n];simp
theorem getD_some {listed:Array Bool} {i:Nat} (h:i<listed.size) (b c:Bool):listed.getD i b=listed.getD i c:=by
 rw [Array.getD_eq_getD_getElem?,Array.getD_eq_getD_getElem?,Array.getElem?_eq_getElem h];rfl
def qba (W:Nat→L) (rd:Nat→List Nat) (bf:List (List Nat)) (n:Nat):Bool :=
 (List.range n).all fun j=>(List.range j).all fun i=>(bf.getD j []).contains i ||
  (((W i).all fun x=>!ZG (W j) x.1 && !(rd j).contains x.1) && (W j).all fun x=>!(rd i).contains x.1)
theorem VT {l:L} {k:Nat} (h:ZG l k=true):∃ x∈l,x.1=k:=by
 induction l with
 | nil=>simp [ZG,lk] at h
 | cons a l ih =>
  obtain ⟨j,x⟩:=a
  simp only [ZG,lk] at h ih
  by_cases e:Nat.beq k j=true
  ·exact ⟨(j,x),by simp,(Nat.eq_of_beq_eq_true e).symm⟩
  ·simp only [e] at h
   obtain ⟨y,hy,h2⟩:=ih h
   exact ⟨y,by simp [hy],h2⟩
theorem qaz {W:Nat→L} {rd:Nat→List Nat} {bf:List (List Nat)} {n:Nat} (h:qba W rd bf n=true) {i j:Nat} (hij:i<j) (hj:j<n) (hn:i ∉ bf.getD j []) {k:Nat} :
  (ZG (W i) k=true→ZG (W j) k=false∧k ∉ rd j)∧(ZG (W j) k=true→k ∉ rd i):=by
 simp only [qba,List.all_eq_true,List.mem_range,Bool.or_eq_true,Bool.and_eq_true,Bool.not_eq_true'] at h
 rcases h j hj i hij with h1|h1
 ·exact absurd (by simpa using h1) hn
 ·refine ⟨fun hk=>?_,fun hk=>?_⟩
  ·obtain ⟨x,hx,rfl⟩:=VT hk
   have:=h1.1 x hx
   exact ⟨this.1,by simpa using this.2⟩
  ·obtain ⟨x,hx,rfl⟩:=VT hk
   simpa using h1.2 x hx

theorem any_ops {E:Env} {l:List Oper} {g0:St} {tab:Nat→Out} {n0:Nat} {bf:List (List Nat)} (hb:befB l bf=true) (hap:qba (Wt l.toArray tab) (fun i=>(tab i).reads) bf l.length=true)
  (hs:∀ i o,l[i]? = some o→∀ g,(∀ k∈(tab i).reads,g k=wJ g0 (Wt l.toArray tab) (fun j=>decide (j<i)) l.length k)→qgn E l.toArray i o (tab i) (n0+8*i) g) {Q:Exit→Act→World→Prop}
  (hQ:∀ c a,Inv E (fun id=>id<n0+8*l.length) c (wJ g0 (Wt l.toArray tab) (fun _=>true) l.length) a→Q .normal a c.w) :
  ∀ (fuel:Nat) (listed:Array Bool) (c:Cx) (a:Act),listed.size=l.length→left (fun i=>listed.getD i false) l.length=fuel→Closed l.toArray (fun i=>listed.getD i false) →
   Inv E (nxP n0 (fun j=>listed.getD j false)) c (wJ g0 (Wt l.toArray tab) (fun j=>listed.getD j false) l.length) a→wpAny E.P .any l.toArray Q fuel listed a c.w:=by
 have hall:∀ (listed:Array Bool) (c:Cx) (a:Act),listed.size=l.length→(∀ i,i<l.length→listed.getD i false=true) →
   Inv E (nxP n0 (fun j=>listed.getD j false)) c (wJ g0 (Wt l.toArray tab) (fun j=>listed.getD j false) l.length) a→Q .normal a c.w:=by
  intro listed c a hsz hA h
  have e2:wJ g0 (Wt l.toArray tab) (fun j=>listed.getD j false) l.length=wJ g0 (Wt l.toArray tab) (fun _=>true) l.length:=by
   funext x
   exact jw fun j hj _=>hA j hj
  rw [e2] at h
  refine hQ c a (h.more fun id hid=>?_)
  rcases hid with h1|⟨j,h1,h2,h3⟩
  ·show id<_;omega
  ·have:j<l.length:=by
    rcases Nat.lt_or_ge j l.length with h4|h4
    ·exact h4
    ·have h1':listed.getD j false=true:=h1
     rw [Array.getD_eq_getD_getElem?,Array.getElem?_eq_none (by omega)] at h1'
     cases h1'
   show id<_;omega
 have hnil:∀ (listed:Array Bool),listed.size=l.length→Region.ready .any l.toArray listed=[]→∀ i,i<l.length→listed.getD i false=true:=by
  intro listed hsz hr i
  induction i using Nat.strongRecOn with
  | ind i ih =>
   intro hi
   by_cases hl:listed.getD i false=true
   ·exact hl
   ·exfalso
    have hm:i∈Region.ready .any l.toArray listed:=mem_ready.2 ⟨by rw [getD_some (by omega) true false];simpa using hl,l[i],by simp [hi],fun e he hbd=>by
     simp only [befB,List.all_eq_true,List.mem_range] at hb
     have h1:=hb i hi
     rw [List.getElem?_eq_getElem hi] at h1
     simp only [Option.all_some,Bool.and_eq_true,Array.all_eq_true_iff_forall_mem] at h1
     have h2:e.on<i:=by have:=h1.1 e he;rw [hbd] at this;simpa using this
     exact ih e.on h2 (by omega)⟩
    rw [hr] at hm
    cases hm
 intro fuel
 induction fuel with
 | zero =>
  intro listed c a hsz hc hcl h
  have hA:=qhq hc
  refine ⟨?_,hall listed c a hsz hA h⟩
  cases hr:Region.ready .any l.toArray listed with
  | nil=>rfl
  | cons i r =>
   exfalso
   have hm:i∈Region.ready .any l.toArray listed:=by rw [hr];simp
   obtain ⟨h1,o,ho,_⟩:=mem_ready.1 hm
   have hi:i<l.length:=by simpa using (Array.getElem?_eq_some_iff.1 ho).1
   have:=hA i hi
   rw [getD_some (by omega) true false,this] at h1
   cases h1
 | succ fuel ih =>
  intro listed c a hsz hc hcl h
  refine ⟨fun hr=>hall listed c a hsz (hnil listed hsz hr) h,fun i hm=>?_⟩
  obtain ⟨h1,o,ho,hdeps⟩:=mem_ready.1 hm
  have ho':l[i]? = some o:=by simpa using ho
  have hi:i<l.length:=(List.getElem?_eq_some_iff.1 ho').1
  have hli:listed.getD i false=false:=by rw [getD_some (by omega) false true];exact h1
  have hbef:=bef_done hb hcl i o ho' hdeps
  -- what is listed and stands qay i is apart from i
  have hfar:∀ j,i<j→j<l.length→listed.getD j false=true→i ∉ bf.getD j []:=fun j hij hj hlj hmem=>by
   have:=bef_done hb hcl j l[j] (by simp [hj]) (hcl j l[j] (by simp [hj]) hlj) i hmem
   rw [hli] at this
   cases this
  refine hs i o ho' _ (fun k hk=>?_) _ c a _ Q (nx_new (by exact hli)) h fun c' a' h'=>?_
  ·refine jw fun j hj hh=>?_
   rcases Nat.lt_trichotomy j i with h2|h2|h2
   ·by_cases hmem:j∈bf.getD i []
    ·rw [hbef j hmem];simp [h2]
    ·exact absurd hk ((qaz hap h2 hi hmem).1 hh).2
   ·subst h2;rw [hli];simp
   ·have:¬ j<i:=by omega
    simp only [this,decide_false]
    cases hlj:listed.getD j false with
    | false=>rfl
    | true=>exact absurd hk ((qaz hap h2 hj (hfar j h2 hj hlj)).2 hh)
  ·have e:(fun j=>(listed.setIfInBounds i true).getD j false)=ZU (fun j=>listed.getD j false) i:=by
    funext j
    unfold ZU
    by_cases e:j=i
    ·subst e
     rw [if_pos rfl,Array.getD_eq_getD_getElem?]
     simp [hsz,hi]
    ·rw [if_neg e,getD_set_ne _ (Ne.symm e)]
   refine ih (listed.setIfInBounds i true) c' a' (by simpa using hsz) ?_ ?_ ?_
   ·have:=left_add (f:=fun i=>listed.getD i false) hli hi
    rw [e]
    omega
   ·intro j oj hj hjl e' he' hb'
    by_cases ej:j=i
    ·subst ej
     rw [ho] at hj
     cases hj
     exact getD_set_true (hdeps e' he' hb')
    ·have hjl':listed.getD j false=true:=by
      have h2:(listed.setIfInBounds i true).getD j false=true:=hjl
      rwa [getD_set_ne _ (Ne.symm ej)] at h2
     exact getD_set_true (hcl j oj hj hjl' e' he' hb')
   ·rw [e,qby (by exact hli) hi fun j x h2 h3 h4 h5=>((qaz hap h2 h3 (hfar j h2 h3 h4)).1 h5).1]
    have:Wt l.toArray tab i=wr o.dst (tab i):=by simp [Wt,ho']
    rw [this]
    exact h'.more fun id hid=>nx_add hid
end
inductive Ans where
 | no
 | gd (b:Bool) (a:Ans)
 | yes (b:Bool)
 | val (p:PV)
 | cells (l:List PV)
 | wrap
 | nat (e:Nat)
 | nat2 (o k:Nat)
 | app (s r:Option (List PV))
 | copy (n:Nat) (s r:List PV)
 | call (ids:List Nat) (args:List PV) (H:List (Option (TypeId × List PV))) (r:PV) (H':List (Option (TypeId × List PV)))
 | lay (js:List Nat) (a:Ans)
 | ext (ld:Bool)
 | callR (ids:List Nat) (args:List PV) (H:List (Option (TypeId × List PV))) (r:PV)

def Res (g:St) (pl:Plan) (p:PV) (wb:L):Prop:=∃ o,run g pl=some o∧o.pv=p∧o.wb=wb∧∀ q∈o.obs,q
theorem Res.look {g:St} {k:Nat} {f:Val→Plan} {p:PV} {wb:L} (h:Res g (.look k f) p wb):∃ v,g k=some v∧Res g (f v) p wb:=by
 obtain ⟨o,h1,h2,h3,h4⟩:=h
 simp only [run] at h1
 cases hg:g k with
 | none=>simp [hg] at h1
 | some v =>
  simp only [hg] at h1
  cases hr:run g (f v) with
  | none=>simp [hr] at h1
  | some o' =>
   simp only [hr,Option.some.injEq] at h1
   subst h1
   exact ⟨v,rfl,o',hr,h2,h3,h4⟩
theorem Res.ob {g:St} {q:Prop} {r:Plan} {p:PV} {wb:L} (h:Res g (.ob q r) p wb):q∧Res g r p wb:=by
 obtain ⟨o,h1,h2,h3,h4⟩:=h
 simp only [run] at h1
 cases hr:run g r with
 | none=>simp [hr] at h1
 | some o' =>
  simp only [hr,Option.some.injEq] at h1
  subst h1
  exact ⟨h4 q (by simp),o',hr,h2,h3,fun x hx=>h4 x (by simp [hx])⟩
theorem Res.done {g:St} {x:PV} {w:L} {p:PV} {wb:L} (h:Res g (.done x w) p wb):p=x∧wb=w:=by
 obtain ⟨o,h1,h2,h3,h4⟩:=h
 simp only [run,Option.some.injEq] at h1
 subst h1
 exact ⟨h2.symm,h3.symm⟩
theorem Res.fail {g:St} {p:PV} {wb:L} (h:Res g .fail p wb):False:=by
 obtain ⟨o,h1,_⟩:=h
 simp [run] at h1

def opd (x:Operand) (k:PV→Plan):Plan :=
 match x with
 | .tmp t=>.look (ks t) fun v=>match v with | .pv p=>k p | .blk _ _=>.fail
 | .const v=>k (.av v)
 | .global g=>k (.av (.pointer (some ⟨g,0,none⟩)))
 | .func f=>k (.av (.func (.func f) #[] #[]))
theorem Res.opd {E:Env} {nx:Nat→Prop} {c:Cx} {g:St} {a:Act} (hi:Inv E nx c g a) {x:Operand} {k:PV→Plan} {p:PV} {wb:L} (h:Res g (opd x k) p wb):∃ q,Rep E.P c q (a.eval x)∧Res g (k q) p wb:=by
 cases x with
 | tmp t =>
  obtain ⟨v,h1,h2⟩:=Res.look h
  cases v with
  | pv q=>exact ⟨q,hi.slot t q h1,h2⟩
  | blk T cs=>exact (Res.fail h2).elim
 | const v=>exact ⟨_,.sh (.av _),h⟩
 | global g=>exact ⟨_,.sh (.av _),h⟩
 | func f=>exact ⟨_,.sh (.av _),h⟩

def yy (E:Env) (o:Oper) (id:Nat) (pl:Plan):Prop :=
 ∀ (g:St) (p:PV) (wb:L),Res g pl p wb→∀ (nx:Nat→Prop) (c:Cx) (a:Act) (K:Act→World→Prop) (Q:Exit→Act→World→Prop),(∀ t,t<8→¬ nx (id+t))→Inv E nx c g a →
  (∀ c' a',Inv E (fun j=>nx j∨(id≤j∧j<id+8)) c' (over (wd o.dst p) (over wb g)) a'→K a' c'.w)→o.wp E.P a c.w K Q

section
variable {P:Program} {o:Oper} {b:Act} {w:World} {K:Act→World→Prop} {Q:Exit→Act→World→Prop}
theorem YD {v:Value} {w':World} (h:(execOp b.eval o).run P w = .ok (.value v) w') (hK:K (b.put o.dst v) w'):o.wp P b w K Q:=by
 unfold Oper.wp
 rw [h]
 exact hK
theorem ow_skip {w':World} (h:(execOp b.eval o).run P w = .ok .skip w') (hK:K (b.put o.dst undef) w'):o.wp P b w K Q:=by
 unfold Oper.wp
 rw [h]
 exact hK
end
theorem qx {E:Env} {nx:Nat→Prop} {c:Cx} {g:St} {a:Act} {o:Oper} {id:Nat} {K:Act→World→Prop} {Q:Exit→Act→World→Prop} {p:PV} {v:Value} (hd:∀ x,o.dst=some x→x<E.n) (hi:Inv E nx c g a)
  (hK:∀ c' a',Inv E (fun j=>nx j∨(id≤j∧j<id+8)) c' (over (wd o.dst p) (over [] g)) a'→K a' c'.w) (hv:Rep E.P c p v) (hr:(execOp a.eval o).run E.P c.w = .ok (.value v) c.w):o.wp E.P a c.w K Q :=
 YD hr (hK c _ (hi.pure (fun _ h=>.inl h) o.dst hd fun _=>hv))

/-! ### inversions -/
section
variable {P:Program} {c:Cx} {v:Value}
theorem zH {x:Value} (h:Rep P c (.av x) v):v=x:=by
 cases h with
 | sh h=>cases h;rfl
theorem ZJ {cs:List PV} (h:Rep P c (.agg cs) v):∃ vs:Array Value,v = .agg vs∧vs.size=cs.length∧∀ i,i<cs.length→Rep P c (cs.getD i P0) (vs.getD i undef):=by
 cases h with
 | sh h=>cases h with | agg hn h=>exact ⟨_,rfl,hn,fun i hi=>.sh (h i hi)⟩
 | agg hn h=>exact ⟨_,rfl,hn,h⟩
theorem qiz {cs:List PV} (h:Rep P c (.tup cs) v):∃ vs:Array Value,v = .tuple vs∧vs.size=cs.length∧∀ i,i<cs.length→Rep P c (cs.getD i P0) (vs.getD i undef):=by
 cases h with
 | sh h=>cases h with | tup hn h=>exact ⟨_,rfl,hn,fun i hi=>.sh (h i hi)⟩
 | tup hn h=>exact ⟨_,rfl,hn,h⟩
theorem rep_fn {f:Fn} {cs ds:List PV} (h:Rep P c (.fn f cs ds) v):∃ vs us:Array Value,v = .func f vs us∧vs.size=cs.length∧us.size=ds.length∧(∀ i,i<cs.length→Rep P c (cs.getD i P0) (vs.getD i undef))∧∀ i,i<ds.length→Rep P c (ds.getD i P0) (us.getD i undef):=by
 cases h with
 | sh h=>cases h with | fn hn h hm k=>exact ⟨_,_,rfl,hn,hm,fun i hi=>.sh (h i hi),fun i hi=>.sh (k i hi)⟩
 | fn hn h hm k=>exact ⟨_,_,rfl,hn,hm,h,k⟩
theorem rep_err (h:Rep P c .err v):∃ t u,v = .iface t u:=by
 cases h with
 | sh h=>cases h with | err t u=>exact ⟨t,u,rfl⟩
theorem jy {id off len:Nat} (h:Rep P c (.osl id off len) v):∃ ob T,c.own id=some (ob,T)∧OslOk P c.w ob T off len v:=by
 cases h with
 | sh h=>cases h
 | osl ho h=>exact ⟨_,_,ho,h⟩
theorem wk {id off:Nat} (h:Rep P c (.opt id off) v):∃ b T,c.own id=some (some b,T)∧v = .pointer (some ⟨b,off,none⟩):=by
 cases h with
 | sh h=>cases h
 | opt ho=>exact ⟨_,_,ho,rfl⟩
theorem YB {cs:List PV} {off len:Nat} (h:Rep P c (.ssl cs off len) v):(∃ a cap,v = .slice a 0 cap∧len=0)∨∃ (b a cap:Nat) (vf:Nat→Value),v = .slice (some ⟨b,a+off,none⟩) len cap∧c.S b∧(∀ j,j<cs.length→c.w.cell? ⟨b,a+j,none⟩=some (vf j)) ∧
  (∀ j,j<cs.length→SRep c.w c.S (cs.getD j P0) (vf j))∧wM cs∧len≤cap:=by
 cases h with
 | sh h=>cases h with
  | emp=>exact .inl ⟨_,_,rfl,rfl⟩
  | ssl hS hc h ho hl=>exact .inr ⟨_,_,_,_,rfl,hS,hc,h,ho,hl⟩
theorem WI {cs:List PV} {off:Nat} (h:Rep P c (.spt cs off) v):∃ (b a:Nat) (vf:Nat→Value),v = .pointer (some ⟨b,a+off,none⟩)∧c.S b∧(∀ j,j<cs.length→c.w.cell? ⟨b,a+j,none⟩=some (vf j)) ∧
  (∀ j,j<cs.length→SRep c.w c.S (cs.getD j P0) (vf j))∧wM cs:=by
 cases h with
 | sh h=>cases h with
  | spt hS hc h ho=>exact ⟨_,_,_,rfl,hS,hc,h,ho⟩
end

/-! ### moves,picks,parts of tuples -/
def aMove (x:Operand):Plan:=opd x fun q=>.done q []
theorem aMove_ok {E:Env} {o:Oper} {id:Nat} {x:Operand} (ho:o.op = .move x∨o.op = .assign x) (hd:∀ x,o.dst=some x→x<E.n):yy E o id (aMove x):=by
 intro g p wb h nx c a K Q hn hi hK
 obtain ⟨q,hq,h⟩:=Res.opd hi h
 obtain ⟨rfl,rfl⟩:=Res.done h
 refine qx hd hi hK hq ?_
 rcases ho with ho|ho <;> simp [execOp,ho]
def aPick (cx x y:Operand) (an:Ans):Plan:=opd cx fun q=>match q,an with
 | .av (.bool t),.yes true=>.ob (t=true) (opd x fun q=>.done q [])
 | .av (.bool t),.yes false=>.ob (t=false) (opd y fun q=>.done q [])
 | .av (.bool true),_=>opd x fun q=>.done q []
 | .av (.bool false),_=>opd y fun q=>.done q []
 | _,_=>.fail
theorem aPick_ok {E:Env} {o:Oper} {id:Nat} {cx x y:Operand} {an:Ans} (ho:o.op = .pick cx x y) (hd:∀ x,o.dst=some x→x<E.n):yy E o id (aPick cx x y an):=by
 intro g p wb h nx c a K Q hn hi hK
 obtain ⟨q,hq,h⟩:=Res.opd hi h
 split at h
 ·obtain ⟨rfl,h1⟩:=Res.ob h
  obtain ⟨q',hq',h2⟩:=Res.opd hi h1
  obtain ⟨rfl,rfl⟩:=Res.done h2
  have:=zH hq
  exact qx hd hi hK hq' (by simp [execOp,ho,this,asBool])
 ·obtain ⟨rfl,h1⟩:=Res.ob h
  obtain ⟨q',hq',h2⟩:=Res.opd hi h1
  obtain ⟨rfl,rfl⟩:=Res.done h2
  have:=zH hq
  exact qx hd hi hK hq' (by simp [execOp,ho,this,asBool])
 ·obtain ⟨q',hq',h⟩:=Res.opd hi h
  obtain ⟨rfl,rfl⟩:=Res.done h
  have:=zH hq
  exact qx hd hi hK hq' (by simp [execOp,ho,this,asBool])
 ·obtain ⟨q',hq',h⟩:=Res.opd hi h
  obtain ⟨rfl,rfl⟩:=Res.done h
  have:=zH hq
  exact qx hd hi hK hq' (by simp [execOp,ho,this,asBool])
 ·exact (Res.fail h).elim
def aExtract (t:Operand) (ix:Nat):Plan:=opd t fun q=>match q with
 | .tup cs=>match Nat.ble (ix+1) cs.length with | true=>.done (cs.getD ix P0) [] | false=>.fail
 | _=>.fail
theorem aExtract_ok {E:Env} {o:Oper} {id:Nat} {t:Operand} {ix:Nat} (ho:o.op = .extract t ix) (hd:∀ x,o.dst=some x→x<E.n):yy E o id (aExtract t ix):=by
 intro g p wb h nx c a K Q hn hi hK
 obtain ⟨q,hq,h⟩:=Res.opd hi h
 split at h
 ·rename_i cs
  split at h
  ·rename_i hb
   have hb:=Nat.le_of_ble_eq_true hb
   obtain ⟨rfl,rfl⟩:=Res.done h
   obtain ⟨vs,hv,hs,hr⟩:=qiz hq
   refine qx hd hi hK (hr ix (by omega)) ?_
   have hlt:ix<vs.size:=by omega
   simp [execOp,ho,hv,Instr.extract,hlt]
  ·exact (Res.fail h).elim
 ·exact (Res.fail h).elim
def InK (k:IntKind) (n:Int):Prop:=match k with
 | .i8 => -128≤n∧n≤127
 | .i16 => -32768≤n∧n≤32767
 | .i32 => -2147483648≤n∧n≤2147483647
 | .i64 => -9223372036854775808≤n∧n≤9223372036854775807
 | .u8=>0≤n∧n≤255
 | .u16=>0≤n∧n≤65535
 | .u32=>0≤n∧n≤4294967295
 | .u64=>0≤n∧n≤18446744073709551615
theorem wrap_in {k:IntKind} {n:Int} (h:InK k n):k.wrap n=n:=by
 cases k <;> simp only [InK] at h <;> simp [IntKind.wrap,IntKind.bits,IntKind.signed] <;> omega

def num (k:IntKind) (n:Int) (an:Ans):Plan:=match an with
 | .wrap=>.done (.av (.int k (k.wrap n))) []
 | _=>.ob (InK k n) (.done (.av (.int k n)) [])
def bit (b:Bool):Plan:=.done (.av (.bool b)) []
def tellS (an:Ans) (t:ByteArray):Plan:=match an with
 | .val (.av (.string u))=>.ob (t=u) (.done (.av (.string u)) [])
 | _=>.done (.av (.string t)) []
def tellB (an:Ans) (b:Bool):Plan:=match an with
 | .val (.av (.bool u))=>.ob (b=u) (bit u)
 | _=>bit b
theorem tellS_ok {an:Ans} {t:ByteArray} {g:St} {p:PV} {wb:L} (h:Res g (tellS an t) p wb):p = .av (.string t)∧wb=[]:=by
 unfold tellS at h
 split at h
 ·obtain ⟨rfl,h1⟩:=Res.ob h
  exact Res.done h1
 ·exact Res.done h
theorem tellB_ok {an:Ans} {b:Bool} {g:St} {p:PV} {wb:L} (h:Res g (tellB an b) p wb):p = .av (.bool b)∧wb=[]:=by
 unfold tellB at h
 split at h
 ·obtain ⟨rfl,h1⟩:=Res.ob h
  exact Res.done h1
 ·exact Res.done h
def pInt (op:BinOp) (k:IntKind) (a b:Int) (an:Ans):Plan:=match op with
 | .add=>num k (a+b) an
 | .sub=>num k (a-b) an
 | .mul=>num k (a*b) an
 | .quo=>.ob (b≠0) (num k (a.tdiv b) an)
 | .rem=>.ob (b≠0) (.done (.av (.int k (a.tmod b))) [])
 | .and=>.done (.av (.int k (k.wrap (BitVec.ofInt k.bits a &&& BitVec.ofInt k.bits b).toNat))) []
 | .or=>.done (.av (.int k (k.wrap (BitVec.ofInt k.bits a ||| BitVec.ofInt k.bits b).toNat))) []
 | .xor=>.done (.av (.int k (k.wrap (BitVec.ofInt k.bits a ^^^ BitVec.ofInt k.bits b).toNat))) []
 | .andNot=>.done (.av (.int k (k.wrap (BitVec.ofInt k.bits a &&& ~~~ BitVec.ofInt k.bits b).toNat))) []
 | .eql=>bit (decide (a=b))
 | .neq=>bit (!decide (a=b))
 | .lss=>bit (decide (a<b))
 | .leq=>bit (decide (a≤b))
 | .gtr=>bit (decide (b<a))
 | .geq=>bit (decide (b≤a))
 | _=>.fail
def flo (k:FloatKind) (r:Option Nat) (an:Ans):Plan:=match an with
 | .nat e=>.ob (r=some e) (.done (.av (.float k e)) [])
 | _=>.fail
def pFlo (op:BinOp) (k:FloatKind) (a b:Nat) (an:Ans):Plan:=match op with
 | .add=>flo k (k.format.add a b) an
 | .sub=>flo k (k.format.sub a b) an
 | .mul=>flo k (k.format.mul a b) an
 | .quo=>flo k (k.format.div a b) an
 | .eql=>bit (k.format.order a b == some .eq)
 | .neq=>bit (k.format.order a b != some .eq)
 | .lss=>bit (k.format.order a b == some .lt)
 | .leq=>bit (k.format.order a b == some .lt || k.format.order a b == some .eq)
 | .gtr=>bit (k.format.order a b == some .gt)
 | .geq=>bit (k.format.order a b == some .gt || k.format.order a b == some .eq)
 | _=>.fail
def shl (k:IntKind) (a b:Int) (an:Ans):Plan:=.ob (0≤b∧b≤k.bits) (num k (a*2 ^ b.toNat) an)
def shr (k:IntKind) (a b:Int):Plan:=.ob (0≤b∧b≤k.bits) (.done (.av (.int k (a.fdiv (2 ^ b.toNat)))) [])
def aBin (op:BinOp) (_T:TypeId) (x y:Operand) (u:Option TypeDesc) (an:Ans):Plan:=opd x fun p=>opd y fun q=>match op,p,q with
 | .shl,.av (.int k a),.av (.int _ b)=>shl k a b an
 | .shr,.av (.int k a),.av (.int _ b)=>shr k a b
 | op,.av (.int k a),.av (.int k' b)=>if k=k' then pInt op k a b an else .fail
 | op,.av (.float k a),.av (.float k' b)=>if k=k' then pFlo op k a b an else .fail
 | .add,.av (.string a),.av (.string b)=>.ob (((a.size+b.size:Nat):Int)≤9223372036854775807) (tellS an (a++b))
 | .eql,.av (.string a),.av (.string b)=>tellB an (a.toList == b.toList)
 | .neq,.av (.string a),.av (.string b)=>tellB an (!(a.toList == b.toList))
 | .lss,.av (.string a),.av (.string b)=>bit (Op.bytesLess a.toList b.toList)
 | .gtr,.av (.string a),.av (.string b)=>bit (!(Op.bytesLess a.toList b.toList || a.toList == b.toList))
 | .eql,.av (.bool a),.av (.bool b)=>match u with | some .bool=>bit (a == b) | _=>.fail
 | .neq,.av (.bool a),.av (.bool b)=>match u with | some .bool=>bit (!(a == b)) | _=>.fail
 | _,_,_=>.fail

theorem qan {k:IntKind} {n:Int} {an:Ans} {g:St} {p:PV} {wb:L} (h:Res g (num k n an) p wb):p = .av (.int k (k.wrap n))∧wb=[]:=by
 unfold num at h
 split at h
 ·exact Res.done h
 ·obtain ⟨h1,h2⟩:=Res.ob h
  obtain ⟨rfl,rfl⟩:=Res.done h2
  rw [wrap_in h1]
  exact ⟨rfl,rfl⟩
theorem run_int {P:Program} {w:World} {op:BinOp} {k:IntKind} {a b:Int} {an:Ans} {g:St} {p:PV} {wb:L} (h:Res g (pInt op k a b an) p wb) (h1:op≠.shl) (h2:op≠.shr) (T:TypeId) :
  ∃ v,p = .av v∧wb=[]∧(binOp op T (.int k a) (.int k b)).run P w = .ok v w:=by
 cases op <;> simp only [pInt] at h <;> try exact (Res.fail h).elim
 case add=>obtain ⟨rfl,rfl⟩:=qan h;exact ⟨_,rfl,rfl,by simp [binOp,Op.intArith]⟩
 case sub=>obtain ⟨rfl,rfl⟩:=qan h;exact ⟨_,rfl,rfl,by simp [binOp,Op.intArith]⟩
 case mul=>obtain ⟨rfl,rfl⟩:=qan h;exact ⟨_,rfl,rfl,by simp [binOp,Op.intArith]⟩
 case quo=>obtain ⟨h0,h⟩:=Res.ob h;obtain ⟨rfl,rfl⟩:=qan h;exact ⟨_,rfl,rfl,by simp [binOp,Op.intDiv,h0]⟩
 case rem=>obtain ⟨h0,h⟩:=Res.ob h;obtain ⟨rfl,rfl⟩:=Res.done h;exact ⟨_,rfl,rfl,by simp [binOp,Op.intDiv,h0]⟩
 all_goals
  obtain ⟨rfl,rfl⟩:=Res.done h
  refine ⟨_,rfl,rfl,?_⟩
  first
   | (simp [binOp,Op.intBits];done)
   | (simp [binOp,Op.intCmp];done)
   | (simp [binOp,Op.intCmp];rfl)
   | (simp [binOp,Op.intCmp,Int.beq_eq_decide_eq,bne])
theorem qkc {k:FloatKind} {r:Option Nat} {an:Ans} {g:St} {p:PV} {wb:L} (h:Res g (flo k r an) p wb):∃ e,r=some e∧p = .av (.float k e)∧wb=[]:=by
 unfold flo at h
 split at h
 ·obtain ⟨h1,h2⟩:=Res.ob h
  obtain ⟨rfl,rfl⟩:=Res.done h2
  exact ⟨_,h1,rfl,rfl⟩
 ·exact (Res.fail h).elim
theorem run_flo {P:Program} {w:World} {op:BinOp} {k:FloatKind} {a b:Nat} {an:Ans} {g:St} {p:PV} {wb:L} (h:Res g (pFlo op k a b an) p wb) (T:TypeId) :
  ∃ v,p = .av v∧wb=[]∧(binOp op T (.float k a) (.float k b)).run P w = .ok v w:=by
 cases op <;> simp only [pFlo] at h <;> try exact (Res.fail h).elim
 case add=>obtain ⟨e,h1,rfl,rfl⟩:=qkc h;exact ⟨_,rfl,rfl,by simp [binOp,Op.floatArith,h1]⟩
 case sub=>obtain ⟨e,h1,rfl,rfl⟩:=qkc h;exact ⟨_,rfl,rfl,by simp [binOp,Op.floatArith,h1]⟩
 case mul=>obtain ⟨e,h1,rfl,rfl⟩:=qkc h;exact ⟨_,rfl,rfl,by simp [binOp,Op.floatArith,h1]⟩
 case quo=>obtain ⟨e,h1,rfl,rfl⟩:=qkc h;exact ⟨_,rfl,rfl,by simp [binOp,Op.floatArith,h1]⟩
 all_goals
  obtain ⟨rfl,rfl⟩:=Res.done h
  exact ⟨_,rfl,rfl,by simp [binOp,Op.floatCmp]⟩
theorem eqGuard_int {P:Program} {w:World} {op:BinOp} {T:TypeId} {x y:Operand} {v u:Value} (hv:(∀ cs,v≠.agg cs)∧v≠.nilIface):(eqGuard op T x y v u).run P w = .ok () w:=by
 obtain ⟨h1,h2⟩:=hv
 cases v
 case agg cs=>exact absurd rfl (h1 cs)
 case nilIface=>exact absurd rfl h2
 all_goals cases op <;> simp [eqGuard]
theorem VL {P:Program} {w:World} {T:TypeId} (hu:P.underlying T=some .bool) (a b:Bool):(Op.equal T (.bool a) (.bool b)).run P w = .ok (a == b) w:=by
 unfold Op.equal
 rw [show Op.maxDepth=9999+1 from rfl,Op.equalIn]
 simp only [Sem.run_bind,run_underlying hu,Result.andThen_ok]
 rfl
theorem run_eq_bool {P:Program} {w:World} {T:TypeId} (hu:P.underlying T=some .bool) (a b:Bool):(binOp .eql T (.bool a) (.bool b)).run P w = .ok (.bool (a == b)) w:=by
 show (do pure (.bool (← Op.equal T (.bool a) (.bool b))):Sem Value).run P w=_
 simp only [Sem.run_bind,VL hu,Result.andThen_ok]
 rfl
theorem run_ne_bool {P:Program} {w:World} {T:TypeId} (hu:P.underlying T=some .bool) (a b:Bool):(binOp .neq T (.bool a) (.bool b)).run P w = .ok (.bool (!(a == b))) w:=by
 show (do pure (.bool (!(← Op.equal T (.bool a) (.bool b)))):Sem Value).run P w=_
 simp only [Sem.run_bind,VL hu,Result.andThen_ok]
 rfl
set_option maxHeartbeats 1000000 in
theorem aBin_ok {E:Env} {o:Oper} {id:Nat} {op:BinOp} {T U:TypeId} {x y:Operand} {an:Ans} (ho:o.op = .binOp op T x y U) (hd:∀ x,o.dst=some x→x<E.n):yy E o id (aBin op T x y (E.P.underlying T) an):=by
 intro g p wb h nx c a K Q hn hi hK
 obtain ⟨q1,hq1,h1⟩:=Res.opd hi h
 obtain ⟨q2,hq2,h2⟩:=Res.opd hi h1
 have key:∀ {v1 v2 v:Value},q1 = .av v1→q2 = .av v2→((∀ cs,v1≠.agg cs)∧v1≠.nilIface)→(binOp op T v1 v2).run E.P c.w = .ok v c.w→p = .av v→wb=[]→o.wp E.P a c.w K Q:=by
  intro v1 v2 v e1 e2 hg hr ep ew
  subst e1;subst e2;subst ep;subst ew
  refine qx hd hi hK (.sh (.av v)) ?_
  simp [execOp,ho,zH hq1,zH hq2,eqGuard_int hg,hr]
 clear h h1
 split at h2
 ·simp only [shl] at h2
  obtain ⟨h3,h4⟩:=Res.ob h2
  obtain ⟨e1,e2⟩:=qan h4
  refine key rfl rfl (by simp) ?_ e1 e2
  have e:min (Int.toNat _) (IntKind.bits _)=Int.toNat _:=Nat.min_eq_left (Int.toNat_le.2 h3.2)
  simp [binOp,Op.shift,Int.not_lt.2 h3.1,e]
 ·simp only [shr] at h2
  obtain ⟨h3,h4⟩:=Res.ob h2
  obtain ⟨e1,e2⟩:=Res.done h4
  refine key rfl rfl (by simp) ?_ e1 e2
  have e:min (Int.toNat _) (IntKind.bits _)=Int.toNat _:=Nat.min_eq_left (Int.toNat_le.2 h3.2)
  simp [binOp,Op.shift,Int.not_lt.2 h3.1,e]
 ·rename_i hs1 hs2
  split at h2
  ·rename_i hk
   subst hk
   obtain ⟨v,e1,e2,hr⟩:=run_int (P:=E.P) (w:=c.w) h2 hs1 hs2 T
   exact key rfl rfl (by simp) hr e1 e2
  ·exact (Res.fail h2).elim
 ·split at h2
  ·rename_i hk
   subst hk
   obtain ⟨v,e1,e2,hr⟩:=run_flo (P:=E.P) (w:=c.w) h2 T
   exact key rfl rfl (by simp) hr e1 e2
  ·exact (Res.fail h2).elim
 ·obtain ⟨h3,h4⟩:=Res.ob h2
  obtain ⟨e1,e2⟩:=tellS_ok h4
  refine key rfl rfl (by simp) ?_ e1 e2
  simp [binOp,Op.stringOp,IntKind.max,IntKind.signed,IntKind.bits]
  omega
 ·obtain ⟨e1,e2⟩:=tellB_ok h2
  exact key rfl rfl (by simp) (by simp [binOp,Op.stringOp]) e1 e2
 ·obtain ⟨e1,e2⟩:=tellB_ok h2
  exact key rfl rfl (by simp) (by simp [binOp,Op.stringOp]) e1 e2
 ·obtain ⟨e1,e2⟩:=Res.done h2
  exact key rfl rfl (by simp) (by simp [binOp,Op.stringOp]) e1 e2
 ·obtain ⟨e1,e2⟩:=Res.done h2
  exact key rfl rfl (by simp) (by simp [binOp,Op.stringOp]) e1 e2
 ·split at h2
  ·rename_i hu
   obtain ⟨e1,e2⟩:=Res.done h2
   exact key rfl rfl (by simp) (run_eq_bool hu _ _) e1 e2
  ·exact (Res.fail h2).elim
 ·split at h2
  ·rename_i hu
   obtain ⟨e1,e2⟩:=Res.done h2
   exact key rfl rfl (by simp) (run_ne_bool hu _ _) e1 e2
  ·exact (Res.fail h2).elim
 ·exact (Res.fail h2).elim

def aUn (op:UnOp) (x:Operand) (an:Ans):Plan:=opd x fun p=>match op,p with
 | .not,.av (.bool b)=>bit (!b)
 | .neg,.av (.int k a)=>num k (0-a) an
 | .xor,.av (.int k a)=>.done (.av (.int k (k.wrap (BitVec.ofInt k.bits (if k.signed then -1 else k.max) ^^^ BitVec.ofInt k.bits a).toNat))) []
 | _,_=>.fail
theorem aUn_ok {E:Env} {o:Oper} {id:Nat} {op:UnOp} {T:TypeId} {x:Operand} {an:Ans} (ho:o.op = .unOp op T x) (hd:∀ x,o.dst=some x→x<E.n):yy E o id (aUn op x an):=by
 intro g p wb h nx c a K Q hn hi hK
 obtain ⟨q1,hq1,h1⟩:=Res.opd hi h
 clear h
 split at h1
 ·obtain ⟨rfl,rfl⟩:=Res.done h1
  exact qx hd hi hK (.sh (.av _)) (by simp [execOp,ho,zH hq1,Op.unary])
 ·obtain ⟨rfl,rfl⟩:=qan h1
  exact qx hd hi hK (.sh (.av _)) (by simp [execOp,ho,zH hq1,Op.unary,Op.intArith])
 ·obtain ⟨rfl,rfl⟩:=Res.done h1
  exact qx hd hi hK (.sh (.av _)) (by simp [execOp,ho,zH hq1,Op.unary,Op.intBits])
 ·exact (Res.fail h1).elim

def CutTo (s:FloatKind) (b:Nat) (k:IntKind) (n:Int):Prop:=(s.decode b).toInt .zero=some n∧k.min≤n∧n≤k.max
def aConv (us ud:Option TypeDesc) (x:Operand) (an:Ans):Plan:=opd x fun p=>match us,ud,p with
 | some (.int _),some (.int k),.av (.int _ n)=>num k n an
 | some .string,some .string,.av (.string s)=>.done (.av (.string s)) []
 | some (.int _),some (.float k),.av (.int _ n)=>.done (.av (.float k (k.nearest n))) []
 | some (.float _),some (.int k),.av (.float s b)=>match an with
  | .val (.av (.int k' n))=>if k=k' then .ob (CutTo s b k n) (.done (.av (.int k n)) []) else .fail
  | _=>.fail
 | _,_,_=>.fail
theorem aConv_ok {E:Env} {o:Oper} {id:Nat} {s d:TypeId} {x:Operand} {an:Ans} (ho:o.op = .convert s d x) (hd:∀ x,o.dst=some x→x<E.n):yy E o id (aConv (E.P.underlying s) (E.P.underlying d) x an):=by
 intro g p wb h nx c a K Q hn hi hK
 obtain ⟨q1,hq1,h1⟩:=Res.opd hi h
 clear h
 split at h1
 ·rename_i hu1 hu2
  obtain ⟨rfl,rfl⟩:=qan h1
  exact qx hd hi hK (.sh (.av _)) (by simp [execOp,ho,zH hq1,convert,run_underlying hu1,run_underlying hu2,Conv.intToInt])
 ·rename_i hu1 hu2
  obtain ⟨rfl,rfl⟩:=Res.done h1
  exact qx hd hi hK (.sh (.av _)) (by simp [execOp,ho,zH hq1,convert,run_underlying hu1,run_underlying hu2])
 ·rename_i hu1 hu2
  obtain ⟨rfl,rfl⟩:=Res.done h1
  exact qx hd hi hK (.sh (.av _)) (by simp [execOp,ho,zH hq1,convert,run_underlying hu1,run_underlying hu2,Conv.intToFloat])
 ·rename_i hu1 hu2
  split at h1
  ·split at h1
   ·rename_i hk
    subst hk
    obtain ⟨⟨c1,c2,c3⟩,h3⟩:=Res.ob h1
    obtain ⟨rfl,rfl⟩:=Res.done h3
    exact qx hd hi hK (.sh (.av _)) (by simp [execOp,ho,zH hq1,convert,run_underlying hu1,run_underlying hu2,Conv.floatToInt,c1,c2,c3])
   ·exact (Res.fail h1).elim
  ·exact (Res.fail h1).elim
 ·exact (Res.fail h1).elim
theorem vQ {P:Program} {w:World} {e:TypeId} {i:TypeInfo} (h:P.info? e=some i):(sizeOf e).run P w = .ok i.size w:=by
 simp [sizeOf,typeInfo,h]
theorem wQ {P:Program} {e:TypeId} {i:TypeInfo} (h:P.info? e=some i):P.cellsOf e=i.size:=by simp [Program.cellsOf,h]

def aLen (u:Option TypeDesc) (x:Operand):Plan:=opd x fun p=>match u,p with
 | some .string,.av (.string s)=>.done (.av (.int .i64 s.size)) []
 | some (.slice _),.ssl _ _ n=>.done (.av (.int .i64 n)) []
 | some (.slice _),.osl _ _ n=>.done (.av (.int .i64 n)) []
 | some (.slice _),.av (.slice _ n _)=>.done (.av (.int .i64 n)) []
 | some (.array n _),_=>.done (.av (.int .i64 n)) []
 | _,_=>.fail
theorem ssl_len {P:Program} {c:Cx} {v:Value} {cs:List PV} {off n:Nat} (h:Rep P c (.ssl cs off n) v):∃ a cap,v = .slice a n cap:=by
 rcases YB h with ⟨a,cap,rfl,rfl⟩|⟨b,a,cap,vf,rfl,_⟩
 ·exact ⟨_,_,rfl⟩
 ·exact ⟨_,_,rfl⟩
theorem osl_len {P:Program} {c:Cx} {v:Value} {id off n:Nat} (h:Rep P c (.osl id off n) v):∃ a cap,v = .slice a n cap:=by
 obtain ⟨ob,T,_,h⟩:=jy h
 rcases h with ⟨a,rfl,rfl⟩|⟨b,cap,cs,_,rfl,_⟩
 ·exact ⟨_,_,rfl⟩
 ·exact ⟨_,_,rfl⟩
theorem aLen_ok {E:Env} {o:Oper} {id:Nat} {x:Operand} {T:TypeId} {ts:Array TypeId} (ho:o.op = .call { callee:=.builtin .len,args := #[x],argTypes:=ts }) (ht:ts[0]? = some T) (hd:∀ x,o.dst=some x→x<E.n):yy E o id (aLen (E.P.underlying T) x):=by
 intro g p wb h nx c a K Q hn hi hK
 obtain ⟨q1,hq1,h1⟩:=Res.opd hi h
 clear h
 split at h1
 ·rename_i hu
  obtain ⟨rfl,rfl⟩:=Res.done h1
  exact qx hd hi hK (.sh (.av _)) (by simp [execOp,ho,resolve,invoke,builtin,zH hq1,Builtin.len_,ht,run_underlying hu,goInt])
 ·rename_i hu
  obtain ⟨rfl,rfl⟩:=Res.done h1
  obtain ⟨a',cap,hv⟩:=ssl_len hq1
  exact qx hd hi hK (.sh (.av _)) (by simp [execOp,ho,resolve,invoke,builtin,hv,Builtin.len_,ht,run_underlying hu,goInt])
 ·rename_i hu
  obtain ⟨rfl,rfl⟩:=Res.done h1
  obtain ⟨a',cap,hv⟩:=osl_len hq1
  exact qx hd hi hK (.sh (.av _)) (by simp [execOp,ho,resolve,invoke,builtin,hv,Builtin.len_,ht,run_underlying hu,goInt])
 ·rename_i hu
  obtain ⟨rfl,rfl⟩:=Res.done h1
  exact qx hd hi hK (.sh (.av _)) (by simp [execOp,ho,resolve,invoke,builtin,zH hq1,Builtin.len_,ht,run_underlying hu,goInt])
 ·rename_i hu
  obtain ⟨rfl,rfl⟩:=Res.done h1
  exact qx hd hi hK (.sh (.av _)) (by simp [execOp,ho,resolve,invoke,builtin,Builtin.len_,ht,run_underlying hu,goInt])
 ·exact (Res.fail h1).elim

def opi (x:Option Operand) (d:Int) (k:Int→Plan):Plan:=match x with
 | none=>k d
 | some x=>opd x fun p=>match p with | .av (.int _ n)=>k n | _=>.fail
theorem Res.opi {E:Env} {nx:Nat→Prop} {c:Cx} {g:St} {a:Act} (hi:Inv E nx c g a) {x:Option Operand} {d:Int} {k:Int→Plan} {p:PV} {wb:L} (h:Res g (opi x d k) p wb) :
  ∃ n,Res g (k n) p wb∧(x=none∧n=d∨∃ y kd,x=some y∧a.eval y = .int kd n):=by
 cases x with
 | none=>exact ⟨d,h,.inl ⟨rfl,rfl⟩⟩
 | some y =>
  obtain ⟨q,hq,h1⟩:=Res.opd hi h
  split at h1
  ·exact ⟨_,h1,.inr ⟨y,_,rfl,zH hq⟩⟩
  ·exact (Res.fail h1).elim
def offP (an:Ans) (raw:Nat) (k:Nat→Plan):Plan:=match an with
 | .nat e=>.ob (raw=e) (k e)
 | _=>k raw
theorem qdq {an:Ans} {raw:Nat} {k:Nat→Plan} {g:St} {p:PV} {wb:L} (h:Res g (offP an raw k) p wb):Res g (k raw) p wb:=by
 unfold offP at h
 split at h
 ·obtain ⟨rfl,h1⟩:=Res.ob h
  exact h1
 ·exact h
def offP2 (an:Ans) (o n:Nat) (k:Nat→Nat→Plan):Plan:=match an with
 | .nat2 e f=>.ob (o=e∧n=f) (k e f)
 | _=>k o n
theorem offP2_ok {an:Ans} {o n:Nat} {k:Nat→Nat→Plan} {g:St} {p:PV} {wb:L} (h:Res g (offP2 an o n k) p wb):Res g (k o n) p wb:=by
 unfold offP2 at h
 split at h
 ·obtain ⟨⟨rfl,rfl⟩,h1⟩:=Res.ob h
  exact h1
 ·exact h
def cut (an:Ans) (off sz:Nat) (l h m len:Int) (k:Nat→Nat→Plan):Plan:=.ob (0≤l∧l≤h∧h≤m∧m≤len) (offP2 an (off+l.toNat*sz) (h.toNat-l.toNat) k)
def cutP (an:Ans) (lo hi mx:Option Operand) (off sz n:Nat) (mk:Nat→Nat→PV):Plan:=opi lo 0 fun l=>opi hi n fun h=>match mx with
 | none=>cut an off sz l h h n fun o k=>.done (mk o k) []
 | some m=>opi (some m) 0 fun m=>match hi with | some _=>cut an off sz l h m n fun o k=>.done (mk o k) [] | none=>.fail
def aSlice (P:Program) (T:TypeId) (x:Operand) (lo hi mx:Option Operand) (an:Ans):Plan:=opd x fun p=>match P.underlying T,p with
 | some .string,.av (.string s)=>match mx with
  | none=>opi lo 0 fun l=>opi hi s.size fun h=>.ob (0≤l∧l≤h∧h≤s.size) (tellS an (s.extract l.toNat h.toNat))
  | some _=>.fail
 | some (.slice e),.ssl cs off n=>match P.info? e with
  | some i=>cutP an lo hi mx off i.size n fun o k=>.ssl cs o k
  | none=>.fail
 | some (.slice e),.osl id off n=>match P.info? e with
  | some i=>.look (kb id) fun v=>match v with
   | .blk T' _=>match Nat.beq T' e with | true=>cutP an lo hi mx off i.size n fun o k=>.osl id o k | false=>.fail
   | .pv _=>.fail
  | none=>.fail
 | _,_=>.fail
theorem wL (b o n:Nat):(⟨b,o,none⟩:Addr).add n=⟨b,o+n,none⟩:=by
 unfold Addr.add
 by_cases h:n=0
 ·subst h;simp
 ·simp [h]
theorem qaj {P:Program} {w:World} {lo hi mx:Option Value} {len cap:Nat} {l h m:Int} (hl:lo=none∧l=0∨∃ kd,lo=some (.int kd l)) (hh:(hi=none∧mx=none∧h=len)∨∃ kd,hi=some (.int kd h))
  (hm:(mx=none)∨∃ kd,mx=some (.int kd m)) (hc:len≤cap) (h0:0≤l) (h1:l≤h) (h2:h≤m) (h3:m≤len) (s:Bool) :
  (Instr.sliceBounds s len cap lo hi mx).run P w = .ok (l.toNat,h.toNat,if mx=none then cap else m.toNat) w:=by
 have e1:h.toNat≤m.toNat:=by omega
 have hb:∀ (kd:IntKind) (n:Int) (y:Nat) (cd:BoundsCode),0≤n→n≤y→(Instr.sliceBound (.int kd n) y cd).run P w = .ok n.toNat w:=fun kd n y cd hn hy=>by
  simp [Instr.sliceBound,asIntOf,hn,hy]
 rcases hm with rfl|⟨km,rfl⟩ <;> rcases hl with ⟨rfl,rfl⟩|⟨kl,rfl⟩ <;> rcases hh with ⟨rfl,hx,rfl⟩|⟨kh,rfl⟩
 ·simp [Instr.sliceBounds]
 ·simp [Instr.sliceBounds,hb kh h cap _ (by omega) (by omega)]
 ·simp [Instr.sliceBounds,hb kl l len _ (by omega) (by omega)]
 ·simp [Instr.sliceBounds,hb kh h cap _ (by omega) (by omega),hb kl l h.toNat _ (by omega) (by omega)]
 ·cases hx
 ·simp [Instr.sliceBounds,hb km m cap _ (by omega) (by omega),hb kh h m.toNat _ (by omega) (by omega)]
 ·cases hx
 ·simp [Instr.sliceBounds,hb km m cap _ (by omega) (by omega),hb kh h m.toNat _ (by omega) (by omega),hb kl l h.toNat _ (by omega) (by omega)]
theorem slice_ok {E:Env} {o:Oper} {id:Nat} {T:TypeId} {x:Operand} {lo hi mx:Option Operand} (ho:o.op = .slice T x lo hi mx) (hd:∀ x,o.dst=some x→x<E.n) {e:TypeId} {i:TypeInfo} (hu:E.P.underlying T=some (.slice e)) (hin:E.P.info? e=some i)
  {nx:Nat→Prop} {c:Cx} {g:St} {a:Act} {an:Ans} {K:Act→World→Prop} {Q:Exit→Act→World→Prop} (hI:Inv E nx c g a) {mk:Nat→Nat→PV} {off n:Nat} {p:PV} {wb:L}
  (h:Res g (cutP an lo hi mx off i.size n mk) p wb)
  (hv:∃ (cap:Nat) (ad:Option Addr),a.eval x = .slice ad n cap∧n≤cap∧(∀ l' h' m':Nat,l'≤h'→h'≤m'→h'≤n→m'≤cap→Rep E.P c (mk (off+l'*i.size) (h'-l')) (.slice (if m'=l' then ad else ad.map (·.add (l'*i.size))) (h'-l') (m'-l'))))
  (hK:∀ c' a',Inv E (fun j=>nx j∨(id≤j∧j<id+8)) c' (over (wd o.dst p) (over wb g)) a'→K a' c'.w):o.wp E.P a c.w K Q:=by
 obtain ⟨cap,ad,hx,hc,hr⟩:=hv
 unfold cutP at h
 obtain ⟨l,h1,hl⟩:=Res.opi hI h
 obtain ⟨hh,h2,hhi⟩:=Res.opi hI h1
 clear h h1
 have hl':lo.map a.eval=none∧l=0∨∃ kd,lo.map a.eval=some (.int kd l):=by
  rcases hl with ⟨rfl,rfl⟩|⟨y,kd,rfl,h5⟩
  ·exact .inl ⟨rfl,rfl⟩
  ·exact .inr ⟨kd,by simp [h5]⟩
 cases mx with
 | none =>
  obtain ⟨⟨h3,h4,h5,h6⟩,h7⟩:=Res.ob h2
  obtain ⟨rfl,rfl⟩:=Res.done (offP2_ok h7)
  have hb:=qaj (P:=E.P) (w:=c.w) (mx:=none) (len:=n) (cap:=cap) (m:=hh) (s:=true) (hi:=hi.map a.eval) hl' (by
   rcases hhi with ⟨rfl,rfl⟩|⟨y,kd,rfl,h5⟩
   ·exact .inl ⟨rfl,rfl,rfl⟩
   ·exact .inr ⟨kd,by simp [h5]⟩) (.inl rfl) hc h3 h4 h5 h6
  refine qx hd hI hK (hr l.toNat hh.toNat cap (by omega) (by omega) (by omega) (by omega)) ?_
  simp [execOp,ho,Instr.sliceAt,Instr.slice,run_underlying hu,hx,hb,vQ hin]
 | some m =>
  obtain ⟨mv,h8,hm⟩:=Res.opi hI h2
  rcases hm with ⟨h9,_⟩|⟨y,km,h9,h10⟩
  ·cases h9
  cases h9
  cases hi with
  | none=>exact (Res.fail h8).elim
  | some y2 =>
   obtain ⟨⟨h3,h4,h5,h6⟩,h7⟩:=Res.ob h8
   obtain ⟨rfl,rfl⟩:=Res.done (offP2_ok h7)
   have hb:=qaj (P:=E.P) (w:=c.w) (mx:=some (a.eval m)) (len:=n) (cap:=cap) (m:=mv) (s:=true) (hi:=some (a.eval y2)) hl' (by
    rcases hhi with ⟨h5,_⟩|⟨y,kd,h5,h6⟩
    ·cases h5
    ·cases h5;exact .inr ⟨kd,by rw [h6]⟩) (.inr ⟨km,by rw [h10]⟩) hc h3 h4 h5 h6
   refine qx hd hI hK (hr l.toNat hh.toNat mv.toNat (by omega) (by omega) (by omega) (by omega)) ?_
   simp [execOp,ho,Instr.sliceAt,Instr.slice,run_underlying hu,hx,hb,vQ hin]
theorem aSlice_ok {E:Env} {o:Oper} {id:Nat} {T:TypeId} {x:Operand} {lo hi mx:Option Operand} {an:Ans} (ho:o.op = .slice T x lo hi mx) (hd:∀ x,o.dst=some x→x<E.n):yy E o id (aSlice E.P T x lo hi mx an):=by
 intro g p wb h nx c a K Q hn hI hK
 obtain ⟨q,hq,h1⟩:=Res.opd hI h
 clear h
 split at h1
 ·rename_i s hu
  cases mx with
  | some _=>exact (Res.fail h1).elim
  | none =>
   obtain ⟨l,h2,hl⟩:=Res.opi hI h1
   obtain ⟨hh,h3,hhi⟩:=Res.opi hI h2
   obtain ⟨⟨h4,h5,h6⟩,h7⟩:=Res.ob h3
   obtain ⟨rfl,rfl⟩:=tellS_ok h7
   have hl':lo.map a.eval=none∧l=0∨∃ kd,lo.map a.eval=some (.int kd l):=by
    rcases hl with ⟨rfl,rfl⟩|⟨y,kd,rfl,h5⟩
    ·exact .inl ⟨rfl,rfl⟩
    ·exact .inr ⟨kd,by simp [h5]⟩
   have hb:=qaj (P:=E.P) (w:=c.w) (mx:=none) (len:=s.size) (cap:=s.size) (m:=hh) (s:=false) (hi:=hi.map a.eval) hl' (by
    rcases hhi with ⟨rfl,rfl⟩|⟨y,kd,rfl,h5⟩
    ·exact .inl ⟨rfl,rfl,rfl⟩
    ·exact .inr ⟨kd,by simp [h5]⟩) (.inl rfl) (Nat.le_refl _) h4 h5 (Int.le_refl _) h6
   refine qx hd hI hK (.sh (.av _)) ?_
   simp [execOp,ho,Instr.sliceAt,Instr.slice,run_underlying hu,zH hq,hb]
 ·rename_i e cs off n hu
  split at h1
  ·rename_i i hin
   refine slice_ok (mk:=fun o k=>.ssl cs o k) ho hd hu hin hI h1 ?_ hK
   rcases YB hq with ⟨ad,cap,hv,rfl⟩|⟨b,a',cap,vf,hv,hS,hc,hr,hone,hl⟩
   ·refine ⟨cap,ad,hv,by omega,fun l' h' m' h1 h2 h3 h4=>?_⟩
    have e1:h'-l'=0:=by omega
    rw [e1]
    exact .sh .emp
   ·refine ⟨cap,_,hv,hl,fun l' h' m' h1 h2 h3 h4=>?_⟩
    by_cases e1:m'=l'
    ·have e2:h'-l'=0:=by omega
     rw [e2]
     exact .sh .emp
    ·rw [if_neg e1]
     simp only [Option.map_some,wL,Nat.add_assoc]
     exact .sh (.ssl hS hc hr hone (by omega))
  ·exact (Res.fail h1).elim
 ·rename_i e id' off n hu
  split at h1
  ·rename_i i hin
   obtain ⟨bv,hg,h2⟩:=Res.look h1
   cases bv with
   | pv _=>exact (Res.fail h2).elim
   | blk T' cells =>
    simp only at h2
    split at h2
    ·rename_i hT
     have hT:=Nat.eq_of_beq_eq_true hT
     subst hT
     refine slice_ok (mk:=fun o k=>.osl id' o k) ho hd hu hin hI h2 ?_ hK
     obtain ⟨ob,T2,hown,hv⟩:=jy hq
     obtain ⟨ob',hown',_⟩:=hI.blk id' T' cells hg
     rw [hown] at hown'
     cases hown'
     rcases hv with ⟨ad,hv,rfl⟩|⟨b,cap,cs,hob,hv,hb,hl,hsz⟩
     ·refine ⟨0,ad,hv,by omega,fun l' h' m' h1 h2 h3 h4=>?_⟩
      have e1:h'-l'=0:=by omega
      have e2:m'-l'=0:=by omega
      rw [e1,e2]
      exact .osl hown (.inl ⟨_,rfl,rfl⟩)
     ·refine ⟨cap,_,hv,hl,fun l' h' m' h1 h2 h3 h4=>?_⟩
      by_cases e1:m'=l'
      ·have e2:h'-l'=0:=by omega
       have e3:m'-l'=0:=by omega
       rw [e2,e3]
       exact .osl hown (.inl ⟨_,rfl,rfl⟩)
      ·rw [if_neg e1]
       simp only [Option.map_some,wL]
       refine .osl hown (.inr ⟨b,m'-l',cs,hob,rfl,hb,by omega,?_⟩)
       rw [wQ hin] at hsz ⊢
       have e2:m'*i.size≤cap*i.size:=Nat.mul_le_mul_right _ h4
       have e3:l'*i.size+(m'-l')*i.size=m'*i.size:=by rw [← Nat.add_mul];congr 1;omega
       omega
    ·exact (Res.fail h2).elim
  ·exact (Res.fail h1).elim
 ·exact (Res.fail h1).elim

/-! ### places -/
def qgl (P:Program) (T:TypeId) (x ix:Operand) (an:Ans):Plan:=opd x fun p=>opd ix fun q=>match q,P.underlying T,p with
 | .av (.int _ i),some (.slice e),.ssl cs off n=>match P.info? e with
  | some ti=>.ob (0≤i∧i<n) (offP an (off+i.toNat*ti.size) fun e=>.done (.spt cs e) [])
  | none=>.fail
 | .av (.int _ i),some (.slice e),.osl id off n=>match P.info? e with
  | some ti=>.ob (0≤i∧i<n) (offP an (off+i.toNat*ti.size) fun e=>.done (.opt id e) [])
  | none=>.fail
 | .av (.int _ i),some (.array n e),.spt cs off=>match P.info? e with
  | some ti=>.ob (0≤i∧i<n) (offP an (off+i.toNat*ti.size) fun e=>.done (.spt cs e) [])
  | none=>.fail
 | .av (.int _ i),some (.array n e),.opt id off=>match P.info? e with
  | some ti=>.ob (0≤i∧i<n) (offP an (off+i.toNat*ti.size) fun e=>.done (.opt id e) [])
  | none=>.fail
 | _,_,_=>.fail
theorem qgv {E:Env} {o:Oper} {id:Nat} {T:TypeId} {x ix:Operand} {an:Ans} (ho:o.op = .indexAddr T x ix) (hd:∀ x,o.dst=some x→x<E.n):yy E o id (qgl E.P T x ix an):=by
 intro g p wb h nx c a K Q hn hI hK
 obtain ⟨q,hq,h1⟩:=Res.opd hI h
 obtain ⟨q2,hq2,h2⟩:=Res.opd hI h1
 clear h h1
 split at h2
 ·rename_i i e cs off n hu
  split at h2
  ·rename_i ti hin
   obtain ⟨h3,h4⟩:=Res.ob h2
   obtain ⟨rfl,rfl⟩:=Res.done (qdq h4)
   rcases YB hq with ⟨ad,cap,hv,rfl⟩|⟨b,a',cap,vf,hv,hS,hc,hr,hone,hl⟩
   ·exact absurd h3 (by omega)
   ·refine qx hd hI hK (.sh (.spt hS hc hr hone)) ?_
    simp [execOp,ho,Instr.indexAt,zH hq2,asIntOf,run_underlying hu,hv,h3,vQ hin,wL,Nat.add_assoc]
  ·exact (Res.fail h2).elim
 ·rename_i i e id' off n hu
  split at h2
  ·rename_i ti hin
   obtain ⟨h3,h4⟩:=Res.ob h2
   obtain ⟨rfl,rfl⟩:=Res.done (qdq h4)
   obtain ⟨ob,T2,hown,hv⟩:=jy hq
   rcases hv with ⟨ad,hv,rfl⟩|⟨b,cap,cs,rfl,hv,hb,hl,hsz⟩
   ·exact absurd h3 (by omega)
   ·refine qx hd hI hK (.opt hown) ?_
    simp [execOp,ho,Instr.indexAt,zH hq2,asIntOf,run_underlying hu,hv,h3,vQ hin,wL]
  ·exact (Res.fail h2).elim
 ·rename_i i n e cs off hu
  split at h2
  ·rename_i ti hin
   obtain ⟨h3,h4⟩:=Res.ob h2
   obtain ⟨rfl,rfl⟩:=Res.done (qdq h4)
   obtain ⟨b,a',vf,hv,hS,hc,hr,hone⟩:=WI hq
   refine qx hd hI hK (.sh (.spt hS hc hr hone)) ?_
   simp [execOp,ho,Instr.indexAt,zH hq2,asIntOf,run_underlying hu,hv,Instr.sureAddr,h3,vQ hin,wL,Nat.add_assoc]
  ·exact (Res.fail h2).elim
 ·rename_i i n e id' off hu
  split at h2
  ·rename_i ti hin
   obtain ⟨h3,h4⟩:=Res.ob h2
   obtain ⟨rfl,rfl⟩:=Res.done (qdq h4)
   obtain ⟨b,T2,hown,hv⟩:=wk hq
   refine qx hd hI hK (.opt hown) ?_
   simp [execOp,ho,Instr.indexAt,zH hq2,asIntOf,run_underlying hu,hv,Instr.sureAddr,h3,vQ hin,wL]
  ·exact (Res.fail h2).elim
 ·exact (Res.fail h2).elim
def qgm (P:Program) (T:TypeId) (x:Operand) (f:Nat):Plan:=opd x fun p=>match P.underlying T with
 | some (.struct fs)=>match fs[f]? with
  | some fd=>match P.info? fd.type with
   | some ti=>match Nat.beq ti.size 0 with
    | true=>.fail
    | false=>match p with
     | .spt cs off=>.done (.spt cs (off+fd.offset)) []
     | .opt id off=>.done (.opt id (off+fd.offset)) []
     | _=>.fail
   | none=>.fail
  | none=>.fail
 | _=>.fail
theorem qgw {E:Env} {o:Oper} {id:Nat} {T:TypeId} {x:Operand} {f:Nat} (ho:o.op = .fieldAddr T x f) (hd:∀ x,o.dst=some x→x<E.n):yy E o id (qgm E.P T x f):=by
 intro g p wb h nx c a K Q hn hI hK
 obtain ⟨q,hq,h1⟩:=Res.opd hI h
 clear h
 split at h1
 ·rename_i fs hu
  split at h1
  ·rename_i fd hf
   split at h1
   ·rename_i ti hin
    split at h1
    ·exact (Res.fail h1).elim
    ·rename_i hz
     have hz':¬ ti.size=0:=fun e=>by rw [e] at hz;simp at hz
     split at h1
     ·obtain ⟨rfl,rfl⟩:=Res.done h1
      obtain ⟨b,a',vf,hv,hS,hc,hr,hone⟩:=WI hq
      refine qx hd hI hK (.sh (.spt hS hc hr hone)) ?_
      simp [execOp,ho,Instr.fieldAt,run_underlying hu,hf,hv,Instr.sureAddr,fieldPlace,vQ hin,hz',wL,Nat.add_assoc]
     ·obtain ⟨rfl,rfl⟩:=Res.done h1
      obtain ⟨b,T2,hown,hv⟩:=wk hq
      refine qx hd hI hK (.opt hown) ?_
      simp [execOp,ho,Instr.fieldAt,run_underlying hu,hf,hv,Instr.sureAddr,fieldPlace,vQ hin,hz',wL]
     ·exact (Res.fail h1).elim
   ·exact (Res.fail h1).elim
  ·exact (Res.fail h1).elim
 ·exact (Res.fail h1).elim
def qii (x:Operand):Plan:=opd x fun p=>match p with
 | .spt cs off=>.done (.spt cs off) []
 | .opt id off=>.done (.opt id off) []
 | .av (.func (.func f) cs ds)=>.done (.av (.func (.func f) cs ds)) []
 | .fn (.func f) cs ds=>.done (.fn (.func f) cs ds) []
 | _=>.fail
theorem aNilCheck_ok {E:Env} {o:Oper} {id:Nat} {x:Operand} (ho:o.op = .nilCheck x) (hd:∀ x,o.dst=some x→x<E.n):yy E o id (qii x):=by
 intro g p wb h nx c a K Q hn hI hK
 obtain ⟨q,hq,h1⟩:=Res.opd hI h
 clear h
 split at h1
 ·obtain ⟨rfl,rfl⟩:=Res.done h1
  obtain ⟨b,a',vf,hv,_⟩:=WI hq
  exact qx hd hI hK hq (by simp [execOp,ho,hv])
 ·obtain ⟨rfl,rfl⟩:=Res.done h1
  obtain ⟨b,T2,hown,hv⟩:=wk hq
  exact qx hd hI hK hq (by simp [execOp,ho,hv])
 ·obtain ⟨rfl,rfl⟩:=Res.done h1
  have hv:=zH hq
  exact qx hd hI hK hq (by simp [execOp,ho,hv])
 ·obtain ⟨rfl,rfl⟩:=Res.done h1
  obtain ⟨vs,us,hv,_⟩:=rep_fn hq
  exact qx hd hI hK hq (by simp [execOp,ho,hv])
 ·exact (Res.fail h1).elim

/-! ### loads,parts -/
def wO (u:Option TypeDesc):Option Bool:=match u with
 | some (.struct _)=>some true
 | some (.array _ _)=>some true
 | some _=>some false
 | none=>none
theorem Qk {P:Program} {w:World} {T:TypeId} {b:Bool} (h:wO (P.underlying T)=some b):(isAgg T).run P w = .ok b w:=by
 cases hu:P.underlying T with
 | none=>rw [hu] at h;cases h
 | some d =>
  rw [hu] at h
  cases d <;> simp only [wO,Option.some.injEq] at h <;> subst h <;> simp [isAgg,run_underlying hu]
def seg (cs:List PV) (off n:Nat) (an:Ans) (k:List PV→Plan):Plan:=match an with
 | .cells l=>.ob (off+n≤cs.length∧(cs.drop off).take n=l) (k l)
 | .val p=>.ob (off+n≤cs.length∧(cs.drop off).take n=[p]) (k [p])
 | _=>match Nat.ble (off+n) cs.length with | true=>k ((cs.drop off).take n) | false=>.fail
theorem qcl {cs:List PV} {off n:Nat} {an:Ans} {k:List PV→Plan} {g:St} {p:PV} {wb:L} (h:Res g (seg cs off n an k) p wb):∃ l,off+n≤cs.length∧(cs.drop off).take n=l∧Res g (k l) p wb:=by
 unfold seg at h
 split at h
 ·obtain ⟨⟨h1,h2⟩,h3⟩:=Res.ob h
  exact ⟨_,h1,h2,h3⟩
 ·obtain ⟨⟨h1,h2⟩,h3⟩:=Res.ob h
  exact ⟨_,h1,h2,h3⟩
 ·split at h
  ·rename_i hb
   exact ⟨_,Nat.le_of_ble_eq_true hb,rfl,h⟩
  ·exact (Res.fail h).elim
def one1 (l:List PV) (k:PV→Plan):Plan:=match l with | [p]=>k p|_=>.fail
def ZS (cs:List PV) (off n:Nat) (ag:Bool) (an:Ans):Plan:=match ag with
 | true=>seg cs off n an fun l=>.done (.agg l) []
 | false=>seg cs off 1 an fun l=>one1 l fun p=>.done p []
def aLoad (P:Program) (T:TypeId) (x:Operand) (an:Ans):Plan:=opd x fun p=>match wO (P.underlying T),P.info? T with
 | some ag,some ti=>match p with
  | .spt cs off=>ZS cs off ti.size ag an
  | .opt id off=>.look (kb id) fun v=>match v with | .blk _ cs=>ZS cs off ti.size ag an | .pv _=>.fail
  | _=>.fail
 | _,_=>.fail
theorem ZC {cs l:List PV} {off n:Nat} (h:off+n≤cs.length) (he:(cs.drop off).take n=l):l.length=n∧∀ i,i<n→l.getD i P0=cs.getD (off+i) P0:=by
 subst he
 refine ⟨by simp;omega,fun i hi=>?_⟩
 simp [List.getD_eq_getElem?_getD,hi]
theorem qbr {P:Program} {c:Cx} {T:TypeId} {ag:Bool} {ti:TypeInfo} (hag:wO (P.underlying T)=some ag) (hin:P.info? T=some ti) {cs:List PV} {off a b:Nat} {vf:Nat→Value} {an:Ans} {g:St} {p:PV} {wb:L}
  (h:Res g (ZS cs off ti.size ag an) p wb) (hc:∀ j,j<cs.length→c.w.cell? ⟨b,a+j,none⟩=some (vf j)) (hr:∀ j,j<cs.length→Rep P c (cs.getD j P0) (vf j)) :
  wb=[]∧∃ v,Rep P c p v∧(loadVar T ⟨b,a+off,none⟩).run P c.w = .ok v c.w:=by
 cases ag with
 | true =>
  obtain ⟨l,h1,h2,h3⟩:=qcl h
  obtain ⟨rfl,rfl⟩:=Res.done h3
  obtain ⟨h4,h5⟩:=ZC h1 h2
  have hl:=run_loadCells (P:=P) c.w ⟨b,a+off,none⟩ ti.size (fun j=>vf (off+j)) fun j hj=>by rw [wL,Nat.add_assoc];exact hc _ (by omega)
  refine ⟨rfl,.agg ((List.range ti.size).map fun j=>vf (off+j)).toArray,.agg (by simp [h4]) fun i hi=>?_,?_⟩
  ·rw [h4] at hi
   rw [h5 i hi]
   have e:(((List.range ti.size).map fun j=>vf (off+j)).toArray).getD i undef=vf (off+i):=by
    simp [Array.getD_eq_getD_getElem?,hi]
   rw [e]
   exact hr (off+i) (by omega)
  ·simp [loadVar,Qk hag,vQ hin,hl]
 | false =>
  obtain ⟨l,h1,h2,h3⟩:=qcl h
  obtain ⟨h4,h5⟩:=ZC h1 h2
  unfold one1 at h3
  split at h3
  ·rename_i p'
   obtain ⟨rfl,rfl⟩:=Res.done h3
   have e:=h5 0 (by omega)
   simp only [List.getD_cons_zero,Nat.add_zero] at e
   rw [e]
   exact ⟨rfl,_,hr off (by omega),by simp [loadVar,Qk hag,load,Sem.run,hc off (by omega)]⟩
  ·exact (Res.fail h3).elim
theorem aLoad_ok {E:Env} {o:Oper} {id:Nat} {T:TypeId} {x:Operand} {an:Ans} (ho:o.op = .load T x) (hd:∀ x,o.dst=some x→x<E.n):yy E o id (aLoad E.P T x an):=by
 intro g p wb h nx c a K Q hn hI hK
 obtain ⟨q,hq,h1⟩:=Res.opd hI h
 clear h
 split at h1
 ·rename_i ag ti hag hin
  split at h1
  ·rename_i cs off
   obtain ⟨b,a',vf,hv,hS,hc,hr,hone⟩:=WI hq
   obtain ⟨rfl,v,h2,h3⟩:=qbr (c:=c) hag hin h1 hc fun j hj=>.sh (hr j hj)
   exact qx hd hI hK h2 (by simp [execOp,ho,hv,Instr.loadAt,Instr.sureAddr,h3])
  ·rename_i id' off
   obtain ⟨bv,hg,h4⟩:=Res.look h1
   cases bv with
   | pv _=>exact (Res.fail h4).elim
   | blk T' cs =>
    simp only at h4
    obtain ⟨b,T2,hown,hv⟩:=wk hq
    obtain ⟨ob',hown',hone,hb⟩:=hI.blk id' T' cs hg
    rw [hown] at hown'
    cases hown'
    rcases hb with ⟨hb,_⟩|⟨b',vs,hb1,hb2,hb3,hb4⟩
    ·cases hb
    ·obtain rfl:b'=b:=by simpa using hb1.symm
     obtain ⟨rfl,v,h2,h3⟩:=qbr (c:=c) (a:=0) (vf:=fun j=>vs.getD j undef) hag hin h4 (fun j hj=>by
      have:j<vs.size:=by omega
      rw [cell_of_row c.w _ _ vs _ _ hb2]
      simp [Array.getD_eq_getD_getElem?,this]) hb4
     rw [Nat.zero_add] at h3
     exact qx hd hI hK h2 (by simp [execOp,ho,hv,Instr.loadAt,Instr.sureAddr,h3])
  ·exact (Res.fail h1).elim
 ·exact (Res.fail h1).elim
def partP (P:Program) (T:TypeId) (cs:List PV) (off:Nat):Plan:=match wO (P.underlying T),P.info? T with
 | some ag,some ti=>ZS cs off ti.size ag .no
 | _,_=>.fail
theorem part_run {P:Program} {c:Cx} {T:TypeId} {cs:List PV} {off:Nat} {vs:Array Value} {g:St} {p:PV} {wb:L} (h:Res g (partP P T cs off) p wb) (hn:vs.size=cs.length) (hr:∀ j,j<cs.length→Rep P c (cs.getD j P0) (vs.getD j undef)) (w:World) :
  wb=[]∧∃ v,Rep P c p v∧(part T vs off).run P w = .ok v w:=by
 unfold partP at h
 split at h
 ·rename_i ag ti hag hin
  cases ag with
  | true =>
   simp only [ZS] at h
   obtain ⟨l,h1,h2,h3⟩:=qcl h
   obtain ⟨rfl,rfl⟩:=Res.done h3
   obtain ⟨h4,h5⟩:=ZC h1 h2
   refine ⟨rfl,.agg (vs.extract off (off+ti.size)),.agg (by simp [h4];omega) fun i hi=>?_,?_⟩
   ·rw [h4] at hi
    rw [h5 i hi]
    have e:(vs.extract off (off+ti.size)).getD i undef=vs.getD (off+i) undef:=by
     have h6:off+i<vs.size:=by omega
     have h7:i<(vs.extract off (off+ti.size)).size:=by simp;omega
     rw [Array.getD_eq_getD_getElem?,Array.getD_eq_getD_getElem?,Array.getElem?_eq_getElem h7,Array.getElem?_eq_getElem h6]
     simp
    rw [e]
    exact hr (off+i) (by omega)
   ·simp [part,Qk hag,vQ hin]
  | false =>
   simp only [ZS] at h
   obtain ⟨l,h1,h2,h3⟩:=qcl h
   obtain ⟨h4,h5⟩:=ZC h1 h2
   unfold one1 at h3
   split at h3
   ·obtain ⟨rfl,rfl⟩:=Res.done h3
    have e:=h5 0 (by omega)
    simp only [List.getD_cons_zero,Nat.add_zero] at e
    rw [e]
    have h6:off<vs.size:=by omega
    exact ⟨rfl,_,hr off (by omega),by simp [part,Qk hag,h6]⟩
   ·exact (Res.fail h3).elim
 ·exact (Res.fail h).elim
def aField (P:Program) (T:TypeId) (x:Operand) (f:Nat):Plan:=opd x fun p=>match P.underlying T,p with
 | some (.struct fs),.agg cs=>match fs[f]? with
  | some fd=>partP P fd.type cs fd.offset
  | none=>.fail
 | _,_=>.fail
theorem aField_ok {E:Env} {o:Oper} {id:Nat} {T:TypeId} {x:Operand} {f:Nat} (ho:o.op = .field T x f) (hd:∀ x,o.dst=some x→x<E.n):yy E o id (aField E.P T x f):=by
 intro g p wb h nx c a K Q hn hI hK
 obtain ⟨q,hq,h1⟩:=Res.opd hI h
 clear h
 split at h1
 ·rename_i fs cs hu
  split at h1
  ·rename_i fd hf
   obtain ⟨vs,hv,hs,hr⟩:=ZJ hq
   obtain ⟨rfl,v,h2,h3⟩:=part_run h1 hs hr c.w
   exact qx hd hI hK h2 (by simp [execOp,ho,Instr.field,run_underlying hu,hf,hv,asAgg,h3])
  ·exact (Res.fail h1).elim
 ·exact (Res.fail h1).elim
def byteAt (s:ByteArray) (i:Nat):Int:=((s.data.toList.getD i 0).toNat:Int)
def aIndex (P:Program) (T:TypeId) (x ix:Operand):Plan:=opd x fun p=>opd ix fun q=>match q,P.underlying T,p with
 | .av (.int _ i),some .string,.av (.string s)=>.ob (0≤i∧i<s.size) (.done (.av (.int .u8 (byteAt s i.toNat))) [])
 | .av (.int _ i),some (.array n e),.agg cs=>match P.info? e with
  | some ti=>.ob (0≤i∧i<n) (partP P e cs (i.toNat*ti.size))
  | none=>.fail
 | _,_,_=>.fail
theorem aIndex_ok {E:Env} {o:Oper} {id:Nat} {T:TypeId} {x ix:Operand} (ho:o.op = .index T x ix) (hd:∀ x,o.dst=some x→x<E.n):yy E o id (aIndex E.P T x ix):=by
 intro g p wb h nx c a K Q hn hI hK
 obtain ⟨q,hq,h1⟩:=Res.opd hI h
 obtain ⟨q2,hq2,h2⟩:=Res.opd hI h1
 clear h h1
 split at h2
 ·rename_i k i s hu
  obtain ⟨h3,h4⟩:=Res.ob h2
  obtain ⟨rfl,rfl⟩:=Res.done h4
  refine qx hd hI hK (.sh (.av _)) ?_
  have e:s[i.toNat]? = some (s.data.toList.getD i.toNat 0):=by
   have h5:i.toNat<s.size:=by omega
   have h6:i.toNat<s.data.size:=h5
   rw [getElem?_pos s i.toNat h5]
   rw [List.getD_eq_getElem?_getD,List.getElem?_eq_getElem (by simpa using h6)]
   rfl
  simp [execOp,ho,Instr.index,zH hq2,asIntOf,run_underlying hu,zH hq,h3.1,e,byteAt]
 ·rename_i k i n e cs hu
  split at h2
  ·rename_i ti hin
   obtain ⟨h3,h4⟩:=Res.ob h2
   obtain ⟨vs,hv,hs,hr⟩:=ZJ hq
   obtain ⟨rfl,v,h5,h6⟩:=part_run h4 hs hr c.w
   exact qx hd hI hK h5 (by simp [execOp,ho,Instr.index,zH hq2,asIntOf,run_underlying hu,hv,h3,vQ hin,h6])
  ·exact (Res.fail h2).elim
 ·exact (Res.fail h2).elim
def RL (P:Program) (c:Cx) (cells:List PV) (arr:Array Value):Prop:=arr.size=cells.length∧∀ i,i<cells.length→Rep P c (cells.getD i P0) (arr.getD i undef)
def qam:PV→List PV
 | .agg cs=>cs
 | .av v=>v.cells.toList.map .av
 | p=>[p]
theorem QR {P:Program} {c:Cx} (vs:Array Value):RL P c (vs.toList.map .av) vs:=by
 refine ⟨by simp,fun i hi=>?_⟩
 have h:i<vs.size:=by simpa using hi
 simp only [List.getD_eq_getElem?_getD,List.getElem?_map,Array.getElem?_toList,Array.getElem?_eq_getElem h,Option.map_some,Option.getD_some,Array.getD_eq_getD_getElem?]
 exact .sh (.av _)
theorem QO {P:Program} {c:Cx} {p:PV} {v:Value} (h:Rep P c p v):RL P c [p] #[v]:=by
 refine ⟨rfl,fun i hi=>?_⟩
 obtain rfl:i=0:=by simpa using hi
 exact h
theorem qcp {P:Program} {c:Cx} {p:PV} {v:Value} (h:Rep P c p v):RL P c (qam p) v.cells:=by
 cases p with
 | av x=>rw [zH h];exact QR _
 | agg cs =>
  obtain ⟨vs,rfl,h1,h2⟩:=ZJ h
  exact ⟨h1,h2⟩
 | tup cs =>
  obtain ⟨vs,rfl,h1,h2⟩:=qiz h
  exact QO h
 | osl id off len =>
  obtain ⟨a,cap,hv⟩:=osl_len h
  subst hv
  exact QO h
 | opn id off =>
  rcases (show v = .pointer none∨∃ b T,c.own id=some (some b,T)∧v = .pointer (some ⟨b,off,none⟩) from by cases h with|sh h=>cases h|opn h=>exact h) with rfl|⟨b,T,_,rfl⟩
  ·exact QO h
  ·exact QO h
 | opt id off =>
  obtain ⟨b,T,_,hv⟩:=wk h
  subst hv
  exact QO h
 | ssl cs off len =>
  obtain ⟨a,cap,hv⟩:=ssl_len h
  subst hv
  exact QO h
 | spt cs off =>
  obtain ⟨b,a,vf,hv,_⟩:=WI h
  subst hv
  exact QO h
 | fn f cs ds =>
  obtain ⟨vs,us,hv,_⟩:=rep_fn h
  subst hv
  exact QO h
 | err =>
  obtain ⟨t,u,hv⟩:=rep_err h
  subst hv
  exact QO h
theorem RL.mono {P:Program} {c c':Cx} (hk:Keep c c') {cells:List PV} {arr:Array Value} (h:RL P c cells arr):RL P c' cells arr:=⟨h.1,fun i hi=>(h.2 i hi).mono hk⟩
theorem RL.append {P:Program} {c:Cx} {l m:List PV} {a b:Array Value} (h:RL P c l a) (k:RL P c m b):RL P c (l++m) (a++b):=by
 refine ⟨by simp [h.1,k.1],fun i hi=>?_⟩
 have ha:=h.1
 by_cases e:i<l.length
 ·have:=h.2 i e
  have h2:i<a.size:=by omega
  simpa [List.getD_eq_getElem?_getD,Array.getD_eq_getD_getElem?,List.getElem?_append_left e,Array.getElem?_append_left h2] using this
 ·have h3:l.length≤i:=by omega
  have h4:a.size≤i:=by omega
  have:=k.2 (i-l.length) (by simp at hi;omega)
  rw [← ha] at this
  simpa [List.getD_eq_getElem?_getD,Array.getD_eq_getD_getElem?,List.getElem?_append_right h3,Array.getElem?_append_right h4,ha] using this

def vI (cs:List PV) (off:Nat) (ps:List PV):List PV:=cs.take off++ps++cs.drop (off+ps.length)
theorem wT {cs ps:List PV} {off:Nat} (h:off+ps.length≤cs.length):(vI cs off ps).length=cs.length:=by simp [vI];omega
theorem qem {cs ps:List PV} {off:Nat} (h:off+ps.length≤cs.length) (i:Nat):(vI cs off ps).getD i P0=if off≤i∧i<off+ps.length then ps.getD (i-off) P0 else cs.getD i P0:=by
 unfold vI
 simp only [List.getD_eq_getElem?_getD]
 by_cases h1:i<off
 ·rw [if_neg (by omega),List.append_assoc,List.getElem?_append_left (by simp;omega),List.getElem?_take_of_lt h1]
 ·by_cases h2:i<off+ps.length
  ·rw [if_pos ⟨by omega,h2⟩,List.append_assoc,List.getElem?_append_right (by simp;omega),List.getElem?_append_left (by simp;omega)]
   simp only [List.length_take]
   rw [Nat.min_eq_left (by omega)]
  ·rw [if_neg (by omega),List.getElem?_append_right (by simp only [List.length_append,List.length_take];omega),List.getElem?_drop]
   simp only [List.length_append,List.length_take]
   rw [Nat.min_eq_left (by omega),show off+ps.length+(i-(off+ps.length))=i by omega]
theorem ones_splice {cs ps:List PV} {off:Nat} (h:wM cs) (k:wM ps):wM (vI cs off ps):=by
 intro p hp
 simp only [vI,List.mem_append] at hp
 rcases hp with (hp|hp)|hp
 ·exact h p (List.mem_of_mem_take hp)
 ·exact k p hp
 ·exact h p (List.mem_of_mem_drop hp)
theorem qhx:∀ (l:List Value) (off k:Nat) (cs:Array Value),off+k+l.length≤cs.size →
  ((l.zipIdx k).foldl (fun cs x=>cs.setIfInBounds (off+x.2) x.1) cs).size=cs.size ∧
   ∀ i,((l.zipIdx k).foldl (fun cs x=>cs.setIfInBounds (off+x.2) x.1) cs).getD i undef=if off+k≤i∧i<off+k+l.length then l.getD (i-(off+k)) undef else cs.getD i undef
 | [],off,k,cs,_=>by
  refine ⟨rfl,fun i=>?_⟩
  rw [if_neg (by simp only [List.length_nil];omega)]
  rfl
 | v :: l,off,k,cs,h=>by
  simp only [List.zipIdx_cons,List.foldl_cons,List.length_cons] at h ⊢
  obtain ⟨h1,h2⟩:=qhx l off (k+1) (cs.setIfInBounds (off+k) v) (by simp;omega)
  refine ⟨h1.trans (by simp),fun i=>?_⟩
  rw [h2 i]
  by_cases e1:off+(k+1)≤i∧i<off+(k+1)+l.length
  ·rw [if_pos e1,if_pos (by omega),show i-(off+k)=(i-(off+(k+1)))+1 by omega]
   rfl
  ·rw [if_neg e1]
   by_cases e2:i=off+k
   ·subst e2
    rw [if_pos (by omega),Nat.sub_self]
    have h3:off+k<cs.size:=by omega
    simp [Array.getD_eq_getD_getElem?,h3]
   ·rw [if_neg (by omega),Array.getD_eq_getD_getElem?,Array.getElem?_setIfInBounds_ne (Ne.symm e2),Array.getD_eq_getD_getElem?]
theorem splice_rl {P:Program} {c:Cx} {cs ps:List PV} {off:Nat} {arr vs:Array Value} (h:RL P c cs arr) (k:RL P c ps vs) (hl:off+ps.length≤cs.length) :
  RL P c (vI cs off ps) (vs.zipIdx.foldl (fun cs x=>cs.setIfInBounds (off+x.2) x.1) arr):=by
 have e:vs.zipIdx.foldl (fun cs x=>cs.setIfInBounds (off+x.2) x.1) arr=(vs.toList.zipIdx 0).foldl (fun cs x=>cs.setIfInBounds (off+x.2) x.1) arr:=by
  rw [← Array.foldl_toList,Array.toList_zipIdx]
 obtain ⟨h1,h2⟩:=qhx vs.toList off 0 arr (by have:=h.1;have:=k.1;simp;omega)
 rw [e]
 refine ⟨by rw [h1,wT hl];exact h.1,fun i hi=>?_⟩
 rw [wT hl] at hi
 rw [h2 i,qem hl i]
 simp only [Nat.add_zero,Array.length_toList,k.1]
 by_cases e1:off≤i∧i<off+ps.length
 ·rw [if_pos e1,if_pos e1]
  have:=k.2 (i-off) (by omega)
  simpa [List.getD_eq_getElem?_getD,Array.getD_eq_getD_getElem?] using this
 ·rw [if_neg e1,if_neg e1]
  exact h.2 i hi

/-! ### parts -/
def RP (P:Program) (c:Cx):List (Nat × PV)→List (Nat × Value)→Prop
 | [],[]=>True
 | (i,p) :: l,(j,v) :: m=>i=j∧Rep P c p v∧RP P c l m
 | _,_=>False
def opds:List (Nat × Operand)→(List (Nat × PV)→Plan)→Plan
 | [],k=>k []
 | (i,x) :: l,k=>opd x fun p=>opds l fun r=>k ((i,p) :: r)
theorem Res.opds {E:Env} {nx:Nat→Prop} {c:Cx} {g:St} {a:Act} (hi:Inv E nx c g a):∀ {l:List (Nat × Operand)} {k:List (Nat × PV)→Plan} {p:PV} {wb:L},Res g (opds l k) p wb →
  ∃ ps,RP E.P c ps (l.map fun x=>(x.1,a.eval x.2))∧Res g (k ps) p wb
 | [],k,p,wb,h=>⟨[],trivial,h⟩
 | (i,x) :: l,k,p,wb,h=>by
  obtain ⟨q,hq,h1⟩:=Res.opd hi h
  obtain ⟨ps,h2,h3⟩:=Res.opds hi h1
  exact ⟨(i,q) :: ps,⟨rfl,hq,h2⟩,h3⟩
def qaa (place:Nat→Option (Nat × Nat)) (cells:List PV):List (Nat × PV)→Option (List PV)
 | []=>some cells
 | (i,p) :: r=>match place i with
  | none=>none
  | some (off,size)=>match Nat.beq (qam p).length size,Nat.ble (off+(qam p).length) cells.length with
   | true,true=>qaa place (vI cells off (qam p)) r
   | _,_=>none
theorem qbl {P:Program} {c:Cx} {place:Nat→Option (Nat × Nat)}:∀ {ps:List (Nat × PV)} {vs:List (Nat × Value)} {cells:List PV} {arr:Array Value} {cells':List PV},RP P c ps vs→RL P c cells arr→qaa place cells ps=some cells' →
  ∃ arr',Instr.fill place arr vs=some arr'∧RL P c cells' arr'
 | [],[],cells,arr,cells',_,h,hf=>by
  simp only [qaa,Option.some.injEq] at hf
  subst hf
  exact ⟨arr,rfl,h⟩
 | (i,p) :: ps,(j,v) :: vs,cells,arr,cells',hp,h,hf=>by
  obtain ⟨rfl,hr,hp'⟩:=hp
  simp only [qaa] at hf
  split at hf
  ·cases hf
  ·rename_i off size hpl
   split at hf
   ·rename_i h1 h2
    have h1:=Nat.eq_of_beq_eq_true h1
    have h2:=Nat.le_of_ble_eq_true h2
    have hc:=qcp hr
    obtain ⟨arr',h3,h4⟩:=qbl hp' (splice_rl h hc h2) hf
    refine ⟨arr',?_,h4⟩
    have e1:¬ (v.cells.size≠size∨off+v.cells.size > arr.size):=by
     have:=hc.1;have:=h.1;omega
    unfold Instr.fill
    simp only [hpl,Bool.or_eq_true,decide_eq_true_eq,e1,if_false]
    exact h3
   ·cases hf
 | [],_ :: _,_,_,_,hp,_,_=>hp.elim
 | _ :: _,[],_,_,_,hp,_,_=>hp.elim

def qgx (P:Program) (T:TypeId):Option (List PV):=match P.info? T with
 | some i=>match i.zero with | some z=>some (z.cells.toList.map .av) | none=>none
 | none=>none
theorem VD {P:Program} {T:TypeId} {zs:List PV} (h:qgx P T=some zs):∃ i z,P.info? T=some i∧i.zero=some z∧zs=z.cells.toList.map .av:=by
 unfold qgx at h
 cases hi:P.info? T with
 | none=>simp [hi] at h
 | some i =>
  cases hz:i.zero with
  | none=>simp [hi,hz] at h
  | some z =>
   simp only [hi,hz,Option.some.injEq] at h
   exact ⟨i,z,rfl,hz,h.symm⟩
def qbk (P:Program):List Field→Option (List (Nat × Nat))
 | []=>some []
 | f :: fs=>match P.info? f.type,qbk P fs with
  | some i,some r=>some ((f.offset,i.size) :: r)
  | _,_=>none
theorem qfd {P:Program}:∀ {fs:List Field} {pl:List (Nat × Nat)},qbk P fs=some pl→fs.mapM (fun f=>(P.info? f.type).map fun i=>(f.offset,i.size))=some pl
 | [],pl,h=>by simp only [qbk,Option.some.injEq] at h;subst h;rfl
 | f :: fs,pl,h=>by
  simp only [qbk] at h
  split at h
  ·rename_i i r hi hr
   simp only [Option.some.injEq] at h
   subst h
   simp [List.mapM_cons,hi,qfd hr]
  ·cases h
def aBuild (P:Program) (T:TypeId) (parts:List (Nat × Operand)):Plan:=opds parts fun ps=>match qgx P T,P.underlying T with
 | some zs,some (.struct fs)=>match qbk P fs.toList with
  | some pl=>match qaa (pl.toArray[·]?) zs ps with | some cs=>.done (.agg cs) [] | none=>.fail
  | none=>.fail
 | some zs,some (.array _ e)=>match P.info? e with
  | some ie=>match qaa (fun i=>some (i*ie.size,ie.size)) zs ps with | some cs=>.done (.agg cs) [] | none=>.fail
  | none=>.fail
 | _,_=>.fail
theorem aBuild_ok {E:Env} {o:Oper} {id:Nat} {T:TypeId} {parts:Array (Nat × Operand)} (ho:o.op = .build T parts) (hd:∀ x,o.dst=some x→x<E.n):yy E o id (aBuild E.P T parts.toList):=by
 intro g p wb h nx c a K Q hn hI hK
 obtain ⟨ps,hp,h1⟩:=Res.opds hI h
 have hval:∀ arr:Array Value,E.P.built T ((parts.map fun x=>(x.1,a.eval x.2)).toList)=some arr→(execOp a.eval o).run E.P c.w = .ok (.value (.agg arr)) c.w:=fun arr hb=>by
  have:=run_build (P:=E.P) c.w T (parts.map fun x=>(x.1,a.eval x.2)) arr hb
  simp only [execOp,ho,Sem.run_bind,this,Result.andThen_ok]
  rfl
 split at h1
 ·rename_i zs fs hz hu
  obtain ⟨i,z,hi,hz',rfl⟩:=VD hz
  split at h1
  ·rename_i pl hpl
   split at h1
   ·rename_i cs hf
    obtain ⟨rfl,rfl⟩:=Res.done h1
    obtain ⟨arr,h2,h3⟩:=qbl hp (QR z.cells) hf
    exact qx hd hI hK (.agg h3.1 h3.2) (hval arr (by simp only [Program.built,hi,hu,hz',qfd hpl];simpa using h2))
   ·exact (Res.fail h1).elim
  ·exact (Res.fail h1).elim
 ·rename_i zs n e hz hu
  obtain ⟨i,z,hi,hz',rfl⟩:=VD hz
  split at h1
  ·rename_i ie hie
   split at h1
   ·rename_i cs hf
    obtain ⟨rfl,rfl⟩:=Res.done h1
    obtain ⟨arr,h2,h3⟩:=qbl hp (QR z.cells) hf
    exact qx hd hI hK (.agg h3.1 h3.2) (hval arr (by simp only [Program.built,hi,hu,hz',hie];simpa using h2))
   ·exact (Res.fail h1).elim
  ·exact (Res.fail h1).elim
 ·exact (Res.fail h1).elim

/-! ### new blocks -/
theorem qbp {E:Env} {nx:Nat→Prop} {c:Cx} {g:St} {a:Act} {o:Oper} {id:Nat} {K:Act→World→Prop} {Q:Exit→Act→World→Prop} {T:TypeId} {cells:List PV} {arr:Array Value} {p:PV} {v:Value} {w':World}
  (hd:∀ x,o.dst=some x→x<E.n) (hn:∀ t,t<8→¬ nx (id+t)) (hI:Inv E nx c g a)
  (hK:∀ c' a',Inv E (fun j=>nx j∨(id≤j∧j<id+8)) c' (over (wd o.dst p) (over [(kb id,some (.blk T cells))] g)) a'→K a' c'.w)
  (hw:w'.heap=c.w.heap.push (.cells arr T (0,0))) (hos:w'.os=c.w.os) (htp:w'.tape=c.w.tape) (hou:w'.output=c.w.output)
  (ho:wM cells) (hl:cells.length≤arr.size) (hrl:∀ j,j<cells.length→Rep E.P c (cells.getD j P0) (arr.getD j undef))
  (hv:∀ own,own id=some (some c.w.heap.size,T)→Rep E.P ⟨w',c.S,own⟩ p v) (hr:(execOp a.eval o).run E.P c.w = .ok (.value v) w'):o.wp E.P a c.w K Q:=by
 obtain ⟨hk,hh⟩:=heap_new hI.toHeap (hn 0 (by decide)) T arr cells w' hw hos htp hou ho hl hrl
 exact YD hr (hK _ _ (Inv.put hI hk _ (qjw id _) { hh with ids:=fun i x hx=>(hh.ids i x hx).imp (fun h=>h) fun h=>(by omega) } o.dst hd fun _=>hv _ yB))
def newP (T:TypeId) (cells:List PV) (id:Nat) (p:PV):Plan:=match cells.all PV.one with
 | true=>.done p [(kb id,some (.blk T cells))]
 | false=>.fail
theorem qjp {T:TypeId} {cells:List PV} {id:Nat} {q p:PV} {g:St} {wb:L} (h:Res g (newP T cells id q) p wb):wM cells∧p=q∧wb=[(kb id,some (.blk T cells))]:=by
 unfold newP at h
 split at h
 ·rename_i ha
  obtain ⟨rfl,rfl⟩:=Res.done h
  exact ⟨fun p hp=>List.all_eq_true.1 ha p hp,rfl,rfl⟩
 ·exact (Res.fail h).elim
def aAlloc (P:Program) (T:TypeId) (id:Nat):Plan:=match qgx P T with
 | some zs=>newP T zs id (.opt id 0)
 | none=>.fail
theorem aAlloc_ok {E:Env} {o:Oper} {id:Nat} {T:TypeId} (ho:o.op = .alloc T) (hd:∀ x,o.dst=some x→x<E.n):yy E o id (aAlloc E.P T id):=by
 intro g p wb h nx c a K Q hn hI hK
 unfold aAlloc at h
 split at h
 ·rename_i zs hz
  obtain ⟨i,z,hi,hz',rfl⟩:=VD hz
  obtain ⟨hone,rfl,rfl⟩:=qjp h
  refine qbp (w':=c.w.alloc (.cells z.cells T)) hd hn hI hK rfl rfl rfl rfl hone (by simp) (QR z.cells).2 (v:=.pointer (some ⟨c.w.heap.size,0,none⟩)) (fun own h=>.opt h) ?_
  simp [execOp,ho,Instr.alloc,zeroValue,typeInfo,hi,hz',newVar,newRow]
 ·exact (Res.fail h).elim
def aBox (T:TypeId) (x:Operand) (id:Nat):Plan:=opd x fun p=>newP T (qam p) id (.opt id 0)
theorem aBox_ok {E:Env} {o:Oper} {id:Nat} {T:TypeId} {x:Operand} (ho:o.op = .box T x) (hd:∀ x,o.dst=some x→x<E.n):yy E o id (aBox T x id):=by
 intro g p wb h nx c a K Q hn hI hK
 obtain ⟨q,hq,h1⟩:=Res.opd hI h
 obtain ⟨hone,rfl,rfl⟩:=qjp h1
 have hrl:=qcp hq
 refine qbp (w':=c.w.alloc (.cells (a.eval x).cells T)) hd hn hI hK rfl rfl rfl rfl hone (by have:=hrl.1;omega) hrl.2 (v:=.pointer (some ⟨c.w.heap.size,0,none⟩)) (fun own h=>.opt h) ?_
 simp [execOp,ho,Instr.box,newVar,newRow]
def YU (zs:List PV):Nat→List PV
 | 0=>[]
 | n+1=>zs++YU zs n
theorem wj (zs:List PV):∀ n,(YU zs n).length=n*zs.length
 | 0=>by simp [YU]
 | n+1=>by rw [YU,List.length_append,wj zs n,Nat.succ_mul];omega
theorem WB (zs:List PV) (hz:0<zs.length):∀ (n i:Nat),i<n*zs.length→(YU zs n).getD i P0=zs.getD (i % zs.length) P0
 | 0,i,h=>by simp at h
 | n+1,i,h=>by
  rw [YU,List.getD_eq_getElem?_getD]
  by_cases e:i<zs.length
  ·rw [List.getElem?_append_left e,Nat.mod_eq_of_lt e,List.getD_eq_getElem?_getD]
  ·have h':i<n*zs.length+zs.length:=by rw [Nat.succ_mul] at h;exact h
   have h2:(i-zs.length) % zs.length=i % zs.length:=(Nat.mod_eq_sub_mod (by omega)).symm
   rw [List.getElem?_append_right (by omega),← List.getD_eq_getElem?_getD,WB zs hz n (i-zs.length) (by omega),h2]
theorem qfj {zs:List PV} (h:wM zs):∀ n,wM (YU zs n)
 | 0=>fun p hp=>by cases hp
 | n+1=>fun p hp=>by
  rw [YU,List.mem_append] at hp
  rcases hp with hp|hp
  ·exact h p hp
  ·exact qfj h n p hp
theorem made_rl {P:Program} {c:Cx} {z:Value} (n m:Nat) (hm:m=n*z.cells.size) (hz:0<z.cells.size):RL P c (YU (z.cells.toList.map .av) n) ((Array.range m).map (z.cells[· % z.cells.size]!)):=by
 subst hm
 refine ⟨by rw [wj];simp,fun i hi=>?_⟩
 rw [wj] at hi
 have hi':i<n*z.cells.size:=by simpa using hi
 rw [WB _ (by simpa using hz) n i hi]
 have h1:i % z.cells.size<z.cells.size:=Nat.mod_lt _ hz
 have h2:=(QR (P:=P) (c:=c) z.cells).2 (i % z.cells.size) (by simpa using h1)
 have e:((Array.range (n*z.cells.size)).map (z.cells[· % z.cells.size]!)).getD i undef=z.cells.getD (i % z.cells.size) undef:=by
  rw [Array.getD_eq_getD_getElem?,Array.getD_eq_getD_getElem?]
  simp [hi',h1]
 rw [e]
 simpa using h2
def Vy (P:Program) (T:TypeId) (len:Nat) (parts:List (Nat × Operand)) (id:Nat):Plan:=opds parts fun ps=>match P.underlying T with
 | some (.slice e)=>match P.info? e,qgx P e with
  | some ie,some zs=>match Nat.ble (len*ie.size) 16777216,Nat.beq ie.size zs.length,Nat.ble 1 zs.length with
   | true,true,true=>match qaa (fun i=>some (i*ie.size,ie.size)) (YU zs len) ps with
    | some cs=>newP e cs id (.osl id 0 len)
    | none=>.fail
   | _,_,_=>.fail
  | _,_=>.fail
 | _=>.fail
theorem RP_cast {P:Program} {c:Cx} {ps:List (Nat × PV)} {parts:Array (Nat × Operand)} {a:Act} (h:RP P c ps (parts.toList.map fun x=>(x.1,a.eval x.2))):RP P c ps ((parts.map fun x=>(x.1,a.eval x.2)).toList):=by
 simpa using h
theorem Vx {E:Env} {o:Oper} {id:Nat} {T:TypeId} {len:Nat} {parts:Array (Nat × Operand)} (ho:o.op = .buildSlice T len parts) (hd:∀ x,o.dst=some x→x<E.n):yy E o id (Vy E.P T len parts.toList id):=by
 intro g p wb h nx c a K Q hn hI hK
 obtain ⟨ps,hp,h1⟩:=Res.opds hI h
 split at h1
 ·rename_i e hu
  split at h1
  ·rename_i ie zs hie hz
   obtain ⟨i,z,hi,hz',rfl⟩:=VD hz
   rw [hie] at hi
   cases hi
   split at h1
   ·rename_i h2 h3 h4
    have h2:=Nat.le_of_ble_eq_true h2
    have h3:=Nat.eq_of_beq_eq_true h3
    have h4:=Nat.le_of_ble_eq_true h4
    simp only [List.length_map,Array.length_toList] at h3 h4
    split at h1
    ·rename_i cs hf
     obtain ⟨hone,rfl,rfl⟩:=qjp h1
     obtain ⟨arr,h5,h6⟩:=qbl (RP_cast hp) (made_rl len (len*ie.size) (by rw [h3]) h4) hf
     refine qbp (arr:=arr) (w':=c.w.alloc (.cells arr e)) hd hn hI hK rfl rfl rfl rfl hone (by have:=h6.1;omega) h6.2 (v:=.slice (some ⟨c.w.heap.size,0,none⟩) len len) (fun own hw=>.osl hw (.inr ⟨_,len,arr,rfl,rfl,⟨_,Vw _ _⟩,Nat.le_refl _,?_⟩)) ?_
     ·have h7:cs.length=len*ie.size:=by
       have:∀ {place:Nat→Option (Nat × Nat)} {ps:List (Nat × PV)} {cells cells':List PV},qaa place cells ps=some cells'→cells'.length=cells.length:=by
        intro place ps
        induction ps with
        | nil=>intro cells cells' h;simp only [qaa,Option.some.injEq] at h;rw [h]
        | cons x ps ih =>
         obtain ⟨i,p⟩:=x
         intro cells cells' h
         simp only [qaa] at h
         split at h
         ·cases h
         ·split at h
          ·rename_i q1 q2
           rw [ih h,wT (Nat.le_of_ble_eq_true q2)]
          ·cases h
       rw [this hf,wj]
       simp [h3]
      rw [wQ hie,h6.1,h7]
      omega
     ·have hr:=run_buildSlice (P:=E.P) c.w T e len (parts.map fun x=>(x.1,a.eval x.2)) arr ie z hu hie hz' (by omega)
      by_cases h0:len*ie.size=0
      ·have hlen:len=0:=by
        rcases Nat.mul_eq_zero.1 h0 with h|h
        ·exact h
        ·omega
       subst hlen
       have h5':Instr.fill (fun i=>some (i*ie.size,ie.size)) #[] (parts.map fun x=>(x.1,a.eval x.2)).toList=some arr:=by
        have h9:(Array.range 0).map (z.cells[· % z.cells.size]!) = #[]:=by simp [Array.range_zero']
        rw [Nat.zero_mul,h9] at h5
        exact h5
       have h8:(Instr.buildSlice T 0 (parts.map fun x=>(x.1,a.eval x.2))).run E.P c.w = .ok (.slice (some ⟨c.w.heap.size,0,none⟩) 0 0) (c.w.alloc (.cells arr e)):=by
        simp only [Instr.buildSlice,Sem.run_bind,run_underlying hu,Result.andThen_ok,vQ hie]
        simp [Array.range_zero',newRow] at h5' ⊢
        simp [h5']
       simp only [execOp,ho,Sem.run_bind,h8,Result.andThen_ok]
       rfl
      ·have hr:=hr h0 h5
       simp only [execOp,ho,Sem.run_bind,hr,Result.andThen_ok]
       rfl
    ·exact (Res.fail h1).elim
   ·exact (Res.fail h1).elim
  ·exact (Res.fail h1).elim
 ·exact (Res.fail h1).elim
def RP1 (P:Program) (c:Cx) (cells:List PV) (arr:Array Value):Prop:=cells.length≤arr.size∧∀ i,i<cells.length→Rep P c (cells.getD i P0) (arr.getD i undef)
theorem RL.head {P:Program} {c:Cx} {cells:List PV} {arr:Array Value} (h:RL P c cells arr):RP1 P c cells arr:=⟨by rw [h.1];exact Nat.le_refl _,h.2⟩
theorem row_get (cur:Array Value) (vs:List Value) (off i:Nat) (h:off+vs.length≤cur.size) :
  ((cur.toList.take off++vs++cur.toList.drop (off+vs.length)).toArray).getD i undef=if off≤i∧i<off+vs.length then vs.getD (i-off) undef else cur.getD i undef:=by
 simp only [Array.getD_eq_getD_getElem?,List.getElem?_toArray,List.getD_eq_getElem?_getD]
 by_cases h1:i<off
 ·rw [if_neg (by omega),List.append_assoc,List.getElem?_append_left (by simp;omega),List.getElem?_take_of_lt h1,Array.getElem?_toList]
 ·by_cases h2:i<off+vs.length
  ·rw [if_pos ⟨by omega,h2⟩,List.append_assoc,List.getElem?_append_right (by simp;omega),List.getElem?_append_left (by simp only [List.length_take,Array.length_toList];omega)]
   simp only [List.length_take,Array.length_toList]
   rw [Nat.min_eq_left (by omega)]
  ·rw [if_neg (by omega),List.getElem?_append_right (by simp only [List.length_append,List.length_take,Array.length_toList];omega),List.getElem?_drop]
   simp only [List.length_append,List.length_take,Array.length_toList]
   rw [Nat.min_eq_left (by omega),show off+vs.length+(i-(off+vs.length))=i by omega,Array.getElem?_toList]
theorem VN (cur:Array Value) (vs:List Value) (off:Nat) (h:off+vs.length≤cur.size):((cur.toList.take off++vs++cur.toList.drop (off+vs.length)).toArray).size=cur.size:=by
 simp;omega
theorem splice_row {P:Program} {c:Cx} {cells ps:List PV} {cur:Array Value} {vs:List Value} {off:Nat} (h:RP1 P c cells cur) (k:RL P c ps vs.toArray) (hl:off+ps.length≤cells.length) :
  RP1 P c (vI cells off ps) (cur.toList.take off++vs++cur.toList.drop (off+vs.length)).toArray:=by
 have e:vs.length=ps.length:=by simpa using k.1
 have h1:=h.1
 refine ⟨by rw [VN _ _ _ (by omega),wT hl];exact h.1,fun i hi=>?_⟩
 rw [wT hl] at hi
 rw [row_get _ _ _ _ (by omega),qem hl,e]
 by_cases e1:off≤i∧i<off+ps.length
 ·rw [if_pos e1,if_pos e1]
  have:=k.2 (i-off) (by omega)
  simpa [Array.getD_eq_getD_getElem?,List.getD_eq_getElem?_getD] using this
 ·rw [if_neg e1,if_neg e1]
  exact h.2 i hi
theorem append_row {P:Program} {c:Cx} {cells ps:List PV} {cur:Array Value} {vs:List Value} (h:RP1 P c cells cur) (k:RL P c ps vs.toArray) (hl:cells.length+ps.length≤cur.size) :
  RP1 P c (cells++ps) (cur.toList.take cells.length++vs++cur.toList.drop (cells.length+vs.length)).toArray:=by
 have e:vs.length=ps.length:=by simpa using k.1
 refine ⟨by rw [VN _ _ _ (by omega)];simpa using hl,fun i hi=>?_⟩
 rw [List.length_append] at hi
 rw [row_get _ _ _ _ (by omega),e]
 by_cases e1:cells.length≤i∧i<cells.length+ps.length
 ·rw [if_pos e1]
  have:=k.2 (i-cells.length) (by omega)
  rw [List.getD_eq_getElem?_getD,List.getElem?_append_right (by omega),← List.getD_eq_getElem?_getD]
  simpa [Array.getD_eq_getD_getElem?,List.getD_eq_getElem?_getD] using this
 ·rw [if_neg e1]
  have:=h.2 i (by omega)
  rw [List.getD_eq_getElem?_getD,List.getElem?_append_left (by omega),← List.getD_eq_getElem?_getD]
  exact this

/-! ### stores -/
theorem all_one {l:List PV} (h:l.all PV.one=true):wM l:=fun p hp=>List.all_eq_true.1 h p hp
theorem RL.oneCell {P:Program} {c:Cx} {ps:List PV} {vs:Array Value} (h:RL P c ps vs) (ho:wM ps):∀ v∈vs.toList,v.oneCell'=true:=by
 intro v hv
 obtain ⟨i,hi,rfl⟩:=List.getElem_of_mem hv
 have h1:i<vs.size:=by simpa using hi
 have h2:i<ps.length:=by have:=h.1;omega
 have h3:=h.2 i h2
 have e1:vs.getD i undef=vs.toList[i]:=by simp [Array.getD_eq_getD_getElem?,h1]
 have e2:ps.getD i P0=ps[i]:=by simp [List.getD_eq_getElem?_getD,h2]
 rw [e1,e2] at h3
 exact h3.one (ho _ (List.getElem_mem h2))
def qit (id:Nat) (T:TypeId) (cells:List PV) (off:Nat) (ps:List PV) (r:PV) (an:Ans):Plan:=match ps.all PV.one with
 | true=>match an with
  | .cells l=>.ob (off+ps.length≤cells.length∧vI cells off ps=l) (.done r [(kb id,some (.blk T l))])
  | _=>match Nat.ble (off+ps.length) cells.length with | true=>.done r [(kb id,some (.blk T (vI cells off ps)))] | false=>.fail
 | false=>.fail
theorem qgz {id:Nat} {T:TypeId} {cells ps:List PV} {off:Nat} {r p:PV} {an:Ans} {g:St} {wb:L} (h:Res g (qit id T cells off ps r an) p wb):wM ps∧off+ps.length≤cells.length∧p=r∧wb=[(kb id,some (.blk T (vI cells off ps)))]:=by
 unfold qit at h
 split at h
 ·rename_i ha
  refine ⟨all_one ha,?_⟩
  split at h
  ·obtain ⟨⟨h1,rfl⟩,h2⟩:=Res.ob h
   obtain ⟨rfl,rfl⟩:=Res.done h2
   exact ⟨h1,rfl,rfl⟩
  ·split at h
   ·rename_i hb
    obtain ⟨rfl,rfl⟩:=Res.done h
    exact ⟨Nat.le_of_ble_eq_true hb,rfl,rfl⟩
   ·exact (Res.fail h).elim
 ·exact (Res.fail h).elim
theorem qae {E:Env} {nx:Nat→Prop} {c:Cx} {g:St} {a:Act} {o:Oper} {id id1:Nat} {K:Act→World→Prop} {T:TypeId} {cells ps:List PV} {off b:Nat} {vs:List Value} {p:PV} {v:Value}
  (hd:∀ x,o.dst=some x→x<E.n) (hI:Inv E nx c g a) (hg:g (kb id1)=some (.blk T cells)) (hown:c.own id1=some (some b,T)) (ho:wM ps) (hl:off+ps.length≤cells.length) (hrl:RL E.P c ps vs.toArray)
  (hK:∀ c' a',Inv E (fun j=>nx j∨(id≤j∧j<id+8)) c' (over (wd o.dst p) (over [(kb id1,some (.blk T (vI cells off ps)))] g)) a'→K a' c'.w) (hv:∀ c',Rep E.P c' p v) :
  ∃ cur,c.w.heap[b]? = some (.cells cur T (0,0))∧off+vs.length≤cur.size∧K (a.put o.dst v) (c.w.setRow b (cur.toList.take off++vs++cur.toList.drop (off+vs.length)).toArray):=by
 obtain ⟨ob',hown',hone,hb⟩:=hI.blk id1 T cells hg
 rw [hown] at hown'
 cases hown'
 rcases hb with ⟨hb,_⟩|⟨b',cur,hb1,hb2,hb3,hb4⟩
 ·cases hb
 obtain rfl:b'=b:=by simpa using hb1.symm
 have e:vs.length=ps.length:=by simpa using hrl.1
 have hrow:=splice_row ⟨hb3,hb4⟩ hrl hl
 obtain ⟨hk,hh⟩:=qfw hI.toHeap hg hown cur (cur.toList.take off++vs++cur.toList.drop (off+vs.length)).toArray (c.w.setRow b' (cur.toList.take off++vs++cur.toList.drop (off+vs.length)).toArray) hb2 (setRow_heap _ _ _ _ _ _ hb2)
  (VN _ _ _ (by omega)) (fun k hk=>setRow_other _ _ _ _ hk) (by simp [World.setRow]) rfl rfl rfl (ones_splice hone ho) (by rw [wT hl];exact hb3) hrow.2
 refine ⟨cur,hb2,by omega,?_⟩
 exact hK _ _ (Inv.put hI hk _ (qjw id1 _) { hh with ids:=fun i x hx=>.inl (hh.ids i x hx) } o.dst hd fun _=>hv _)
def aStore (P:Program) (T:TypeId) (x y:Operand) (an:Ans):Plan:=opd x fun p=>opd y fun q=>match p,P.info? T with
 | .opt id off,some ti=>.look (kb id) fun v=>match v with
  | .blk B cells=>match Nat.beq (qam q).length ti.size with | true=>qit id B cells off (qam q) P0 an | false=>.fail
  | .pv _=>.fail
 | _,_=>.fail
theorem aStore_ok {E:Env} {o:Oper} {id:Nat} {T:TypeId} {x y:Operand} {an:Ans} (ho:o.op = .store T x y) (hd:∀ x,o.dst=some x→x<E.n):yy E o id (aStore E.P T x y an):=by
 intro g p wb h nx c a K Q hn hI hK
 obtain ⟨q1,hq1,h1⟩:=Res.opd hI h
 obtain ⟨q2,hq2,h2⟩:=Res.opd hI h1
 clear h h1
 split at h2
 ·rename_i id1 off ti hin
  obtain ⟨bv,hg,h3⟩:=Res.look h2
  cases bv with
  | pv _=>exact (Res.fail h3).elim
  | blk B cells =>
   simp only at h3
   split at h3
   ·rename_i hsz
    have hsz:=Nat.eq_of_beq_eq_true hsz
    obtain ⟨hone,hl,rfl,rfl⟩:=qgz h3
    obtain ⟨b,T2,hown,hv⟩:=wk hq1
    obtain ⟨ob',hown',_⟩:=hI.blk id1 B cells hg
    have eT:T2=B:=by rw [hown] at hown';cases hown';rfl
    subst eT
    have hrl:=qcp hq2
    obtain ⟨cur,hc1,hc2,hKK⟩:=qae (id:=id) (vs:=(a.eval y).cells.toList) (v:=undef) hd hI hg hown hone hl hrl hK fun _=>.sh (.av _)
    refine ow_skip ?_ hKK
    have hst:=run_storeCells_at E.P b off T2 (a.eval y).cells.toList 0 cur c.w hc1 (by simpa using hc2) (hrl.oneCell hone)
    have es:(a.eval y).cells.size=ti.size:=by rw [hrl.1,hsz]
    simp only [Nat.add_zero] at hst
    simp [execOp,ho,hv,Instr.storeAt,Instr.sureAddr,storeVar,vQ hin,es,hst]
   ·exact (Res.fail h3).elim
 ·exact (Res.fail h2).elim

/-! ### make -/
def zs1 (l:List PV) (an:Ans) (k:List PV→Plan):Plan:=match an with
 | .cells m=>.ob (l=m) (k m)
 | _=>k l
theorem zs1_ok {l:List PV} {an:Ans} {k:List PV→Plan} {g:St} {p:PV} {wb:L} (h:Res g (zs1 l an k) p wb):Res g (k l) p wb:=by
 unfold zs1 at h
 split at h
 ·obtain ⟨rfl,h1⟩:=Res.ob h
  exact h1
 ·exact h
def aMake (P:Program) (T:TypeId) (x y:Operand) (an:Ans) (id:Nat):Plan:=opd x fun p=>opd y fun q=>match p,q,P.underlying T with
 | .av (.int _ n),.av (.int _ m),some (.slice e)=>match P.info? e,qgx P e with
  | some ie,some zs=>match Nat.beq ie.size zs.length,Nat.ble 1 zs.length,zs.all PV.one with
   | true,true,true=>.ob (0≤n∧n≤m∧m≤140737488355328∧(ie.bytes:Int)*m≤140737488355328) (zs1 (YU zs n.toNat) an fun l=>.done (.osl id 0 n.toNat) [(kb id,some (.blk e l))])
   | _,_,_=>.fail
  | _,_=>.fail
 | _,_,_=>.fail
theorem aMake_ok {E:Env} {o:Oper} {id:Nat} {T:TypeId} {x y:Operand} {an:Ans} (ho:o.op = .makeSlice T x y) (hd:∀ x,o.dst=some x→x<E.n):yy E o id (aMake E.P T x y an id):=by
 intro g p wb h nx c a K Q hn hI hK
 obtain ⟨q1,hq1,h1⟩:=Res.opd hI h
 obtain ⟨q2,hq2,h2⟩:=Res.opd hI h1
 clear h h1
 split at h2
 ·rename_i kn n km m e hu
  split at h2
  ·rename_i ie zs hie hz
   obtain ⟨i,z,hi,hz',rfl⟩:=VD hz
   rw [hie] at hi
   cases hi
   split at h2
   ·rename_i h3 h4 h5
    have h3:=Nat.eq_of_beq_eq_true h3
    have h4:=Nat.le_of_ble_eq_true h4
    simp only [List.length_map,Array.length_toList] at h3 h4
    obtain ⟨⟨b1,b2,b3,b4⟩,h6⟩:=Res.ob h2
    obtain ⟨rfl,rfl⟩:=Res.done (zs1_ok h6)
    have hrl:=made_rl (P:=E.P) (c:=c) (z:=z) m.toNat (m.toNat*ie.size) (by rw [h3]) h4
    have hle:n.toNat*ie.size≤m.toNat*ie.size:=Nat.mul_le_mul_right _ (by omega)
    have hlen:(YU (z.cells.toList.map .av) n.toNat).length=n.toNat*ie.size:=by rw [wj,h3];simp
    refine qbp (arr:=madeCells z.cells (m.toNat*ie.size)) (w':=c.w.alloc (.cells (madeCells z.cells (m.toNat*ie.size)) e)) hd hn hI hK rfl rfl rfl rfl (qfj (all_one h5) _) (by rw [hlen,size_madeCells];exact hle) (fun j hj=>?_)
     (v:=.slice (some ⟨c.w.heap.size,0,none⟩) n.toNat m.toNat) (fun own hw=>.osl hw (.inr ⟨_,m.toNat,_,rfl,rfl,⟨_,Vw _ _⟩,by omega,by rw [wQ hie,size_madeCells];omega⟩)) ?_
    ·have hz1:0<(z.cells.toList.map PV.av).length:=by simp;omega
     have h7:=hrl.2 j (by rw [wj];simp only [List.length_map,Array.length_toList];rw [← h3];omega)
     rw [WB _ hz1 _ _ (by simp only [List.length_map,Array.length_toList];rw [← h3];omega)] at h7
     rw [WB _ hz1 _ _ (by simp only [List.length_map,Array.length_toList];rw [← h3];omega)]
     exact h7
    ·have hr:=run_make (P:=E.P) c.w T e ie z hu hie hz' kn km n m b1 b2 (by omega) (by omega)
     simp only [execOp,ho,zH hq1,zH hq2,Sem.run_bind,hr,Result.andThen_ok]
     rfl
   ·exact (Res.fail h2).elim
  ·exact (Res.fail h2).elim
 ·exact (Res.fail h2).elim
theorem YO {E:Env} {nx:Nat→Prop} {c:Cx} {g:St} (h:Heap E nx c g) {id:Nat} (hn:¬ nx id) (T:TypeId) :
  Keep c ⟨c.w,c.S,yN c.own id (none,T)⟩∧Heap E (fun i=>nx i∨i=id) ⟨c.w,c.S,yN c.own id (none,T)⟩ (over [(kb id,some (.blk T []))] g):=by
 have hf:=qcq h hn
 have hne:∀ i x,c.own i=some x→i≠id:=fun i x hx e=>by rw [e,hf] at hx;cases hx
 have hk:Keep c ⟨c.w,c.S,yN c.own id (none,T)⟩ :=
  ⟨fun b hb=>⟨hb,rfl⟩,fun i x hx=>by show yN _ _ _ _=_;rw [yS (hne i x hx)];exact hx,Shape.refl _⟩
 have hlv:∀ i,vC (over [(kb id,some (.blk T []))] g) i→i≠id→vC g i:=fun i ⟨T',cs',hx⟩ e=>⟨T',cs',by rw [QN,if_neg e] at hx;exact hx⟩
 have hid:∀ {i:Nat} {b:Nat} {T1:TypeId},yN c.own id (none,T) i=some (some b,T1)→i≠id∧c.own i=some (some b,T1):=by
  intro i b T1 h1
  have e:i≠id:=fun e=>by rw [e,yB] at h1;cases h1
  exact ⟨e,by rw [yS e] at h1;exact h1⟩
 refine ⟨hk,{ ids:=fun i x hx=>?_,blk:=fun i T' cs' hx=>?_,inj:=fun i j b T1 T2 h1 h2 h3 h4=>?_,apart:=fun i b T1 h1 h2=>?_,bnd:=fun i b T1 h1=>?_,sok:=h.sok,
               os:=h.os,tape:=h.tape,output:=h.output,size:=h.size,same:=h.same,laid:=h.laid,s0:=h.s0,s1:=h.s1,keep:=h.keep.trans hk }⟩
 ·by_cases e:i=id
  ·exact .inr e
  ·exact .inl (h.ids i x (by rw [← yS (x:=(none,T)) (own:=c.own) e];exact hx))
 ·rw [QN] at hx
  by_cases e:i=id
  ·rw [if_pos e] at hx
   cases hx
   subst e
   exact ⟨_,yB,fun p hp=>(by cases hp),.inl ⟨rfl,rfl⟩⟩
  ·rw [if_neg e] at hx
   obtain ⟨ob,h1,h2⟩:=h.blk i T' cs' hx
   exact ⟨ob,by show yN _ _ _ _=_;rw [yS e];exact h1,h2.mono hk fun b hb=>rfl⟩
 ·obtain ⟨e1,h3'⟩:=hid h3
  obtain ⟨e2,h4'⟩:=hid h4
  exact h.inj i j b T1 T2 (hlv i h1 e1) (hlv j h2 e2) h3' h4'
 ·obtain ⟨e1,h2'⟩:=hid h2
  exact h.apart i b T1 (hlv i h1 e1) h2'
 ·exact h.bnd i b T1 (hid h1).2

/-! ### what is appended -/
def src (_P:Program) (e:TypeId) (sz:Nat) (u:Option TypeDesc) (q:PV) (an:Ans) (k:Nat→List PV→Plan):Plan:=match u,q with
 | some (.slice _),.ssl cs off n=>seg cs off (n*sz) an fun l=>k n l
 | some (.slice _),.osl id off n=>.look (kb id) fun v=>match v with
  | .blk T' cs=>match Nat.beq T' e with | true=>seg cs off (n*sz) an fun l=>k n l | false=>.fail
  | .pv _=>.fail
 | some (.slice _),.av (.slice none 0 _)=>k 0 []
 | some .string,.av (.string s)=>match Nat.beq sz 1 with | true=>k s.size (s.data.toList.map fun b=>.av (.int .u8 b.toNat)) | false=>.fail
 | _,_=>.fail
theorem seg_ones {cs l:List PV} {off n:Nat} (h:wM cs) (he:(cs.drop off).take n=l):wM l:=by
 subst he
 exact fun p hp=>h p (List.mem_of_mem_drop (List.mem_of_mem_take hp))
theorem src_ok {E:Env} {nx:Nat→Prop} {c:Cx} {g:St} {a:Act} (hI:Inv E nx c g a) {e tx:TypeId} {sz:Nat} {q:PV} {v:Value} {an:Ans} {k:Nat→List PV→Plan} {p:PV} {wb:L} (hsz:E.P.cellsOf e=sz) (hq:Rep E.P c q v)
  (h:Res g (src E.P e sz (E.P.underlying tx) q an k) p wb):∃ n l news,Res g (k n l) p wb∧wM l∧l.length=n*sz∧RL E.P c l news.toArray∧Src E.P sz tx v n news c.w:=by
 -- cells that stand in memory
 have mem:∀ {cs:List PV} {off n:Nat} {l:List PV} {b a':Nat} {vf:Nat→Value} {cap:Nat} {e':TypeId},E.P.underlying tx=some (.slice e')→off+n*sz≤cs.length→(cs.drop off).take (n*sz)=l→wM cs →
   (∀ j,j<cs.length→c.w.cell? ⟨b,a'+j,none⟩=some (vf j))→(∀ j,j<cs.length→Rep E.P c (cs.getD j P0) (vf j))→v = .slice (some ⟨b,a'+off,none⟩) n cap →
   ∃ news:List Value,wM l∧l.length=n*sz∧RL E.P c l news.toArray∧Src E.P sz tx v n news c.w:=by
  intro cs off n l b a' vf cap e' hu h1 h2 h3 h4 h5 hv
  obtain ⟨h6,h7⟩:=ZC h1 h2
  have hrl:RL E.P c l ((List.range (n*sz)).map fun j=>vf (off+j)).toArray:=by
   refine ⟨by simp [h6],fun i hi=>?_⟩
   rw [h6] at hi
   rw [h7 i hi]
   have e1:(((List.range (n*sz)).map fun j=>vf (off+j)).toArray).getD i undef=vf (off+i):=by simp [Array.getD_eq_getD_getElem?,hi]
   rw [e1]
   exact h5 (off+i) (by omega)
  have ho:=seg_ones h3 h2
  refine ⟨_,ho,h6,hrl,?_⟩
  subst hv
  refine Src.ofSlice c.w hu _ n cap _ (by simp) (fun j u hj=>?_) (hrl.oneCell ho)
  have hj':j<n*sz:=by
   have:=(List.getElem?_eq_some_iff.1 hj).1
   simpa using this
  have hju:u=vf (off+j):=by simpa [hj'] using hj.symm
  rw [wL,hju,Nat.add_assoc]
  exact h4 _ (by omega)
 have emp:∀ {n:Nat} {l:List PV} {cs:List PV} {off:Nat} {ad:Option Addr} {cap:Nat} {e':TypeId},E.P.underlying tx=some (.slice e')→(cs.drop off).take (n*sz)=l→n=0→v = .slice ad 0 cap →
   ∃ news:List Value,wM l∧l.length=n*sz∧RL E.P c l news.toArray∧Src E.P sz tx v n news c.w:=by
  intro n l cs off ad cap e' hu h1 h2 h3
  subst h2
  rw [Nat.zero_mul,List.take_zero] at h1
  subst h1;subst h3
  refine ⟨[],fun p hp=>(by cases hp),by simp,⟨rfl,fun i hi=>by simp at hi⟩,?_⟩
  cases ad with
  | none=>exact Src.ofNil c.w hu cap
  | some ad=>exact Src.ofSlice c.w hu ad 0 cap [] (by simp) (fun j u hj=>by simp at hj) (fun _ h=>by cases h)
 unfold src at h
 split at h
 ·rename_i e' cs off n hu
  obtain ⟨l,h1,h2,h3⟩:=qcl h
  rcases YB hq with ⟨ad,cap,hv,hn⟩|⟨b,a',cap,vf,hv,hS,hc,hr,hone,hl⟩
  ·obtain ⟨news,h4⟩:=emp hu h2 hn hv
   exact ⟨n,l,news,h3,h4⟩
  ·obtain ⟨news,h4⟩:=mem hu h1 h2 hone hc (fun j hj=>.sh (hr j hj)) hv
   exact ⟨n,l,news,h3,h4⟩
 ·rename_i e' id off n hu
  obtain ⟨bv,hg,h4⟩:=Res.look h
  cases bv with
  | pv _=>exact (Res.fail h4).elim
  | blk T' cs =>
   simp only at h4
   split at h4
   ·rename_i hT
    have hT:=Nat.eq_of_beq_eq_true hT
    subst hT
    obtain ⟨l,h1,h2,h3⟩:=qcl h4
    obtain ⟨ob,T2,hown,hv⟩:=jy hq
    obtain ⟨ob',hown',hone,hb⟩:=hI.blk id T' cs hg
    rw [hown] at hown'
    cases hown'
    rcases hv with ⟨ad,hv,hn⟩|⟨b,cap,cs2,hob,hv,⟨z4,hb2⟩,hl,hsz2⟩
    ·obtain ⟨news,h5⟩:=emp hu h2 hn hv
     exact ⟨n,l,news,h3,h5⟩
    ·rcases hb with ⟨hb,_⟩|⟨b',vs,hb1,hb3,hb4,hb5⟩
     ·rw [hob] at hb;cases hb
     ·obtain rfl:b'=b:=by rw [hob] at hb1;simpa using hb1.symm
      obtain ⟨news,h5⟩:=mem (a':=0) (vf:=fun j=>vs.getD j undef) (cap:=cap) hu h1 h2 hone (fun j hj=>by
       have:j<vs.size:=by omega
       rw [cell_of_row c.w _ _ vs _ _ hb3]
       simp [Array.getD_eq_getD_getElem?,this]) hb5 (by rw [hv,Nat.zero_add])
      exact ⟨n,l,news,h3,h5⟩
   ·exact (Res.fail h4).elim
 ·rename_i e' cap hu
  have hv:=zH hq
  subst hv
  exact ⟨0,[],[],h,fun p hp=>(by cases hp),by simp,⟨rfl,fun i hi=>by simp at hi⟩,Src.ofNil c.w hu cap⟩
 ·rename_i s hu
  split at h
  ·rename_i h1
   have h1:=Nat.eq_of_beq_eq_true h1
   have hv:=zH hq
   subst hv
   rw [h1] at hsz ⊢
   have hone:wM (s.data.toList.map fun b=>PV.av (.int .u8 b.toNat)):=fun p hp=>by
    obtain ⟨x,_,rfl⟩:=List.mem_map.1 hp
    rfl
   refine ⟨s.size,_,byteCells s,h,hone,by simp,?_,Src.ofString c.w hu s⟩
   have e1:(s.data.toList.map fun b=>PV.av (.int .u8 b.toNat))=((byteCells s).toArray.toList.map .av):=by simp [byteCells]
   rw [e1]
   exact QR _
  ·exact (Res.fail h).elim
 ·exact (Res.fail h).elim
def appP (e:TypeId) (bytes len n id:Nat) (old:L) (cs:List PV) (an2:Option (List PV)):Plan :=
 .ob ((len+n)*bytes≤140737488355328∧len+n≤9223372036854775807) (match an2 with
  | some l=>.ob (cs=l) (.done (.osl id 0 (len+n)) (old++[(kb id,some (.blk e l))]))
  | none=>.done (.osl id 0 (len+n)) (old++[(kb id,some (.blk e cs))]))
theorem appP_ok {e:TypeId} {bytes len n id:Nat} {old:L} {cs:List PV} {an2:Option (List PV)} {g:St} {p:PV} {wb:L} (h:Res g (appP e bytes len n id old cs an2) p wb) :
  ((len+n)*bytes≤140737488355328∧len+n≤9223372036854775807)∧p = .osl id 0 (len+n)∧wb=old++[(kb id,some (.blk e cs))]:=by
 obtain ⟨h1,h2⟩:=Res.ob h
 refine ⟨h1,?_⟩
 cases an2 with
 | none=>exact Res.done h2
 | some l =>
  obtain ⟨rfl,h3⟩:=Res.ob h2
  exact Res.done h3
def ans1 (an:Ans):Ans:=match an with | .app (some l) _=>.cells l|_=>.no
def ans2 (an:Ans):Option (List PV):=match an with | .cells l=>some l | .app _ r=>r|_=>none
def aAppend (P:Program) (T:TypeId) (u:Option TypeDesc) (x y:Operand) (an:Ans) (id:Nat):Plan:=opd x fun p=>opd y fun q=>match P.underlying T with
 | some (.slice e)=>match P.info? e with
  | some ie=>match ie.zero,Nat.ble 1 ie.size with
   | some z,true=>match Nat.beq z.cells.size ie.size with
    | true=>src P e ie.size u q (ans1 an) fun n l=>match p with
     | .av (.slice none 0 0)=>appP e ie.bytes 0 n id [] l (ans2 an)
     | .osl id1 0 len=>.look (kb id1) fun v=>match v with
      | .blk B cells=>match Nat.beq B e with
       | true=>.ob (cells.length=len*ie.size) (appP e ie.bytes len n id [(kb id1,none)] (cells++l) (ans2 an))
       | false=>.fail
      | .pv _=>.fail
     | _=>.fail
    | false=>.fail
   | _,_=>.fail
  | none=>.fail
 | _=>.fail

theorem WY {P:Program} (w:World) (t tx ty e:TypeId) (i:TypeInfo) (ht:P.underlying t=some (.slice e)) (hi:P.info? e=some i) (g sLen sCap:Nat) (cur:Array Value) (hg:w.heap[g]? = some (.cells cur e (0,0)))
  (x:Value) (n:Nat) (news:List Value) (hs:Src P i.size tx x n news w) (hroom:sLen+n≤sCap) (hfit:sLen*i.size+news.length≤cur.size) :
  (Builtin.append_ #[t,tx] ty #[.slice (some ⟨g,0,none⟩) sLen sCap,x]).run P w =
   .ok (.slice (some ⟨g,0,none⟩) (sLen+n) sCap) (w.setRow g (cur.toList.take (sLen*i.size)++news++cur.toList.drop (sLen*i.size+news.length)).toArray):=by
 have hst:=run_storeCells_at P g (sLen*i.size) e news 0 cur w hg (by simpa using hfit) hs.one
 simp only [Nat.add_zero] at hst
 rcases hs.kind with ⟨e',hk⟩|hk <;> simp [Builtin.append_,run_underlying ht,run_underlying hk,sizeOf,typeInfo,hi,hs.len,hroom,hs.cells,Addr.add_lit,hst]
theorem YY {P:Program} (w:World) (t tx ty e:TypeId) (i:TypeInfo) (ht:P.underlying t=some (.slice e)) (hi:P.info? e=some i) (ad:Option Addr) (x:Value) (hs:Src P i.size tx x 0 [] w) :
  (Builtin.append_ #[t,tx] ty #[.slice ad 0 0,x]).run P w = .ok (.slice ad 0 0) w:=by
 have hc:=hs.cells
 cases ad <;> rcases hs.kind with ⟨e',hk⟩|hk <;> simp [Builtin.append_,run_underlying ht,run_underlying hk,sizeOf,typeInfo,hi,hs.len,hc,storeCells]

theorem qau {E:Env} {nx:Nat→Prop} {c:Cx} {g:St} {a:Act} {o:Oper} {id:Nat} {K:Act→World→Prop} {Q:Exit→Act→World→Prop} {e:TypeId} {ie:TypeInfo} {cells l:List PV} {olds news:List Value} {rest:Array Value} {len n cap:Nat} {v:Value} {w':World} {old:L}
  (hd:∀ x,o.dst=some x→x<E.n) (hn:∀ t,t<8→¬ nx (id+t)) (hI:Inv E nx c g a) (hie:E.P.info? e=some ie) (hold:old=[]∨∃ id1,old=[(kb id1,none)])
  (hK:∀ c' a',Inv E (fun j=>nx j∨(id≤j∧j<id+8)) c' (over (wd o.dst (.osl id 0 (len+n))) (over (old++[(kb id,some (.blk e (cells++l)))]) g)) a'→K a' c'.w)
  (ho1:wM cells) (ho2:wM l) (hr1:RL E.P c cells olds.toArray) (hr2:RL E.P c l news.toArray)
  (hw:w'.heap=c.w.heap.push (.cells ((olds++news).toArray++rest) e (0,0))) (hos:w'.os=c.w.os) (htp:w'.tape=c.w.tape) (hou:w'.output=c.w.output) (hcap:len+n≤cap) (hsz:cap*ie.size≤((olds++news).toArray++rest).size)
  (hv:v = .slice (some ⟨c.w.heap.size,0,none⟩) (len+n) cap) (hr:(execOp a.eval o).run E.P c.w = .ok (.value v) w'):o.wp E.P a c.w K Q:=by
 have hone:wM (cells++l):=fun p hp=>by
  rcases List.mem_append.1 hp with h|h
  ·exact ho1 p h
  ·exact ho2 p h
 have hrl:=hr1.append hr2
 have e1:olds.toArray++news.toArray=(olds++news).toArray:=by simp
 rw [e1] at hrl
 have hs1:(olds++news).toArray.size=(cells++l).length:=hrl.1
 obtain ⟨hk,hh⟩:=heap_new hI.toHeap (show ¬ nx id from hn 0 (by decide)) e ((olds++news).toArray++rest) (cells++l) w' hw hos htp hou hone (by rw [Array.size_append];omega) fun j hj=>by
  have h1:=hrl.2 j hj
  have h2:j<(olds++news).toArray.size:=by omega
  have h3:j<((olds++news).toArray++rest).size:=by rw [Array.size_append];omega
  rw [Array.getD_eq_getD_getElem?,Array.getElem?_append_left h2,← Array.getD_eq_getD_getElem?]
  exact h1
 have hnew:w'.heap[c.w.heap.size]? = some (.cells ((olds++news).toArray++rest) e (0,0)):=by rw [hw];simp
 have hrep:Rep E.P ⟨w',c.S,yN c.own id (some c.w.heap.size,e)⟩ (.osl id 0 (len+n)) v :=
  .osl yB (.inr ⟨_,cap,_,rfl,hv,⟨_,hnew⟩,hcap,by rw [wQ hie];omega⟩)
 have hids:∀ (i:Nat) (x:Option Nat × TypeId),yN c.own id (some c.w.heap.size,e) i=some x→nx i∨(id≤i∧i<id+8):=fun i x hx=>(hh.ids i x hx).imp (fun h=>h) fun h=>(by omega)
 refine YD hr (hK ⟨w',c.S,yN c.own id (some c.w.heap.size,e)⟩ _ ?_)
 rcases hold with rfl|⟨id1,rfl⟩
 ·exact Inv.put hI hk _ (qjw id _) { hh with ids:=hids } o.dst hd fun _=>hrep
 ·have h2:=heap_drop hh id1
  have e2:over [(kb id1,none)] (over [(kb id,some (.blk e (cells++l)))] g)=over ([(kb id1,none)]++[(kb id,some (.blk e (cells++l)))]) g:=(ZL _ _ _).symm
  rw [e2] at h2
  exact Inv.put hI hk _ (fun s=>by simp [lk,jU]) { h2 with ids:=hids } o.dst hd fun _=>hrep
theorem aAppend_ok {E:Env} {o:Oper} {id:Nat} {T U:TypeId} {x y:Operand} {an:Ans} (ho:o.op = .call { callee:=.builtin .append,args := #[x,y],argTypes := #[T,U] }) (hd:∀ x,o.dst=some x→x<E.n) :
  yy E o id (aAppend E.P T (E.P.underlying U) x y an id):=by
 intro g p wb h nx c a K Q hn hI hK
 obtain ⟨q1,hq1,h1⟩:=Res.opd hI h
 obtain ⟨q2,hq2,h2⟩:=Res.opd hI h1
 clear h h1
 have hfr:¬ nx id:=hn 0 (by decide)
 split at h2
 case h_2=>exact (Res.fail h2).elim
 rename_i e hu
 split at h2
 case h_2=>exact (Res.fail h2).elim
 rename_i ie hie
 split at h2
 case h_2=>exact (Res.fail h2).elim
 rename_i z hz hb1
 have hb1:=Nat.le_of_ble_eq_true hb1
 split at h2
 case h_2=>exact (Res.fail h2).elim
 rename_i hzs
 have hzs:=Nat.eq_of_beq_eq_true hzs
 obtain ⟨n,l,news,h3,hl1,hl2,hl3,hsrc⟩:=src_ok hI (wQ hie) hq2 h2
 have hnl:news.length=n*ie.size:=hsrc.newsLen
 have hex:∀ {v:Value} {w':World},(Builtin.append_ #[T,U] o.type #[a.eval x,a.eval y]).run E.P c.w = .ok v w'→(execOp a.eval o).run E.P c.w = .ok (.value v) w':=fun hr=>by
  simp [execOp,ho,resolve,invoke,builtin,hr]
 split at h3
 ·-- nil
  obtain ⟨⟨hb2,hb3⟩,rfl,rfl⟩:=appP_ok h3
  have hv:=zH hq1
  by_cases h0:n=0
  ·subst h0
   have hl0:l=[]:=List.eq_nil_of_length_eq_zero (by simpa using hl2)
   have hn0:news=[]:=List.eq_nil_of_length_eq_zero (by simpa using hnl)
   subst hl0;subst hn0
   obtain ⟨hk,hh⟩:=YO hI.toHeap hfr e
   have hr:=YY (P:=E.P) c.w T U o.type e ie hu hie none (a.eval y) hsrc
   refine YD (v:=.slice none 0 0) (hex (by rw [hv];exact hr)) (hK ⟨c.w,c.S,yN c.own id (none,e)⟩ _ ?_)
   exact Inv.put hI hk _ (qjw id _) { hh with ids:=fun i x hx=>(hh.ids i x hx).imp (fun h=>h) fun h=>(by omega) } o.dst hd fun _=>.osl yB (.inl ⟨_,rfl,rfl⟩)
  ·have hr:=run_append_grow_src (P:=E.P) c.w T U o.type e ie z hu hie hz none 0 0 [] (by simpa using run_firstCells_none c.w.drew ie.size 0 0 0) (a.eval y) n news hsrc (by omega) (by omega) (growslice_fits (by omega) hb2)
   rw [Nat.zero_add] at hr
   refine qau (len:=0) (cells:=[]) (olds:=[]) (news:=news) (rest:=Builtin.zeroCells z.cells (grownCap c.w n 0 e-n)) (w':=c.w.drew.alloc (.cells (([]++news).toArray++Builtin.zeroCells z.cells (grownCap c.w n 0 e-n)) e)) (cap:=grownCap c.w n 0 e) (old:=[])
    hd hn hI hie (.inl rfl) (by simpa using hK) (fun p hp=>by cases hp) hl1 ⟨rfl,fun i hi=>by simp at hi⟩ hl3 rfl rfl rfl rfl (by have:=grownCap_ge c.w n 0 e;omega) ?_ (by rw [Nat.zero_add]) (hex (by rw [hv];exact hr))
   simp only [Array.size_append,List.size_toArray,List.nil_append,size_zeroCells,hzs,hnl,← Nat.add_mul]
   exact Nat.mul_le_mul_right _ (by omega)
 ·-- a row of the call's own
  rename_i id1 len
  obtain ⟨bv,hg,h4⟩:=Res.look h3
  cases bv with
  | pv _=>exact (Res.fail h4).elim
  | blk B cells =>
   simp only at h4
   split at h4
   case h_2=>exact (Res.fail h4).elim
   rename_i hB
   have hB:=Nat.eq_of_beq_eq_true hB
   subst hB
   obtain ⟨hcl,h5⟩:=Res.ob h4
   obtain ⟨⟨hb2,hb3⟩,rfl,rfl⟩:=appP_ok h5
   obtain ⟨ob,T2,hown,hv⟩:=jy hq1
   obtain ⟨ob',hown',hone,hbk⟩:=hI.blk id1 B cells hg
   rw [hown] at hown'
   cases hown'
   rcases hv with ⟨ad,hv,hlen⟩|⟨b,cap,cs2,hob,hv,⟨z4,hb4⟩,hlc,hsz2⟩
   ·-- nothing in it
    subst hlen
    have hc0:cells=[]:=List.eq_nil_of_length_eq_zero (by simpa using hcl)
    subst hc0
    by_cases h0:n=0
    ·subst h0
     have hl0:l=[]:=List.eq_nil_of_length_eq_zero (by simpa using hl2)
     have hn0:news=[]:=List.eq_nil_of_length_eq_zero (by simpa using hnl)
     subst hl0;subst hn0
     obtain ⟨hk,hh⟩:=qhw hI.toHeap hfr hg hown
     have hr:=YY (P:=E.P) c.w T U o.type B ie hu hie ad (a.eval y) hsrc
     refine YD (v:=.slice ad 0 0) (hex (by rw [hv];exact hr)) (hK ⟨c.w,c.S,yN c.own id (ob,B)⟩ _ ?_)
     exact Inv.put hI hk _ (fun s=>by simp [lk,jU]) { hh with ids:=fun i x hx=>(hh.ids i x hx).imp (fun h=>h) fun h=>(by omega) } o.dst hd fun _=>.osl yB (.inl ⟨_,rfl,rfl⟩)
    ·have hr:=run_append_grow_src (P:=E.P) c.w T U o.type B ie z hu hie hz ad 0 0 [] (by cases ad <;> simp [Builtin.firstCells,loadCells,loadCellsFrom]) (a.eval y) n news hsrc (by omega) (by omega) (growslice_fits (by omega) hb2)
     rw [Nat.zero_add] at hr
     refine qau (len:=0) (cells:=[]) (olds:=[]) (news:=news) (rest:=Builtin.zeroCells z.cells (grownCap c.w n 0 B-n)) (w':=c.w.drew.alloc (.cells (([]++news).toArray++Builtin.zeroCells z.cells (grownCap c.w n 0 B-n)) B)) (cap:=grownCap c.w n 0 B) (old:=[(kb id1,none)])
      hd hn hI hie (.inr ⟨id1,rfl⟩) (by simpa using hK) (fun p hp=>by cases hp) hl1 ⟨rfl,fun i hi=>by simp at hi⟩ hl3 rfl rfl rfl rfl (by have:=grownCap_ge c.w n 0 B;omega) ?_ (by rw [Nat.zero_add]) (hex (by rw [hv];exact hr))
     simp only [Array.size_append,List.size_toArray,List.nil_append,size_zeroCells,hzs,hnl,← Nat.add_mul]
     exact Nat.mul_le_mul_right _ (by omega)
   ·subst hob
    rcases hbk with ⟨hbk,_⟩|⟨b',cur,hk1,hk2,hk3,hk4⟩
    ·cases hbk
    obtain rfl:b'=b:=by simpa using hk1.symm
    rw [hk2] at hb4
    have ecur:cs2=cur:=by cases hb4;rfl
    subst ecur
    rw [wQ hie,Nat.zero_add] at hsz2
    by_cases hroom:len+n≤cap
    ·have hfit:len*ie.size+news.length≤cs2.size:=by
      rw [hnl,← Nat.add_mul]
      exact Nat.le_trans (Nat.mul_le_mul_right _ hroom) hsz2
     have hr:=WY (P:=E.P) c.w T U o.type B ie hu hie b' len cap cs2 hk2 (a.eval y) n news hsrc hroom hfit
     obtain ⟨hkA,hhA⟩:=qhw hI.toHeap hfr hg hown
     have hgA:over [(kb id1,none),(kb id,some (.blk B cells))] g (kb id)=some (.blk B cells):=by
      have hne:id≠id1:=fun e1=>by
       have:=hI.ids id1 _ hown
       rw [← e1] at this
       exact hn 0 (by decide) (by simpa using this)
      simp only [over,lk,YT]
      simp [hne]
     have hrow:=append_row (P:=E.P) (c:=⟨c.w,c.S,yN c.own id (some b',B)⟩) (cells:=cells) (ps:=l) (cur:=cs2) (vs:=news) ⟨hk3,fun j hj=>(hk4 j hj).mono hkA⟩ (hl3.mono hkA) (by rw [hcl,hl2];rw [hnl] at hfit;exact hfit)
     rw [hcl] at hrow
     obtain ⟨hkB,hhB⟩:=qfw hhA hgA yB cs2 (cs2.toList.take (len*ie.size)++news++cs2.toList.drop (len*ie.size+news.length)).toArray
      (c.w.setRow b' (cs2.toList.take (len*ie.size)++news++cs2.toList.drop (len*ie.size+news.length)).toArray) hk2 (setRow_heap _ _ _ _ _ _ hk2) (VN _ _ _ hfit)
      (fun k hk=>setRow_other _ _ _ _ hk) (by simp [World.setRow]) rfl rfl rfl (cells':=cells++l) (fun p hp=>by
       rcases List.mem_append.1 hp with h|h
       ·exact hone p h
       ·exact hl1 p h) (by rw [List.length_append,hcl,hl2,← hnl];exact hfit) hrow.2
     have eo:over [(kb id,some (.blk B (cells++l)))] (over [(kb id1,none),(kb id,some (.blk B cells))] g)=over ([(kb id1,none)]++[(kb id,some (.blk B (cells++l)))]) g:=by
      funext k
      simp only [over,lk,List.cons_append,List.nil_append]
      by_cases h1:Nat.beq k (kb id)=true
      ·have hne:Nat.beq k (kb id1)=false:=by
        rw [Nat.eq_of_beq_eq_true h1,YT]
        have hne:id≠id1:=fun e1=>by
         have:=hI.ids id1 _ hown
         rw [← e1] at this
         exact hn 0 (by decide) (by simpa using this)
        simp [hne]
       simp [h1,hne]
      ·simp only [h1]
       by_cases h2:Nat.beq k (kb id1)=true <;> simp [h2]
     rw [eo] at hhB
     refine YD (hex (by rw [hv];exact hr)) (hK ⟨c.w.setRow b' (cs2.toList.take (len*ie.size)++news++cs2.toList.drop (len*ie.size+news.length)).toArray,c.S,yN c.own id (some b',B)⟩ _ ?_)
     refine Inv.put hI (hkA.trans hkB) _ (fun s=>by simp [lk,jU]) { hhB with ids:=fun i x hx=>(hhB.ids i x hx).imp (fun h=>h) fun h=>(by omega) } o.dst hd fun _=>?_
     exact .osl yB (.inr ⟨b',cap,_,rfl,rfl,⟨_,setRow_heap _ _ _ _ _ _ hk2⟩,hroom,by rw [VN _ _ _ hfit,wQ hie];omega⟩)
    ·have holds:(Builtin.firstCells ie.size len (.slice (some ⟨b',0,none⟩) len cap)).run E.P c.w.drew = .ok (cs2.toList.take (len*ie.size)).toArray c.w.drew:=by
      have hle:len*ie.size≤cs2.size:=by rw [← hcl];exact hk3
      refine run_firstCells_some c.w.drew ie.size len ⟨b',0,none⟩ len cap _ (by simp;omega) fun j v hj=>?_
      have hj':j<len*ie.size:=by
       have:=(List.getElem?_eq_some_iff.1 hj).1
       simp at this;omega
      rw [wL,Nat.zero_add]
      show c.w.cell? ⟨b',j,none⟩=_
      rw [cell_of_row c.w b' j cs2 _ _ hk2]
      rw [List.getElem?_take_of_lt hj',Array.getElem?_toList] at hj
      exact hj
     have hr:=run_append_grow_src (P:=E.P) c.w T U o.type B ie z hu hie hz (some ⟨b',0,none⟩) len cap _ holds (a.eval y) n news hsrc (by omega) (by omega) (growslice_fits (by omega) hb2)
     have hle:len*ie.size≤cs2.size:=by rw [← hcl];exact hk3
     have hr1:RL E.P c cells (cs2.toList.take (len*ie.size)).toArray:=by
      refine ⟨by simp;omega,fun i hi=>?_⟩
      have h1:=hk4 i hi
      have e1:((cs2.toList.take (len*ie.size)).toArray).getD i undef=cs2.getD i undef:=by
       simp only [Array.getD_eq_getD_getElem?,List.getElem?_toArray]
       rw [List.getElem?_take_of_lt (by omega),Array.getElem?_toList]
      rw [e1]
      exact h1
     refine qau (len:=len) (cells:=cells) (olds:=cs2.toList.take (len*ie.size)) (news:=news) (rest:=Builtin.zeroCells z.cells (grownCap c.w (len+n) cap B-(len+n))) (w':=c.w.drew.alloc (.cells ((cs2.toList.take (len*ie.size)++news).toArray++Builtin.zeroCells z.cells (grownCap c.w (len+n) cap B-(len+n))) B)) (cap:=grownCap c.w (len+n) cap B) (old:=[(kb id1,none)])
      hd hn hI hie (.inr ⟨id1,rfl⟩) hK hone hl1 hr1 hl3 rfl rfl rfl rfl (grownCap_ge c.w (len+n) cap B) ?_ rfl (hex (by rw [hv];exact hr))
     have hge:=grownCap_ge c.w (len+n) cap B
     simp only [Array.size_append,List.size_toArray,List.length_append,List.length_take,Array.length_toList,size_zeroCells,hzs,hnl]
     rw [Nat.min_eq_left hle,← Nat.add_mul,← Nat.add_mul]
     exact Nat.mul_le_mul_right _ (by omega)
 ·exact (Res.fail h3).elim
def eqT (P:Program):Nat→TypeId→List PV→List PV→Option Bool
 | 0,_,_,_=>none
 | f+1,T,xs,ys=>match P.underlying T with
  | some (.int _)=>match xs,ys with
   | [.av (.int k a)],[.av (.int k' b)]=>if k=k' then some (decide (a=b)) else none
   | _,_=>none
  | some .bool=>match xs,ys with
   | [.av (.bool a)],[.av (.bool b)]=>some (a == b)
   | _,_=>none
  | some .string=>match xs,ys with
   | [.av (.string a)],[.av (.string b)]=>some (a.toList == b.toList)
   | _,_=>none
  | some (.struct fs)=>match P.stoodInHeld T with
   | false=>eqFs P (eqT P f) xs ys fs.toList
   | true=>none
  | _=>none
where
 eqFs (P:Program) (r:TypeId→List PV→List PV→Option Bool) (xs ys:List PV):List Field→Option Bool
  | []=>some true
  | f :: fs => match f.name == "_", P.info? f.type with
   | false,some ti=>match Nat.ble (f.offset+ti.size) xs.length,Nat.ble (f.offset+ti.size) ys.length,Nat.ble 1 ti.size with
    | true,true,true=>match r f.type ((xs.drop f.offset).take ti.size) ((ys.drop f.offset).take ti.size),eqFs P r xs ys fs with
     | some a,some b=>some (match fs with | []=>a | _=>a && b)
     | _,_=>none
    | _,_,_=>none
   | _,_=>none

def VR (P:Program) (c:Cx) (T:TypeId) (l:List PV) (v:Value):Prop :=
 (wO (P.underlying T)=some true→∃ arr,v = .agg arr∧RL P c l arr)∧(wO (P.underlying T)=some false→∀ p,l=[p]→Rep P c p v)
theorem part_vr {P:Program} {c:Cx} {T:TypeId} {ti:TypeInfo} {ag:Bool} (hag:wO (P.underlying T)=some ag) (hin:P.info? T=some ti) {xs:List PV} {vs:Array Value} {off:Nat} (h:RL P c xs vs) (hl:off+ti.size≤xs.length) (h1:1≤ti.size) (w:World) :
  ∃ v,(part T vs off).run P w = .ok v w∧VR P c T ((xs.drop off).take ti.size) v:=by
 have hs:=h.1
 cases ag with
 | true =>
  refine ⟨.agg (vs.extract off (off+ti.size)),by simp [part,Qk hag,vQ hin],fun _=>⟨_,rfl,by simp;omega,fun i hi=>?_⟩,fun e=>by rw [hag] at e;cases e⟩
  have hi':i<ti.size:=by simp at hi;omega
  have h2:=h.2 (off+i) (by omega)
  have h6:off+i<vs.size:=by omega
  have h7:i<(vs.extract off (off+ti.size)).size:=by simp;omega
  have e1:(vs.extract off (off+ti.size)).getD i undef=vs.getD (off+i) undef:=by
   rw [Array.getD_eq_getD_getElem?,Array.getD_eq_getD_getElem?,Array.getElem?_eq_getElem h7,Array.getElem?_eq_getElem h6]
   simp
  have e2:((xs.drop off).take ti.size).getD i P0=xs.getD (off+i) P0:=by simp [List.getD_eq_getElem?_getD,hi']
  rw [e1,e2]
  exact h2
 | false =>
  have h6:off<vs.size:=by omega
  refine ⟨vs[off],by simp [part,Qk hag,h6],fun e=>(by rw [hag] at e;cases e),fun _ p hp=>?_⟩
  have h2:=h.2 off (by omega)
  have e1:xs.getD off P0=p:=by
   have:=congrArg (·.getD 0 P0) hp
   simp only [List.getD_cons_zero] at this
   rw [← this]
   simp [List.getD_eq_getElem?_getD,show 0<ti.size by omega]
  rw [e1] at h2
  simpa [Array.getD_eq_getD_getElem?,h6] using h2
theorem eqFs_ok {P:Program} {c:Cx} {f d:Nat} (w:World) (ih:∀ (T:TypeId) (xs ys:List PV) (b:Bool),eqT P f T xs ys=some b→∀ vx vy,VR P c T xs vx→VR P c T ys vy→(Op.equalIn d T vx vy).run P w = .ok b w) {xs ys:List PV} {vx vy:Array Value} (hx:RL P c xs vx) (hy:RL P c ys vy) :
  ∀ (fs:List Field) (b:Bool),eqT.eqFs P (eqT P f) xs ys fs=some b→(∀ g∈fs,∃ ag,wO (P.underlying g.type)=some ag)→(Op.eqFields d vx vy fs).run P w = .ok b w
 | [],b,h,_=>by
  simp only [eqT.eqFs,Option.some.injEq] at h
  subst h
  simp [Op.eqFields]
 | g :: fs,b,h,hall=>by
  simp only [eqT.eqFs] at h
  split at h
  case h_2=>cases h
  rename_i ti hname hin
  split at h
  case h_2=>cases h
  rename_i h1 h2 h3
  have h1:=Nat.le_of_ble_eq_true h1
  have h2:=Nat.le_of_ble_eq_true h2
  have h3:=Nat.le_of_ble_eq_true h3
  split at h
  case h_2=>cases h
  rename_i a b' ha hb
  obtain ⟨ag,hag⟩:=hall g (by simp)
  obtain ⟨v1,p1,q1⟩:=part_vr hag hin hx h1 h3 w
  obtain ⟨v2,p2,q2⟩:=part_vr hag hin hy h2 h3 w
  have hn : g.name ≠ "_" := by simpa using hname
  have hr:=ih _ _ _ _ ha v1 v2 q1 q2
  have hrest:=eqFs_ok w ih hx hy fs b' hb fun g' hg'=>hall g' (by simp [hg'])
  simp only [Op.eqFields,hn,ne_eq,not_false_eq_true,if_true,Sem.run_bind,p1,p2,hr,Result.andThen_ok]
  simp only [Option.some.injEq] at h
  cases a with
  | true =>
   simp only [Bool.not_true,Bool.false_eq_true,if_false,hrest]
   cases fs with
   | nil =>
    simp only [eqT.eqFs,Option.some.injEq] at hb
    simp only at h
    rw [← h,← hb]
   | cons x r=>simp only [Bool.true_and] at h;rw [h]
  | false =>
   simp only [Bool.not_false,if_true,Sem.run_pure]
   cases fs with
   | nil=>simp only at h;rw [← h]
   | cons x r=>simp only [Bool.false_and] at h;rw [← h]
theorem eqFs_all {P:Program} {f:Nat} {xs ys:List PV}:∀ (fs:List Field) (b:Bool),eqT.eqFs P (eqT P f) xs ys fs=some b→∀ g∈fs,∃ ag,wO (P.underlying g.type)=some ag
 | [],_,_,_,hg=>by cases hg
 | g0 :: fs,b,h,g,hg=>by
  simp only [eqT.eqFs] at h
  split at h
  case h_2=>cases h
  split at h
  case h_2=>cases h
  split at h
  case h_2=>cases h
  rename_i a b' ha hb
  rcases List.mem_cons.1 hg with rfl|hg
  ·cases f with
   | zero=>simp [eqT] at ha
   | succ f =>
    simp only [eqT] at ha
    cases hu:P.underlying g.type with
    | none=>rw [hu] at ha;cases ha
    | some d=>cases d <;> first | exact ⟨_,rfl⟩ | (rw [hu] at ha;cases ha)
  ·exact eqFs_all fs b' hb g hg
theorem eqT_ok {P:Program} {c:Cx} (w:World):∀ (f:Nat) (T:TypeId) (xs ys:List PV) (b:Bool),eqT P f T xs ys=some b→∀ d,f≤d→∀ vx vy,VR P c T xs vx→VR P c T ys vy→(Op.equalIn d T vx vy).run P w = .ok b w
 | 0,_,_,_,_,h,_,_,_,_,_,_=>by simp [eqT] at h
 | f+1,T,xs,ys,b,h,d+1,hd,vx,vy,hx,hy=>by
  simp only [eqT] at h
  split at h
  ·rename_i k hu
   split at h
   case h_2=>cases h
   rename_i k1 a k2 b2
   have e1:=zH (hx.2 (by rw [hu];rfl) _ rfl)
   have e2:=zH (hy.2 (by rw [hu];rfl) _ rfl)
   subst e1;subst e2
   split at h
   case isFalse=>cases h
   rename_i hk
   subst hk
   simp only [Option.some.injEq] at h
   rw [run_equalIn_int w d T k1 k a b2 hu,← h]
   rfl
  ·rename_i hu
   split at h
   case h_2=>cases h
   have e1:=zH (hx.2 (by rw [hu];rfl) _ rfl)
   have e2:=zH (hy.2 (by rw [hu];rfl) _ rfl)
   subst e1;subst e2
   simp only [Option.some.injEq] at h
   rw [run_equalIn_bool' w d T _ _ hu,h]
  ·rename_i hu
   split at h
   case h_2=>cases h
   have e1:=zH (hx.2 (by rw [hu];rfl) _ rfl)
   have e2:=zH (hy.2 (by rw [hu];rfl) _ rfl)
   subst e1;subst e2
   simp only [Option.some.injEq] at h
   rw [run_equalIn_string w d T _ _ hu,h]
  ·rename_i fs hu
   split at h
   case h_2=>cases h
   rename_i hst
   obtain ⟨ax,rfl,rx⟩:=hx.1 (by rw [hu];rfl)
   obtain ⟨ay,rfl,ry⟩:=hy.1 (by rw [hu];rfl)
   have hf:P.fieldsOf T=fs:=by simp [Program.fieldsOf,hu]
   rw [run_equalIn_struct w d T ax ay (by rw [hf];exact hu) hst,hf]
   exact eqFs_ok w (fun T xs ys b h vx vy q1 q2=>eqT_ok w f T xs ys b h d (by omega) vx vy q1 q2) rx ry fs.toList b h (eqFs_all fs.toList b h)
  ·cases h
def aEqS (P:Program) (ng:Bool) (T:TypeId) (x y:Operand):Plan:=opd x fun p=>opd y fun q=>match p,q,P.eqGuardType P.depth T,P.underlying T with
 | .agg xs,.agg ys,false,some (.struct _)=>match eqT P 20 T xs ys with | some b=>bit (match ng with | true=>!b | false=>b) | none=>.fail
 | _,_,_,_=>.fail
theorem aEqS_ok {E:Env} {o:Oper} {id:Nat} {ng:Bool} {T U:TypeId} {x y:Operand} (ho:o.op = .binOp (match ng with|true=>.neq|false=>.eql) T x y U) (hd:∀ x,o.dst=some x→x<E.n):yy E o id (aEqS E.P ng T x y):=by
 intro g p wb h nx c a K Q hn hI hK
 obtain ⟨q1,hq1,h1⟩:=Res.opd hI h
 obtain ⟨q2,hq2,h2⟩:=Res.opd hI h1
 clear h h1
 split at h2
 case h_2=>exact (Res.fail h2).elim
 rename_i xs ys fs hgt hu
 split at h2
 case h_2=>exact (Res.fail h2).elim
 rename_i b hb
 obtain ⟨rfl,rfl⟩:=Res.done h2
 obtain ⟨vx,e1,h3,h4⟩:=ZJ hq1
 obtain ⟨vy,e2,h5,h6⟩:=ZJ hq2
 have hr:=eqT_ok c.w 20 T xs ys b hb 10000 (by omega) (.agg vx) (.agg vy) ⟨fun _=>⟨vx,rfl,h3,h4⟩,fun e=>by rw [hu] at e;cases e⟩ ⟨fun _=>⟨vy,rfl,h5,h6⟩,fun e=>by rw [hu] at e;cases e⟩
 refine qx hd hI hK (.sh (.av _)) ?_
 cases ng with
 | true=>simp [execOp,ho,e1,e2,run_eqGuard_agg c.w .neq T x y vx vy hgt,run_neq_struct,hr]
 | false=>simp [execOp,ho,e1,e2,run_eqGuard_agg c.w .eql T x y vx vy hgt,run_eql_struct,hr]
def srcN (_P:Program) (e:TypeId) (sz nd n:Nat) (l:List PV) (u:Option TypeDesc) (q:PV) (k:Plan):Plan:=match u,q with
 | some (.slice _),.ssl cs off ns=>.ob (Nat.min ns nd=n∧off+n*sz≤cs.length∧(cs.drop off).take (n*sz)=l) k
 | some (.slice _),.osl id off ns=>.look (kb id) fun v=>match v with
  | .blk T' cs=>match Nat.beq T' e with | true=>.ob (Nat.min ns nd=n∧off+n*sz≤cs.length∧(cs.drop off).take (n*sz)=l) k | false=>.fail
  | .pv _=>.fail
 | _,_=>.fail
theorem srcN_ok {E:Env} {nx:Nat→Prop} {c:Cx} {g:St} {a:Act} (hI:Inv E nx c g a) {e tx:TypeId} {sz nd n:Nat} {l:List PV} {q:PV} {v:Value} {k:Plan} {p:PV} {wb:L} (hq:Rep E.P c q v)
  (h:Res g (srcN E.P e sz nd n l (E.P.underlying tx) q k) p wb):Res g k p wb∧l.length=n*sz∧wM l∧∃ ns news,(∀ w,(Builtin.lenOf v).run E.P w = .ok ns w)∧Nat.min ns nd=n∧RL E.P c l (List.toArray news)∧(Builtin.firstCells sz n v).run E.P c.w = .ok news.toArray c.w:=by
 have mem:∀ {cs:List PV} {off:Nat} {b a':Nat} {vf:Nat→Value} {cap ns:Nat},off+n*sz≤cs.length→(cs.drop off).take (n*sz)=l→wM cs→Nat.min ns nd=n →
   (∀ j,j<cs.length→c.w.cell? ⟨b,a'+j,none⟩=some (vf j))→(∀ j,j<cs.length→Rep E.P c (cs.getD j P0) (vf j))→v = .slice (some ⟨b,a'+off,none⟩) ns cap →
   l.length=n*sz∧wM l∧∃ ns news,(∀ w,(Builtin.lenOf v).run E.P w = .ok ns w)∧Nat.min ns nd=n∧RL E.P c l (List.toArray news)∧(Builtin.firstCells sz n v).run E.P c.w = .ok news.toArray c.w:=by
  intro cs off b a' vf cap ns h1 h2 h3 hm h4 h5 hv
  obtain ⟨h6,h7⟩:=ZC h1 h2
  have hrl:RL E.P c l ((List.range (n*sz)).map fun j=>vf (off+j)).toArray:=by
   refine ⟨by simp [h6],fun i hi=>?_⟩
   rw [h6] at hi
   rw [h7 i hi]
   have e1:(((List.range (n*sz)).map fun j=>vf (off+j)).toArray).getD i undef=vf (off+i):=by simp [Array.getD_eq_getD_getElem?,hi]
   rw [e1]
   exact h5 (off+i) (by omega)
  subst hv
  refine ⟨h6,seg_ones h3 h2,ns,_,fun _=>rfl,hm,hrl,?_⟩
  refine run_firstCells_some c.w sz n _ _ _ _ (by simp) fun j u hj=>?_
  have hj':j<n*sz:=by
   have:=(List.getElem?_eq_some_iff.1 hj).1
   simpa using this
  have hju:u=vf (off+j):=by simpa [hj'] using hj.symm
  rw [wL,hju,Nat.add_assoc]
  exact h4 _ (by omega)
 have emp:∀ {cs:List PV} {off:Nat} {ad:Option Addr} {cap ns:Nat},(cs.drop off).take (n*sz)=l→Nat.min ns nd=n→ns=0→v = .slice ad 0 cap →
   l.length=n*sz∧wM l∧∃ ns news,(∀ w,(Builtin.lenOf v).run E.P w = .ok ns w)∧Nat.min ns nd=n∧RL E.P c l (List.toArray news)∧(Builtin.firstCells sz n v).run E.P c.w = .ok news.toArray c.w:=by
  intro cs off ad cap ns h1 hm h2 hv
  subst h2
  have hn:n=0:=by rw [← hm];exact Nat.zero_min nd
  subst hn
  rw [Nat.zero_mul,List.take_zero] at h1
  subst h1;subst hv
  refine ⟨by simp,fun p hp=>(by cases hp),0,[],fun _=>rfl,hm,⟨rfl,fun i hi=>by simp at hi⟩,?_⟩
  cases ad with
  | none=>exact run_firstCells_none c.w sz 0 0 cap
  | some ad=>simp [Builtin.firstCells,loadCells,loadCellsFrom]
 unfold srcN at h
 split at h
 ·rename_i e' cs off ns hu
  obtain ⟨⟨h1,h2,h3⟩,h4⟩:=Res.ob h
  refine ⟨h4,?_⟩
  rcases YB hq with ⟨ad,cap,hv,hn⟩|⟨b,a',cap,vf,hv,hS,hc,hr,hone,hl⟩
  ·exact emp h3 h1 hn hv
  ·exact mem h2 h3 hone h1 hc (fun j hj=>.sh (hr j hj)) hv
 ·rename_i e' id off ns hu
  obtain ⟨bv,hg,h5⟩:=Res.look h
  cases bv with
  | pv _=>exact (Res.fail h5).elim
  | blk T' cs =>
   simp only at h5
   split at h5
   case h_2=>exact (Res.fail h5).elim
   obtain ⟨⟨h1,h2,h3⟩,h4⟩:=Res.ob h5
   refine ⟨h4,?_⟩
   obtain ⟨ob,T2,hown,hv⟩:=jy hq
   obtain ⟨ob',hown',hone,hb⟩:=hI.blk id T' cs hg
   rw [hown] at hown'
   cases hown'
   rcases hv with ⟨ad,hv,hn⟩|⟨b,cap,cs2,hob,hv,⟨z4,hb2⟩,hl,hsz2⟩
   ·exact emp h3 h1 hn hv
   ·rcases hb with ⟨hb,_⟩|⟨b',vs,hb1,hb3,hb4,hb5⟩
    ·rw [hob] at hb;cases hb
    ·obtain rfl:b'=b:=by rw [hob] at hb1;simpa using hb1.symm
     exact mem (a':=0) (vf:=fun j=>vs.getD j undef) (cap:=cap) h2 h3 hone h1 (fun j hj=>by
      have:j<vs.size:=by omega
      rw [cell_of_row c.w _ _ vs _ _ hb3]
      simp [Array.getD_eq_getD_getElem?,this]) hb5 (by rw [hv,Nat.zero_add])
 ·exact (Res.fail h).elim
def aCopy (P:Program) (T:TypeId) (u:Option TypeDesc) (x y:Operand) (an:Ans):Plan:=opd x fun p=>opd y fun q=>match P.underlying T,p,an with
 | some (.slice e),.osl id1 off nd,.copy n l r=>match P.info? e with
  | some ie=>.look (kb id1) fun v=>match v with
   | .blk B cells=>match Nat.beq B e with
    | true=>srcN P e ie.size nd n l u q (.ob (off+l.length≤cells.length∧vI cells off l=r) (.done (.av (.int .i64 n)) [(kb id1,some (.blk B r))]))
    | false=>.fail
   | .pv _=>.fail
  | none=>.fail
 | _,_,_=>.fail
theorem aCopy_ok {E:Env} {o:Oper} {id:Nat} {T U:TypeId} {x y:Operand} {an:Ans} (ho:o.op = .call { callee:=.builtin .copy,args := #[x,y],argTypes := #[T,U] }) (hd:∀ x,o.dst=some x→x<E.n):yy E o id (aCopy E.P T (E.P.underlying U) x y an):=by
 intro g p wb h nx c a K Q hn hI hK
 obtain ⟨q1,hq1,h1⟩:=Res.opd hI h
 obtain ⟨q2,hq2,h2⟩:=Res.opd hI h1
 clear h h1
 split at h2
 case h_2=>exact (Res.fail h2).elim
 rename_i e id1 off nd n l r hu
 split at h2
 case h_2=>exact (Res.fail h2).elim
 rename_i ie hie
 obtain ⟨bv,hg,h3⟩:=Res.look h2
 cases bv with
 | pv _=>exact (Res.fail h3).elim
 | blk B cells =>
  simp only at h3
  split at h3
  case h_2=>exact (Res.fail h3).elim
  rename_i hB
  have hB:=Nat.eq_of_beq_eq_true hB
  subst hB
  obtain ⟨h4,hll,hone,ns,news,hlen,hmin,hrl,hfc⟩:=srcN_ok hI hq2 h3
  obtain ⟨⟨h5,rfl⟩,h6⟩:=Res.ob h4
  obtain ⟨rfl,rfl⟩:=Res.done h6
  have hex:∀ {base:Option Addr} {cap:Nat} {w':World},a.eval x = .slice base nd cap→((match base with|some ad=>storeCells ad news|none=>pure ()):Sem Unit).run E.P c.w = .ok () w'→(execOp a.eval o).run E.P c.w = .ok (.value (.int .i64 n)) w':=by
   intro base cap w' hx hst
   have hr:(Builtin.copy_ #[T,U] o.type #[a.eval x,a.eval y]).run E.P c.w = .ok (goInt n) w':=by
    cases base with
    | none =>
     simp only [Sem.run_pure,Result.ok.injEq,true_and] at hst
     subst hst
     have hm2:min ns nd=n:=hmin
     simp [Builtin.copy_,hx,run_underlying hu,hlen,hm2,vQ hie,hfc]
    | some ad=>simp [Builtin.copy_,hx,run_underlying hu,hlen,hmin,vQ hie,hfc,hst]
   simp [execOp,ho,resolve,invoke,builtin,hr,goInt]
  obtain ⟨ob,T2,hown,hv⟩:=jy hq1
  obtain ⟨ob',hown',_⟩:=hI.blk id1 B cells hg
  rw [hown] at hown'
  cases hown'
  rcases hv with ⟨ad,hv,hnd⟩|⟨b,cap,cs,hob,hv,hb,hl,hsz⟩
  ·subst hnd
   have hn0:n=0:=by rw [← hmin];exact Nat.min_zero ns
   subst hn0
   have hl0:l=[]:=List.eq_nil_of_length_eq_zero (by simpa using hll)
   subst hl0
   have hnews:news=[]:=List.eq_nil_of_length_eq_zero (by simpa using hrl.1)
   subst hnews
   have hsp:vI cells off []=cells:=by simp [vI]
   have hgg:over [(kb id1,some (.blk B (vI cells off [])))] g=g:=by
    funext k
    rw [hsp]
    simp only [over,lk]
    by_cases hk:Nat.beq k (kb id1)=true
    ·rw [if_pos hk,Nat.eq_of_beq_eq_true hk,hg]
    ·rw [if_neg hk]
   rw [hgg] at hK
   refine YD (hex hv (w':=c.w) (by cases ad <;> simp [storeCells])) (hK c _ (hI.pure (fun _ h=>.inl h) o.dst hd fun _=>.sh (.av _)))
  ·subst hob
   obtain ⟨cur,hc1,hc2,hKK⟩:=qae (id:=id) (vs:=news) (v:=.int .i64 n) hd hI hg hown hone h5 hrl hK fun _=>.sh (.av _)
   have hst:=run_storeCells_at E.P b off B news 0 cur c.w hc1 (by simpa using hc2) (hrl.oneCell hone)
   simp only [Nat.add_zero] at hst
   exact YD (hex hv hst) hKK
mutual
def ren (σ:Nat→Nat):PV→PV
 | .agg cs=>.agg (qN σ cs)
 | .tup cs=>.tup (qN σ cs)
 | .osl id off len=>.osl (σ id) off len
 | .opt id off=>.opt (σ id) off
 | .opn id off=>.opn (σ id) off
 | .fn f cs ds=>.fn f (qN σ cs) (qN σ ds)
 | .av v=>.av v
 | .ssl cs off len=>.ssl cs off len
 | .spt cs off=>.spt cs off
 | .err=>.err
def qN (σ:Nat→Nat):List PV→List PV
 | []=>[]
 | p :: l=>ren σ p :: qN σ l
end
theorem zA (σ:Nat→Nat):∀ l,(qN σ l).length=l.length
 | []=>rfl
 | _ :: l=>by simp [qN,zA σ l]
theorem yk (σ:Nat→Nat):∀ (l:List PV) (i:Nat),i<l.length→(qN σ l).getD i P0=ren σ (l.getD i P0)
 | p :: l,0,_=>rfl
 | p :: l,i+1,h=>by
  have:=yk σ l i (by simpa using h)
  simpa [qN,List.getD_eq_getElem?_getD] using this
theorem one_ren (σ:Nat→Nat) (p:PV):(ren σ p).one=p.one:=by cases p <;> rfl
theorem ones_renL {σ:Nat→Nat}:∀ {l:List PV},wM (qN σ l)↔wM l
 | []=>by simp [qN]
 | p :: l=>by
  have ih:=ones_renL (σ:=σ) (l:=l)
  simp only [wM,qN,List.mem_cons,forall_eq_or_imp,one_ren] at ih ⊢
  rw [ih]
theorem srep_ren {w:World} {S:Nat→Prop} {σ:Nat→Nat} {q:PV} {v:Value} (h:SRep w S q v):∀ p,q=ren σ p→SRep w S p v:=by
 induction h with
 | av v=>intro p hp;cases p <;> simp [ren] at hp;subst hp;exact .av _
 | agg hn _ ih =>
  intro p hp
  cases p <;> simp [ren] at hp
  rename_i ds
  subst hp
  rw [zA] at hn
  exact .agg hn fun i hi=>ih i (by rw [zA];exact hi) _ (yk σ ds i hi)
 | tup hn _ ih =>
  intro p hp
  cases p <;> simp [ren] at hp
  rename_i ds
  subst hp
  rw [zA] at hn
  exact .tup hn fun i hi=>ih i (by rw [zA];exact hi) _ (yk σ ds i hi)
 | emp=>intro p hp;cases p <;> simp [ren] at hp;obtain ⟨rfl,rfl,rfl⟩:=hp;exact .emp
 | ssl hS hc h ho hl _=>intro p hp;cases p <;> simp [ren] at hp;obtain ⟨rfl,rfl,rfl⟩:=hp;exact .ssl hS hc h ho hl
 | spt hS hc h ho _=>intro p hp;cases p <;> simp [ren] at hp;obtain ⟨rfl,rfl⟩:=hp;exact .spt hS hc h ho
 | fn hn _ hm _ ih ik =>
  intro p hp
  cases p <;> simp [ren] at hp
  obtain ⟨rfl,rfl,rfl⟩:=hp
  rw [zA] at hn hm
  exact .fn hn (fun i hi=>ih i (by rw [zA];exact hi) _ (yk σ _ i hi)) hm (fun i hi=>ik i (by rw [zA];exact hi) _ (yk σ _ i hi))
 | err t v=>intro p hp;cases p <;> simp [ren] at hp;exact .err t v
def Cx.via (c:Cx) (σ:Nat→Nat):Cx:=⟨c.w,c.S,fun i=>c.own (σ i)⟩
theorem WH {P:Program} {c:Cx} {σ:Nat→Nat} {q:PV} {v:Value} (h:Rep P c q v):∀ p,q=ren σ p→Rep P (c.via σ) p v:=by
 induction h with
 | sh h=>intro p hp;exact .sh (srep_ren h p hp)
 | agg hn _ ih =>
  intro p hp
  cases p <;> simp [ren] at hp
  rename_i ds
  subst hp
  rw [zA] at hn
  exact .agg hn fun i hi=>ih i (by rw [zA];exact hi) _ (yk σ ds i hi)
 | tup hn _ ih =>
  intro p hp
  cases p <;> simp [ren] at hp
  rename_i ds
  subst hp
  rw [zA] at hn
  exact .tup hn fun i hi=>ih i (by rw [zA];exact hi) _ (yk σ ds i hi)
 | osl ho h=>intro p hp;cases p <;> simp [ren] at hp;obtain ⟨rfl,rfl,rfl⟩:=hp;exact .osl (c:=c.via σ) ho h
 | opt ho=>intro p hp;cases p <;> simp [ren] at hp;obtain ⟨rfl,rfl⟩:=hp;exact .opt (c:=c.via σ) ho
 | opn h=>intro p hp;cases p <;> simp [ren] at hp;obtain ⟨rfl,rfl⟩:=hp;exact .opn (c:=c.via σ) h
 | fn hn _ hm _ ih ik =>
  intro p hp
  cases p <;> simp [ren] at hp
  obtain ⟨rfl,rfl,rfl⟩:=hp
  rw [zA] at hn hm
  exact .fn hn (fun i hi=>ih i (by rw [zA];exact hi) _ (yk σ _ i hi)) hm (fun i hi=>ik i (by rw [zA];exact hi) _ (yk σ _ i hi))
theorem srep_to {w:World} {S:Nat→Prop} {σ:Nat→Nat} {p:PV} {v:Value} (h:SRep w S p v):SRep w S (ren σ p) v:=by
 induction h with
 | av v=>exact .av _
 | agg hn _ ih=>exact .agg (by rw [zA];exact hn) fun i hi=>by rw [zA] at hi;rw [yk σ _ i hi];exact ih i hi
 | tup hn _ ih=>exact .tup (by rw [zA];exact hn) fun i hi=>by rw [zA] at hi;rw [yk σ _ i hi];exact ih i hi
 | emp=>exact .emp
 | ssl hS hc h ho hl _=>exact .ssl hS hc h ho hl
 | spt hS hc h ho _=>exact .spt hS hc h ho
 | fn hn _ hm _ ih ik=>exact .fn (by rw [zA];exact hn) (fun i hi=>by rw [zA] at hi;rw [yk σ _ i hi];exact ih i hi) (by rw [zA];exact hm) (fun i hi=>by rw [zA] at hi;rw [yk σ _ i hi];exact ik i hi)
 | err t v=>exact .err t v
theorem rep_to {P:Program} {c c':Cx} {σ:Nat→Nat} (hw:c'.w=c.w) (hS:c'.S=c.S) (ho:∀ i x,c.own i=some x→c'.own (σ i)=some x) {p:PV} {v:Value} (h:Rep P c p v):Rep P c' (ren σ p) v:=by
 induction h with
 | sh h=>exact .sh (by rw [hw,hS];exact srep_to h)
 | agg hn _ ih=>exact .agg (by rw [zA];exact hn) fun i hi=>by rw [zA] at hi;rw [yk σ _ i hi];exact ih i hi
 | tup hn _ ih=>exact .tup (by rw [zA];exact hn) fun i hi=>by rw [zA] at hi;rw [yk σ _ i hi];exact ih i hi
 | osl h1 h2=>exact .osl (ho _ _ h1) (by rw [hw];exact h2)
 | opt h1=>exact .opt (ho _ _ h1)
 | opn h=>exact .opn (h.imp id fun ⟨b,T,h1,h2⟩=>⟨b,T,ho _ _ h1,h2⟩)
 | fn hn _ hm _ ih ik=>exact .fn (by rw [zA];exact hn) (fun i hi=>by rw [zA] at hi;rw [yk σ _ i hi];exact ih i hi) (by rw [zA];exact hm) (fun i hi=>by rw [zA] at hi;rw [yk σ _ i hi];exact ik i hi)

def cz1:PV→PV
 | .av (.slice none 0 0)=>.ssl [] 0 0
 | p=>p
def cz:PV→PV
 | .agg cs=>.agg (cs.map cz1)
 | p=>cz1 p
theorem rep_cz1 {P:Program} {c:Cx} {p:PV} {v:Value} (h:Rep P c p v):Rep P c (cz1 p) v:=by
 unfold cz1
 split
 ·rw [zH h];exact .sh .emp
 ·exact h
theorem rep_cz {P:Program} {c:Cx} {p:PV} {v:Value} (h:Rep P c p v):Rep P c (cz p) v:=by
 unfold cz
 split
 ·rename_i cs
  obtain ⟨vs,rfl,h1,h2⟩:=ZJ h
  refine .agg (by simpa using h1) fun i hi=>?_
  have hi':i<cs.length:=by simpa using hi
  have h3:=rep_cz1 (h2 i hi')
  simpa [List.getD_eq_getElem?_getD,hi'] using h3
 ·exact rep_cz1 h

/-! ### contracts -/
abbrev Hp:=List (Option (TypeId × List PV))
def WZ (H:Hp):St:=fun k=>if k % 2=1 then (match H.getD (k / 2) none with|some x=>some (.blk x.1 x.2)|none=>none) else none
theorem ZB (H:Hp) (i:Nat):WZ H (kb i)=match H.getD i none with|some x=>some (.blk x.1 x.2)|none=>none:=by
 unfold WZ
 rw [if_pos (by simp only [kb];omega),show kb i / 2=i by simp only [kb];omega]
def FnOk (P : Program) (f : FuncId) : Prop := ∃ fn, P.funcs[f]? = some fn ∧ fn.body.isNone = false ∧ (fn.name == "runtime.NumGoroutine") = false
def ZI (P:Program) (c:Cx) (H:Hp):Env:=⟨P,0,c,⟨fun b=>∃ i T,vC (WZ H) i∧c.own i=some (some b,T),[]⟩⟩
def PC (P:Program) (f:FuncId) (args:List PV) (H:Hp) (r:PV) (H':Hp):Prop:=FnOk P f∧H.length≤H'.length∧∀ (c:Cx) (vs:Array Value),Heap (ZI P c H) (· < H.length) c (WZ H)→RL P c args vs →
 Calls P f vs c.w fun e w'=>∃ v c',e = .returned v∧c'.w=w'∧Heap (ZI P c H) (· < H'.length) c' (WZ H')∧Rep P c' r v

def qft (σ:Nat→Nat):List Nat→Hp→Plan→Plan
 | [],[],k=>k
 | id :: ids,some (T,cs) :: H,k=>.look (kb id) fun v=>match v with
  | .blk T' cs'=>match Nat.beq T' T with | true=>.ob (cs'=qN σ cs) (qft σ ids H k) | false=>.fail
  | .pv _=>.fail
 | _,_,_=>.fail
def QU (σ:Nat→Nat):Nat→Hp→L
 | _,[]=>[]
 | i,x :: r=>(kb (σ i),match x with | some y=>some (.blk y.1 (qN σ y.2)) | none=>none) :: QU σ (i+1) r
def qZ (ids:List Nat) (id:Nat):Nat→Nat:=fun i=>ids.getD i id
def yI (ids:List Nat) (id:Nat):Nat→Nat:=fun i=>if Nat.blt i ids.length then ids.getD i id else id+(i-ids.length)
def vS:List Nat→Bool
 | []=>true
 | a :: l=>(l.all fun b=>!Nat.beq a b) && vS l
def qgf (P:Program) (f:FuncId) (args:List PV) (id:Nat) (ids:List Nat) (bs:List PV) (H:Hp) (r:PV) (H':Hp):Plan :=
 match Nat.ble H'.length (ids.length+8),vS ids with
 | true,true=>.ob (PC P f bs H r H') (.ob (args=qN (qZ ids id) bs) (qft (qZ ids id) ids H (.done (ren (yI ids id) r) (QU (yI ids id) 0 H'))))
 | _,_=>.fail
def opdl:List Operand→(List PV→Plan)→Plan
 | [],k=>k []
 | x :: l,k=>opd x fun p=>opdl l fun r=>k (p :: r)
theorem Res.opdl {E:Env} {nx:Nat→Prop} {c:Cx} {g:St} {a:Act} (hi:Inv E nx c g a):∀ {l:List Operand} {k:List PV→Plan} {p:PV} {wb:L},Res g (opdl l k) p wb →
  ∃ ps,RL E.P c ps (l.map a.eval).toArray∧Res g (k ps) p wb
 | [],k,p,wb,h=>⟨[],⟨rfl,fun i hi=>by simp at hi⟩,h⟩
 | x :: l,k,p,wb,h=>by
  obtain ⟨q,hq,h1⟩:=Res.opd hi h
  obtain ⟨ps,h2,h3⟩:=Res.opdl hi h1
  refine ⟨q :: ps,?_,h3⟩
  have:=(QO hq).append h2
  simpa using this
def aCall (P:Program) (fx:Operand) (xs:List Operand) (an:Ans) (id:Nat):Plan:=opd fx fun fv=>opdl xs fun args=>match fv,an with
 | .av (.func (.func f) fs cs),.call ids bs H r H'=>qgf P f (fs.toList.map .av++args.map cz++cs.toList.map .av) id ids bs H r H'
 | .fn (.func f) fs cs,.call ids bs H r H'=>qgf P f (fs++args.map cz++cs) id ids bs H r H'
 | _,_=>.fail
theorem qdu {g:St} {σ:Nat→Nat} {k:Plan} {p:PV} {wb:L}:∀ {ids:List Nat} {H:Hp},Res g (qft σ ids H k) p wb→ids.length=H.length∧Res g k p wb ∧
  ∀ i,i<ids.length→∃ T cs,H.getD i none=some (T,cs)∧g (kb (ids.getD i 0))=some (.blk T (qN σ cs))
 | [],[],h=>⟨rfl,h,fun i hi=>by simp at hi⟩
 | id :: ids,some (T,cs) :: H,h=>by
  obtain ⟨v,h1,h2⟩:=Res.look h
  cases v with
  | pv _=>exact (Res.fail h2).elim
  | blk T' cs' =>
   simp only at h2
   split at h2
   ·rename_i hT
    have hT:=Nat.eq_of_beq_eq_true hT
    subst hT
    obtain ⟨rfl,h3⟩:=Res.ob h2
    obtain ⟨h4,h5,h6⟩:=qdu h3
    refine ⟨by simp [h4],h5,fun i hi=>?_⟩
    cases i with
    | zero=>exact ⟨_,_,rfl,h1⟩
    | succ i =>
     obtain ⟨T2,cs2,h7,h8⟩:=h6 i (by simpa using hi)
     exact ⟨T2,cs2,by simpa using h7,by simpa using h8⟩
   ·exact (Res.fail h2).elim
 | [],_ :: _,h=>(Res.fail h).elim
 | _ :: _,[],h=>(Res.fail h).elim
 | _ :: _,none :: _,h=>(Res.fail h).elim
theorem WL:∀ {ids:List Nat},vS ids=true→∀ i j,i<ids.length→j<ids.length→ids.getD i 0=ids.getD j 0→i=j
 | a :: l,h,i,j,hi,hj,he=>by
  simp only [vS,Bool.and_eq_true,List.all_eq_true,Bool.not_eq_true'] at h
  have hm:∀ k,k<l.length→a≠l.getD k 0:=fun k hk e=>by
   have:=h.1 (l.getD k 0) (by simp [List.getD_eq_getElem?_getD,hk])
   rw [← e,Nat.beq_refl] at this
   cases this
  cases i with
  | zero =>
   cases j with
   | zero=>rfl
   | succ j=>exact absurd (by simpa using he) (hm j (by simpa using hj))
  | succ i =>
   cases j with
   | zero=>exact absurd (by simpa using he.symm) (hm i (by simpa using hi))
   | succ j=>rw [WL h.2 i j (by simpa using hi) (by simpa using hj) (by simpa using he)]
theorem lk_wcall {σ:Nat→Nat}:∀ {H:Hp} {n:Nat} (k:Nat),(∀ i j,i<n+H.length→j<n+H.length→σ i=σ j→i=j) →
  (lk k (QU σ n H)=none∧∀ i,n≤i→i<n+H.length→k≠kb (σ i))∨∃ i,n≤i∧i<n+H.length∧k=kb (σ i)∧lk k (QU σ n H)=some (match H.getD (i-n) none with|some y=>some (.blk y.1 (qN σ y.2))|none=>none)
 | [],n,k,_=>.inl ⟨rfl,fun i h1 h2=>by simp at h2;omega⟩
 | x :: H,n,k,hi=>by
  simp only [QU,lk]
  by_cases e:Nat.beq k (kb (σ n))=true
  ·refine .inr ⟨n,Nat.le_refl _,by simp,Nat.eq_of_beq_eq_true e,?_⟩
   rw [if_pos e,Nat.sub_self]
   simp
  ·simp only [e]
   have hne:k≠kb (σ n):=fun h=>e (by rw [h];exact Nat.beq_refl _)
   rcases lk_wcall (σ:=σ) (H:=H) (n:=n+1) k (fun i j h1 h2=>hi i j (by simp;omega) (by simp;omega)) with ⟨h1,h2⟩|⟨i,h1,h2,h3,h4⟩
   ·refine .inl ⟨h1,fun i h3 h4=>?_⟩
    by_cases e2:i=n
    ·subst e2;exact hne
    ·exact h2 i (by omega) (by simp at h4;omega)
   ·refine .inr ⟨i,by omega,by simp;omega,h3,?_⟩
    have e3:i-n=(i-(n+1))+1:=by omega
    rw [e3]
    simpa using h4
theorem qfs {σ:Nat→Nat} (s:Nat):∀ {H:Hp} {n:Nat},lk (ks s) (QU σ n H)=none
 | [],_=>rfl
 | x :: H,n=>by
  simp only [QU,lk,jU]
  exact qfs s
theorem hSt_live {H:Hp} {i:Nat} (h:vC (WZ H) i):∃ x,H.getD i none=some x∧i<H.length:=by
 obtain ⟨T,cs,h⟩:=h
 rw [ZB] at h
 cases hx:H.getD i none with
 | none=>rw [hx] at h;cases h
 | some x =>
  refine ⟨x,rfl,?_⟩
  rcases Nat.lt_or_ge i H.length with h1|h1
  ·exact h1
  ·rw [List.getD_eq_getElem?_getD,List.getElem?_eq_none h1] at hx;cases hx
def callEnd (o:Oper) (a:Act) (K:Act→World→Prop) (Q:Exit→Act→World→Prop):Ending→World→Prop
 | .returned v,w=>K (a.put o.dst v) w
 | .panicked ch,w=>Q (.panic ch) a w
 | .outgrown,_=>LetsOut Q
theorem lend_heap {E:Env} {nx:Nat→Prop} {c:Cx} {g:St} {id:Nat} {ids:List Nat} {H:Hp} (hn:∀ t,t<8→¬ nx (id+t)) (hI:Heap E nx c g) (hb2:vS ids=true) (hlen:ids.length=H.length)
  (hlent:∀ i,i<ids.length→∃ T cs,H.getD i none=some (T,cs)∧g (kb (ids.getD i 0))=some (.blk T (qN (qZ ids id) cs))) :
  Heap (ZI E.P (c.via (qZ ids id)) H) (· < H.length) (c.via (qZ ids id)) (WZ H):=by
 have hfresh:∀ j x,c.own j=some x→¬ (id≤j∧j<id+8):=fun j x hx ⟨h1,h2⟩=>hn (j-id) (by omega) (by rw [show id+(j-id)=j by omega];exact hI.ids j x hx)
 have hid:c.own id=none:=by
  cases ho:c.own id with
  | none=>rfl
  | some x=>exact absurd ⟨Nat.le_refl _,by omega⟩ (hfresh id x ho)
 have hsi:∀ i,i<ids.length→qZ ids id i=ids.getD i 0:=fun i hi=>by simp [qZ,List.getD_eq_getElem?_getD,hi]
 have hsi2:∀ i,ids.length≤i→qZ ids id i=id:=fun i hi=>by simp [qZ,List.getD_eq_getElem?_getD,hi]
 -- what is lent is live here
 have hlv:∀ i,vC (WZ H) i→i<ids.length∧vC g (ids.getD i 0):=fun i hi=>by
  obtain ⟨x,h1,h2⟩:=hSt_live hi
  have h3:i<ids.length:=by omega
  obtain ⟨T,cs,_,h5⟩:=hlent i h3
  exact ⟨h3,T,_,h5⟩
 refine { ids:=fun i x hx=>?_,blk:=fun i T cs hx=>?_,inj:=fun i j b T T' h1 h2 h3 h4=>?_,apart:=fun i b T h1 h2=>?_,bnd:=fun i b T h1=>?_,sok:=hI.sok,os:=rfl,tape:=rfl,output:=rfl,size:=Nat.le_refl _,
          same:=fun _ _ _=>rfl,laid:=hI.laid.mono (c:=E.c0) (c':=c.via (qZ ids id)) hI.keep.S,s0:=fun _ h=>h,s1:=fun _ h=>.inl h,keep:=Keep.refl _ }
 ·rcases Nat.lt_or_ge i ids.length with h1|h1
  ·show i<H.length;omega
  ·have:c.own (qZ ids id i)=some x:=hx
   rw [hsi2 i h1,hid] at this
   cases this
 ·have hl:vC (WZ H) i:=⟨T,cs,hx⟩
  obtain ⟨h1,_⟩:=hlv i hl
  obtain ⟨T',cs',h3,h4⟩:=hlent i h1
  rw [ZB,h3] at hx
  simp only [Option.some.injEq,Val.blk.injEq] at hx
  obtain ⟨rfl,rfl⟩:=hx
  obtain ⟨ob,h5,h6,h7⟩:=hI.blk _ _ _ h4
  refine ⟨ob,by show c.own (qZ ids id i)=_;rw [hsi i h1];exact h5,ones_renL.1 h6,?_⟩
  rcases h7 with ⟨h7,h8⟩|⟨b,arr,h7,h8,h9,h10⟩
  ·refine .inl ⟨h7,?_⟩
   have:=congrArg List.length h8
   rw [zA] at this
   exact List.eq_nil_of_length_eq_zero this
  ·rw [zA] at h9 h10
   exact .inr ⟨b,arr,h7,h8,h9,fun j hj=>WH (h10 j hj) _ (yk _ _ j hj)⟩
 ·obtain ⟨e1,l1⟩:=hlv i h1
  obtain ⟨e2,l2⟩:=hlv j h2
  have h3':c.own (qZ ids id i)=_:=h3
  have h4':c.own (qZ ids id j)=_:=h4
  rw [hsi i e1] at h3'
  rw [hsi j e2] at h4'
  exact WL hb2 i j e1 e2 (hI.inj _ _ b T T' l1 l2 h3' h4')
 ·obtain ⟨e1,l1⟩:=hlv i h1
  have h2':c.own (qZ ids id i)=_:=h2
  rw [hsi i e1] at h2'
  exact ⟨(hI.apart _ b T l1 h2').1,.inl ⟨i,T,h1,h2⟩⟩
 ·exact hI.bnd _ b T h1
theorem back_heap {E:Env} {nx:Nat→Prop} {c:Cx} {g:St} {id:Nat} {ids:List Nat} {H H':Hp} (hb1:H'.length≤ids.length+8) (hHl:H.length≤H'.length) (hn:∀ t,t<8→¬ nx (id+t)) (hI:Heap E nx c g) (hb2:vS ids=true) (hlen:ids.length=H.length)
  (hlent:∀ i,i<ids.length→∃ T cs,H.getD i none=some (T,cs)∧g (kb (ids.getD i 0))=some (.blk T (qN (qZ ids id) cs)))
  {c':Cx} (hh:Heap (ZI E.P (c.via (qZ ids id)) H) (· < H'.length) c' (WZ H')) :
  ∃ own2,Keep c ⟨c'.w,c'.S,own2⟩∧(∀ i x,c'.own i=some x→own2 (yI ids id i)=some x)∧Heap E (fun j=>nx j∨(id≤j∧j<id+8)) ⟨c'.w,c'.S,own2⟩ (over (QU (yI ids id) 0 H') g):=by
 have hfresh:∀ j x,c.own j=some x→¬ (id≤j∧j<id+8):=fun j x hx ⟨h1,h2⟩=>hn (j-id) (by omega) (by rw [show id+(j-id)=j by omega];exact hI.ids j x hx)
 have hid:c.own id=none:=by
  cases ho:c.own id with
  | none=>rfl
  | some x=>exact absurd ⟨Nat.le_refl _,by omega⟩ (hfresh id x ho)
 have hsi:∀ i,i<ids.length→qZ ids id i=ids.getD i 0:=fun i hi=>by simp [qZ,List.getD_eq_getElem?_getD,hi]
 have hsi2:∀ i,ids.length≤i→qZ ids id i=id:=fun i hi=>by simp [qZ,List.getD_eq_getElem?_getD,hi]
 -- what is lent is live here
 have hlv:∀ i,vC (WZ H) i→i<ids.length∧vC g (ids.getD i 0):=fun i hi=>by
  obtain ⟨x,h1,h2⟩:=hSt_live hi
  have h3:i<ids.length:=by omega
  obtain ⟨T,cs,_,h5⟩:=hlent i h3
  exact ⟨h3,T,_,h5⟩
 -- who is lent,by block
 have hbor:∀ b,(ZI E.P (c.via (qZ ids id)) H).Bor b→∃ i T,i<ids.length∧vC g (ids.getD i 0)∧c.own (ids.getD i 0)=some (some b,T):=by
  rintro b ⟨i,T,h1,h2⟩
  obtain ⟨e1,l1⟩:=hlv i h1
  have h2':c.own (qZ ids id i)=_:=h2
  rw [hsi i e1] at h2'
  exact ⟨i,T,e1,l1,h2'⟩
 have hborE:∀ b,(ZI E.P (c.via (qZ ids id)) H).Bor b→¬ c.S b∧(E.Bor b∨E.W.heap.size≤b):=fun b hb=>by
  obtain ⟨i,T,_,l1,h2⟩:=hbor b hb
  exact hI.apart _ b T l1 h2
 have hk':=hh.keep
 have hcw:(ZI E.P (c.via (qZ ids id)) H).W=c.w:=rfl
 have hso1:∀ i,i<ids.length→yI ids id i=ids.getD i 0:=fun i hi=>by
  unfold yI
  rw [if_pos (by simpa [Nat.blt_eq] using hi)]
  simp [List.getD_eq_getElem?_getD,hi]
 have hso2:∀ i,ids.length≤i→yI ids id i=id+(i-ids.length):=fun i hi=>by
  unfold yI
  rw [if_neg (by simp only [Nat.blt_eq];omega)]
 have hlive:∀ i,i<ids.length→∃ x,c.own (ids.getD i 0)=some x:=fun i hi=>by
  obtain ⟨T,cs,_,h5⟩:=hlent i hi
  obtain ⟨ob,h6,_⟩:=hI.blk _ _ _ h5
  exact ⟨_,h6⟩
 have hinj:∀ i j,i<0+H'.length→j<0+H'.length→yI ids id i=yI ids id j→i=j:=by
  intro i j h1 h2 he
  rcases Nat.lt_or_ge i ids.length with e1|e1 <;> rcases Nat.lt_or_ge j ids.length with e2|e2
  ·rw [hso1 i e1,hso1 j e2] at he
   exact WL hb2 i j e1 e2 he
  ·rw [hso1 i e1,hso2 j e2] at he
   obtain ⟨x,hx⟩:=hlive i e1
   exact absurd (by omega) (hfresh _ x hx)
  ·rw [hso2 i e1,hso1 j e2] at he
   obtain ⟨x,hx⟩:=hlive j e2
   exact absurd (by omega) (hfresh _ x hx)
  ·rw [hso2 i e1,hso2 j e2] at he
   omega
 let own2:Nat→Option (Option Nat × TypeId):=fun j=>if id≤j∧j<id+8 then c'.own (j-id+ids.length) else c.own j
 have hown2:∀ j,¬ (id≤j∧j<id+8)→own2 j=c.own j:=fun j hj=>if_neg hj
 have hto:∀ i x,c'.own i=some x→own2 (yI ids id i)=some x:=by
  intro i x hx
  have hi:=hh.ids i x hx
  rcases Nat.lt_or_ge i ids.length with e1|e1
  ·rw [hso1 i e1]
   obtain ⟨y,hy⟩:=hlive i e1
   rw [hown2 _ (hfresh _ y hy)]
   have h2:=hk'.own i y (by show c.own (qZ ids id i)=_;rw [hsi i e1];exact hy)
   rw [hx] at h2
   rw [hy,h2]
  ·rw [hso2 i e1]
   show (if _ then _ else _)=_
   rw [if_pos (by have:i<H'.length:=hi;omega)]
   rw [show id+(i-ids.length)-id+ids.length=i by omega]
   exact hx
 have hk:Keep c ⟨c'.w,c'.S,own2⟩:=⟨fun b hb=>hk'.S b hb,fun j x hx=>(hown2 j (hfresh j x hx)).trans hx,hk'.shape⟩
 have hgo:∀ j,(over (QU (yI ids id) 0 H') g (kb j)=g (kb j)∧∀ i,i<H'.length→j≠yI ids id i) ∨
   ∃ i,i<H'.length∧j=yI ids id i∧over (QU (yI ids id) 0 H') g (kb j)=match H'.getD i none with|some y=>some (.blk y.1 (qN (yI ids id) y.2))|none=>none:=by
  intro j
  rcases lk_wcall (σ:=yI ids id) (H:=H') (n:=0) (kb j) hinj with ⟨h1,h2⟩|⟨i,_,h2,h3,h4⟩
  ·refine .inl ⟨by simp only [over,h1],fun i hi e=>?_⟩
   exact h2 i (Nat.zero_le _) (by omega) (by rw [e])
  ·refine .inr ⟨i,by omega,by simp only [kb] at h3;omega,?_⟩
   simp only [over,h4,Nat.sub_zero]
   try rfl
 -- live qay the call: an old one,or one that the callee tells
 have hlv2:∀ j,vC (over (QU (yI ids id) 0 H') g) j→(vC g j∧∀ i,i<H'.length→j≠yI ids id i)∨∃ i,vC (WZ H') i∧j=yI ids id i:=by
  rintro j ⟨T,cs,hx⟩
  rcases hgo j with ⟨h1,h2⟩|⟨i,h1,h2,h3⟩
  ·exact .inl ⟨⟨T,cs,by rw [← h1];exact hx⟩,h2⟩
  ·rw [h3] at hx
   cases hy:H'.getD i none with
   | none=>rw [hy] at hx;cases hx
   | some y=>exact .inr ⟨i,⟨y.1,y.2,by rw [ZB,hy]⟩,h2⟩
 have hnb:∀ j b T,vC g j→(∀ i,i<H'.length→j≠yI ids id i)→c.own j=some (some b,T)→¬ (ZI E.P (c.via (qZ ids id)) H).Bor b:=fun j b T l1 h1 h2 hb=>by
  obtain ⟨i,T',h3,l2,h4⟩:=hbor b hb
  have e:=hI.inj _ _ b T' T l2 l1 h4 h2
  exact h1 i (by omega) (by rw [hso1 i h3];exact e.symm)
 have hcl:∀ i b T,vC (WZ H') i→own2 (yI ids id i)=some (some b,T)→c'.own i=some (some b,T):=fun i b T ⟨T',cs,hx⟩ h1=>by
  obtain ⟨ob,h2,_⟩:=hh.blk i T' cs hx
  have h3:=hto i _ h2
  rw [h1] at h3
  rw [h2,← h3]
 have hh2:Heap E (fun j=>nx j∨(id≤j∧j<id+8)) ⟨c'.w,c'.S,own2⟩ (over (QU (yI ids id) 0 H') g):=by
  refine { ids:=fun j x hx=>?_,blk:=fun j T cs hx=>?_,inj:=fun j1 j2 b T T' l1 l2 h3 h4=>?_,apart:=fun j b T l1 h2=>?_,bnd:=fun j b T h1=>?_,sok:=hh.sok,os:=hh.os.trans hI.os,tape:=hh.tape.trans hI.tape,output:=hh.output.trans hI.output,
           size:=Nat.le_trans hI.size hh.size,same:=fun b hb hB=>?_,laid:=hI.laid,s0:=fun b hb=>(hk'.S b (hI.s0 b hb)).1,s1:=fun b hb=>?_,keep:=hI.keep.trans hk }
  ·by_cases e:id≤j∧j<id+8
   ·exact .inr e
   ·have hx':own2 j=_:=hx
    rw [hown2 j e] at hx'
    exact .inl (hI.ids j x hx')
  ·rcases hgo j with ⟨h1,h2⟩|⟨i,h1,h2,h3⟩
   ·rw [h1] at hx
    obtain ⟨ob,h3,h4⟩:=hI.blk j T cs hx
    refine ⟨ob,(hown2 j (hfresh j _ h3)).trans h3,h4.mono hk fun b hb=>?_⟩
    subst hb
    exact hh.same b (hI.bnd j b T h3) (hnb j b T ⟨T,cs,hx⟩ h2 h3)
   ·rw [h3] at hx
    cases hy:H'.getD i none with
    | none=>rw [hy] at hx;cases hx
    | some y =>
     rw [hy] at hx
     simp only [Option.some.injEq,Val.blk.injEq] at hx
     obtain ⟨rfl,rfl⟩:=hx
     obtain ⟨ob,h4,h5,h6⟩:=hh.blk i y.1 y.2 (by rw [ZB,hy])
     refine ⟨ob,by rw [h2];exact hto i _ h4,ones_renL.2 h5,?_⟩
     rcases h6 with ⟨h6,h7⟩|⟨b,arr,h6,h7,h8,h9⟩
     ·exact .inl ⟨h6,by rw [h7];rfl⟩
     ·refine .inr ⟨b,arr,h6,h7,by rw [zA];exact h8,fun j hj=>?_⟩
      rw [zA] at hj
      rw [yk _ _ j hj]
      exact rep_to (c:=c') (c':=⟨c'.w,c'.S,own2⟩) rfl rfl hto (h9 j hj)
  ·have h3':own2 j1=_:=h3
   have h4':own2 j2=_:=h4
   rcases hlv2 j1 l1 with ⟨e1,n1⟩|⟨i1,e1,rfl⟩ <;> rcases hlv2 j2 l2 with ⟨e2,n2⟩|⟨i2,e2,rfl⟩
   ·obtain ⟨T1,cs1,hx1⟩:=e1
    obtain ⟨T2,cs2,hx2⟩:=e2
    obtain ⟨ob1,q1,_⟩:=hI.blk j1 _ _ hx1
    obtain ⟨ob2,q2,_⟩:=hI.blk j2 _ _ hx2
    rw [hown2 j1 (hfresh j1 _ q1)] at h3'
    rw [hown2 j2 (hfresh j2 _ q2)] at h4'
    exact hI.inj j1 j2 b T T' ⟨T1,cs1,hx1⟩ ⟨T2,cs2,hx2⟩ h3' h4'
   ·obtain ⟨T1,cs1,hx1⟩:=e1
    obtain ⟨ob1,q1,_⟩:=hI.blk j1 _ _ hx1
    rw [hown2 j1 (hfresh j1 _ q1)] at h3'
    have h5:=hcl i2 b T' e2 h4'
    rcases (hh.apart i2 b T' e2 h5).2 with h6|h6
    ·exact absurd h6 (hnb j1 b T ⟨T1,cs1,hx1⟩ n1 h3')
    ·have:=hI.bnd j1 b T h3'
     rw [hcw] at h6
     omega
   ·obtain ⟨T1,cs1,hx1⟩:=e2
    obtain ⟨ob1,q1,_⟩:=hI.blk j2 _ _ hx1
    rw [hown2 j2 (hfresh j2 _ q1)] at h4'
    have h5:=hcl i1 b T e1 h3'
    rcases (hh.apart i1 b T e1 h5).2 with h6|h6
    ·exact absurd h6 (hnb j2 b T' ⟨T1,cs1,hx1⟩ n2 h4')
    ·have:=hI.bnd j2 b T' h4'
     rw [hcw] at h6
     omega
   ·have h5:=hcl i1 b T e1 h3'
    have h6:=hcl i2 b T' e2 h4'
    rw [hh.inj i1 i2 b T T' e1 e2 h5 h6]
  ·have h2':own2 j=_:=h2
   rcases hlv2 j l1 with ⟨e1,n1⟩|⟨i1,e1,rfl⟩
   ·obtain ⟨T1,cs1,hx1⟩:=e1
    obtain ⟨ob1,q1,_⟩:=hI.blk j _ _ hx1
    rw [hown2 j (hfresh j _ q1)] at h2'
    have hap:=hI.apart j b T ⟨T1,cs1,hx1⟩ h2'
    have hlt:=hI.bnd j b T h2'
    refine ⟨fun hS=>?_,hap.2⟩
    rcases hh.s1 b hS with h5|h5|h5
    ·exact hap.1 h5
    ·exact hnb j b T ⟨T1,cs1,hx1⟩ n1 h2' h5
    ·rw [hcw] at h5;omega
   ·have h5:=hcl i1 b T e1 h2'
    have hap:=hh.apart i1 b T e1 h5
    refine ⟨hap.1,?_⟩
    rcases hap.2 with h6|h6
    ·exact (hborE b h6).2
    ·rw [hcw] at h6
     have:=hI.size
     exact .inr (by omega)
  ·have h1':own2 j=_:=h1
   by_cases e:id≤j∧j<id+8
   ·have h2:c'.own (j-id+ids.length)=some (some b,T):=by
     have:own2 j=c'.own (j-id+ids.length):=if_pos e
     rw [← this];exact h1'
    exact hh.bnd _ b T h2
   ·rw [hown2 j e] at h1'
    have:=hI.bnd j b T h1'
    have h3:=hh.size
    rw [hcw] at h3
    show b<c'.w.heap.size
    omega
  ·have h1:=hI.size
   refine (hh.same b (by rw [hcw];omega) fun hb2=>?_).trans (hI.same b hb hB)
   rcases (hborE b hb2).2 with h2|h2
   ·exact hB h2
   ·omega
  ·rcases hh.s1 b hb with h5|h5|h5
   ·exact hI.s1 b h5
   ·exact .inr (hborE b h5).2
   ·rw [hcw] at h5
    have:=hI.size
    exact .inr (.inr (by omega))
 exact ⟨own2,hk,hto,hh2⟩
theorem call_any {E:Env} {nx:Nat→Prop} {c:Cx} {g:St} {a:Act} {o:Oper} {id:Nat} {K:Act→World→Prop} {Q:Exit→Act→World→Prop} {f:FuncId} {bs:List PV} {ids:List Nat} {H H':Hp} {vs:Array Value} {G:Ending→Cx→Prop}
  (hn:∀ t,t<8→¬ nx (id+t)) (hI:Inv E nx c g a) (hb1:H'.length≤ids.length+8) (hb2:vS ids=true) (hHl:H.length≤H'.length) (hlen:ids.length=H.length)
  (hlent:∀ i,i<ids.length→∃ T cs,H.getD i none=some (T,cs)∧g (kb (ids.getD i 0))=some (.blk T (qN (qZ ids id) cs)))
  (hpc:∀ (c:Cx) (vs:Array Value),Heap (ZI E.P c H) (· < H.length) c (WZ H)→RL E.P c bs vs→Calls E.P f vs c.w fun e w'=>∃ c',c'.w=w'∧Heap (ZI E.P c H) (· < H'.length) c' (WZ H')∧G e c')
  (hrl:RL E.P c (qN (qZ ids id) bs) vs) (hex:(execOp a.eval o).run E.P c.w = .ok (.enter f vs) c.w)
  (fin:∀ e (c':Cx) own2,G e c'→Keep c ⟨c'.w,c'.S,own2⟩→(∀ i x,c'.own i=some x→own2 (yI ids id i)=some x)→Heap E (fun j=>nx j∨(id≤j∧j<id+8)) ⟨c'.w,c'.S,own2⟩ (over (QU (yI ids id) 0 H') g)→callEnd o a K Q e c'.w) :
  o.wp E.P a c.w K Q:=by
 have hcc:=lend_heap hn hI.toHeap hb2 hlen hlent
 have hras:RL E.P (c.via (qZ ids id)) bs vs:=by
  refine ⟨by rw [hrl.1,zA],fun i hi=>?_⟩
  exact WH (hrl.2 i (by rw [zA];exact hi)) _ (yk _ _ i hi)
 unfold Oper.wp
 rw [hex,Oper.upon_enter]
 refine Calls.mono (R:=fun e w'=>callEnd o a K Q e w') ?_ fun e w' h=>by cases e <;> exact h
 refine (hpc _ vs hcc hras).mono ?_
 rintro e w' ⟨c',rfl,hh,hG⟩
 obtain ⟨own2,hk,hto,hh2⟩:=back_heap hb1 hHl hn hI.toHeap hb2 hlen hlent hh
 exact fin e c' own2 hG hk hto hh2
theorem WU {E:Env} {nx:Nat→Prop} {c:Cx} {g:St} {a:Act} {o:Oper} {id:Nat} {K:Act→World→Prop} {Q:Exit→Act→World→Prop} {f:FuncId} {args bs:List PV} {ids:List Nat} {H H':Hp} {r p:PV} {wb:L} {vs:Array Value}
  (hd:∀ x,o.dst=some x→x<E.n) (hn:∀ t,t<8→¬ nx (id+t)) (hI:Inv E nx c g a)
  (hK:∀ c' a',Inv E (fun j=>nx j∨(id≤j∧j<id+8)) c' (over (wd o.dst p) (over wb g)) a'→K a' c'.w)
  (h:Res g (qgf E.P f args id ids bs H r H') p wb) (hrl:RL E.P c args vs) (hex:FnOk E.P f→(execOp a.eval o).run E.P c.w = .ok (.enter f vs) c.w):o.wp E.P a c.w K Q:=by
 unfold qgf at h
 split at h
 case h_2=>exact (Res.fail h).elim
 rename_i hb1 hb2
 obtain ⟨⟨hfn,hHl,hpc⟩,h1⟩:=Res.ob h
 obtain ⟨rfl,h2⟩:=Res.ob h1
 obtain ⟨hlen,h3,hlent⟩:=qdu h2
 obtain ⟨rfl,rfl⟩:=Res.done h3
 refine call_any (G:=fun e c'=>∃ v,e = .returned v∧Rep E.P c' r v) hn hI (Nat.le_of_ble_eq_true hb1) hb2 hHl hlen hlent (fun c vs h1 h2=>(hpc c vs h1 h2).mono ?_) hrl (hex hfn) ?_
 ·rintro e w' ⟨v,c',rfl,rfl,h4,h5⟩
  exact ⟨c',rfl,h4,v,rfl,h5⟩
 ·rintro e c' own2 ⟨v,rfl,hrep⟩ hk hto hh2
  exact hK ⟨c'.w,c'.S,own2⟩ _ (Inv.put hI hk _ (fun s=>qfs s) hh2 o.dst hd fun _=>rep_to (c:=c') (c':=⟨c'.w,c'.S,own2⟩) rfl rfl hto hrep)
theorem RL.czs {P:Program} {c:Cx} {ps:List PV} {vs:Array Value} (h:RL P c ps vs):RL P c (ps.map cz) vs:=by
 refine ⟨by simpa using h.1,fun i hi=>?_⟩
 have hi':i<ps.length:=by simpa using hi
 have:=rep_cz (h.2 i hi')
 simpa [List.getD_eq_getElem?_getD,hi'] using this
theorem aCall_ok {E:Env} {o:Oper} {id:Nat} {fx:Operand} {xs:Array Operand} {ts:Array TypeId} {an:Ans} (ho:o.op = .call { callee:=.value fx,args:=xs,argTypes:=ts }) (hd:∀ x,o.dst=some x→x<E.n):yy E o id (aCall E.P fx xs.toList an id):=by
 intro g p wb h nx c a K Q hn hI hK
 obtain ⟨q,hq,h1⟩:=Res.opd hI h
 obtain ⟨ps,hps,h2⟩:=Res.opdl hI h1
 clear h h1
 have hps':RL E.P c ps (xs.map a.eval):=by
  have e:(xs.toList.map a.eval).toArray=xs.map a.eval:=by apply Array.ext';simp
  rw [← e];exact hps
 have key:∀ {f:FuncId} {fs cs:Array Value},a.eval fx = .func (.func f) fs cs→FnOk E.P f→(execOp a.eval o).run E.P c.w = .ok (.enter f (fs++xs.map a.eval++cs)) c.w:=by
  rintro f fs cs hv ⟨fn,h1,h2,h3⟩
  have h4:(callFunc f (fs++xs.map a.eval++cs)).run E.P c.w = .ok (.enter f (fs++xs.map a.eval++cs)) c.w:=by
   have h2':¬ fn.body=none:=fun e=>by rw [e] at h2;cases h2
   have h3' : ¬ fn.name = "runtime.NumGoroutine" := by simpa using h3
   simp [callFunc,h1,h3',h2']
  simp only [execOp,ho,resolve,hv,Deferred.ofValue,invoke,Sem.run_bind,Sem.run_pure,Result.andThen_ok]
  exact h4
 split at h2
 ·rename_i f fs cs ids bs H r H'
  exact WU hd hn hI hK h2 (((QR fs).append hps'.czs).append (QR cs)) (key (zH hq))
 ·rename_i f fs cs ids bs H r H'
  obtain ⟨vs,us,hv,h3,h4,h5,h6⟩:=rep_fn hq
  exact WU hd hn hI hK h2 (RL.append (RL.append ⟨h3,h5⟩ hps'.czs) ⟨h4,h6⟩) (key hv)
 ·exact (Res.fail h2).elim
theorem YX {P:Program} (w:World) (d:Nat) {T e:TypeId} (hu:P.underlying T=some (.pointer e)) (a:Option Addr):(Op.equalIn (d+1) T (.pointer a) (.pointer none)).run P w = .ok a.isNone w:=by
 rw [Op.equalIn]
 simp only [Sem.run_bind,run_underlying hu,Result.andThen_ok]
 cases a <;> rfl
theorem run_eq_ptr {P:Program} (w:World) {T e:TypeId} (hu:P.underlying T=some (.pointer e)) (ng:Bool) (a:Option Addr):(binOp (match ng with|true=>.neq|false=>.eql) T (.pointer a) (.pointer none)).run P w = .ok (.bool (match ng with|true=>!a.isNone|false=>a.isNone)) w:=by
 cases ng with
 | false =>
  show (do pure (.bool (← Op.equal T (.pointer a) (.pointer none))):Sem Value).run P w=_
  simp only [Op.equal,show Op.maxDepth=9999+1 from rfl,Sem.run_bind,YX w 9999 hu,Result.andThen_ok]
  rfl
 | true =>
  show (do pure (.bool (!(← Op.equal T (.pointer a) (.pointer none)))):Sem Value).run P w=_
  simp only [Op.equal,show Op.maxDepth=9999+1 from rfl,Sem.run_bind,YX w 9999 hu,Result.andThen_ok]
  rfl
theorem VM {P:Program} (w:World) (d:Nat) {T e:TypeId} (hu:P.underlying T=some (.slice e)) (a:Option Addr) (n m n' m':Nat):(Op.equalIn (d+1) T (.slice a n m) (.slice none n' m')).run P w = .ok a.isNone w:=by
 rw [Op.equalIn]
 simp only [Sem.run_bind,run_underlying hu,Result.andThen_ok]
 cases a <;> rfl
theorem run_eq_sl {P:Program} (w:World) {T e:TypeId} (hu:P.underlying T=some (.slice e)) (ng:Bool) (a:Option Addr) (n m n' m':Nat):(binOp (match ng with|true=>.neq|false=>.eql) T (.slice a n m) (.slice none n' m')).run P w = .ok (.bool (match ng with|true=>!a.isNone|false=>a.isNone)) w:=by
 cases ng with
 | false =>
  show (do pure (.bool (← Op.equal T (.slice a n m) (.slice none n' m'))):Sem Value).run P w=_
  simp only [Op.equal,show Op.maxDepth=9999+1 from rfl,Sem.run_bind,VM w 9999 hu,Result.andThen_ok]
  rfl
 | true =>
  show (do pure (.bool (!(← Op.equal T (.slice a n m) (.slice none n' m')))):Sem Value).run P w=_
  simp only [Op.equal,show Op.maxDepth=9999+1 from rfl,Sem.run_bind,VM w 9999 hu,Result.andThen_ok]
  rfl
def ngB (ng b:Bool):Bool:=match ng with|true=>!b|false=>b
def aEqP (u:Option TypeDesc) (ng:Bool) (x y:Operand):Plan:=opd x fun p=>opd y fun q=>match u,p,q with
 | some (.pointer _),.opt _ _,.av (.pointer none)=>bit ng
 | some (.pointer _),.spt _ _,.av (.pointer none)=>bit ng
 | some (.pointer _),.av (.pointer none),.av (.pointer none)=>bit (!ng)
 | some (.slice _),.osl _ _ n,.av (.slice none _ _)=>.ob (0<n) (bit ng)
 | some (.slice _),.ssl _ _ n,.av (.slice none _ _)=>.ob (0<n) (bit ng)
 | some (.slice _),.av (.slice none _ _),.av (.slice none _ _)=>bit (!ng)
 | _,_,_=>.fail
theorem qea {E:Env} {o:Oper} {id:Nat} {ng:Bool} {T U:TypeId} {x y:Operand} (ho:o.op = .binOp (match ng with|true=>.neq|false=>.eql) T x y U) (hd:∀ x,o.dst=some x→x<E.n):yy E o id (aEqP (E.P.underlying T) ng x y):=by
 intro g p wb h nx c a K Q hn hI hK
 obtain ⟨q1,hq1,h1⟩:=Res.opd hI h
 obtain ⟨q2,hq2,h2⟩:=Res.opd hI h1
 clear h h1
 have key:∀ {e:TypeId} {ad:Option Addr},E.P.underlying T=some (.pointer e)→a.eval x = .pointer ad→a.eval y = .pointer none→p = .av (.bool (ngB ng ad.isNone))→wb=[]→o.wp E.P a c.w K Q:=by
  intro e ad hu hx hy hp hw
  subst hp;subst hw
  refine qx hd hI hK (.sh (.av _)) ?_
  have h3:=run_eq_ptr c.w hu ng ad
  unfold ngB
  have h4:∀ op:BinOp,(eqGuard op T x y (.pointer ad) (.pointer none)).run E.P c.w = .ok () c.w:=fun op=>by cases op <;> simp [eqGuard]
  cases ng with
  | true=>simp only at h3 ho;simp [execOp,ho,hx,hy,h4,h3]
  | false=>simp only at h3 ho;simp [execOp,ho,hx,hy,h4,h3]
 have keyS:∀ {e:TypeId} {ad:Option Addr} {n m n' m':Nat},E.P.underlying T=some (.slice e)→a.eval x = .slice ad n m→a.eval y = .slice none n' m'→p = .av (.bool (ngB ng ad.isNone))→wb=[]→o.wp E.P a c.w K Q:=by
  intro e ad n m n' m' hu hx hy hp hw
  subst hp;subst hw
  refine qx hd hI hK (.sh (.av _)) ?_
  have h3:=run_eq_sl c.w hu ng ad n m n' m'
  unfold ngB
  have h4:∀ op:BinOp,(eqGuard op T x y (.slice ad n m) (.slice none n' m')).run E.P c.w = .ok () c.w:=fun op=>by cases op <;> simp [eqGuard]
  cases ng with
  | true=>simp only at h3 ho;simp [execOp,ho,hx,hy,h4,h3]
  | false=>simp only at h3 ho;simp [execOp,ho,hx,hy,h4,h3]
 generalize hu:E.P.underlying T=u at h2
 split at h2
 ·obtain ⟨rfl,rfl⟩:=Res.done h2
  obtain ⟨b,T',ho1,hv⟩:=wk hq1
  exact key hu hv (zH hq2) (by cases ng <;> rfl) rfl
 ·obtain ⟨rfl,rfl⟩:=Res.done h2
  obtain ⟨b,a',vf,hv,_⟩:=WI hq1
  exact key hu hv (zH hq2) (by cases ng <;> rfl) rfl
 ·obtain ⟨rfl,rfl⟩:=Res.done h2
  exact key hu (zH hq1) (zH hq2) (by cases ng <;> rfl) rfl
 ·obtain ⟨h0,h3⟩:=Res.ob h2
  obtain ⟨rfl,rfl⟩:=Res.done h3
  obtain ⟨ob,T2,hown,hv⟩:=jy hq1
  rcases hv with ⟨ad,hv,hn⟩|⟨b,cap,cs2,hob,hv,_⟩
  ·omega
  ·exact keyS hu hv (zH hq2) (by cases ng <;> rfl) rfl
 ·obtain ⟨h0,h3⟩:=Res.ob h2
  obtain ⟨rfl,rfl⟩:=Res.done h3
  rcases YB hq1 with ⟨ad,cap,hv,hn⟩|⟨b,a',cap,vf,hv,_⟩
  ·omega
  ·exact keyS hu hv (zH hq2) (by cases ng <;> rfl) rfl
 ·obtain ⟨rfl,rfl⟩:=Res.done h2
  exact keyS hu (zH hq1) (zH hq2) (by cases ng <;> rfl) rfl
 ·exact (Res.fail h2).elim
def aMax3 (mx:Bool) (x y z:Operand):Plan:=opd x fun p=>opd y fun q=>opd z fun r=>match p,q,r with
 | .av (.int k a),.av (.int _ b),.av (.int _ c)=>.done (.av (.int k (match mx with | true=>max (max a b) c | false=>min (min a b) c))) []
 | _,_,_=>.fail
theorem aMax3_ok {E:Env} {o:Oper} {id:Nat} {x y z:Operand} {ts:Array TypeId} (ho:o.op = .call { callee:=.builtin .max,args := #[x,y,z],argTypes:=ts }) (hd:∀ x,o.dst=some x→x<E.n):yy E o id (aMax3 true x y z):=by
 intro g p wb h nx c a K Q hn hI hK
 obtain ⟨q1,hq1,h1⟩:=Res.opd hI h
 obtain ⟨q2,hq2,h2⟩:=Res.opd hI h1
 obtain ⟨q3,hq3,h3⟩:=Res.opd hI h2
 split at h3
 ·rename_i k m k2 n k3 l
  obtain ⟨rfl,rfl⟩:=Res.done h3
  refine qx hd hI hK (.sh (.av _)) ?_
  have e:max (max m n) l=if l > (if n > m then n else m) then l else (if n > m then n else m):=by split <;> split <;> omega
  simp [execOp,ho,resolve,invoke,builtin,zH hq1,zH hq2,zH hq3,Builtin.max_,Builtin.max2,e]
 ·exact (Res.fail h3).elim
theorem aMin3_ok {E:Env} {o:Oper} {id:Nat} {x y z:Operand} {ts:Array TypeId} (ho:o.op = .call { callee:=.builtin .min,args := #[x,y,z],argTypes:=ts }) (hd:∀ x,o.dst=some x→x<E.n):yy E o id (aMax3 false x y z):=by
 intro g p wb h nx c a K Q hn hI hK
 obtain ⟨q1,hq1,h1⟩:=Res.opd hI h
 obtain ⟨q2,hq2,h2⟩:=Res.opd hI h1
 obtain ⟨q3,hq3,h3⟩:=Res.opd hI h2
 split at h3
 ·rename_i k m k2 n k3 l
  obtain ⟨rfl,rfl⟩:=Res.done h3
  refine qx hd hI hK (.sh (.av _)) ?_
  have e:min (min m n) l=if l<(if n<m then n else m) then l else (if n<m then n else m):=by split <;> split <;> omega
  simp [execOp,ho,resolve,invoke,builtin,zH hq1,zH hq2,zH hq3,Builtin.min_,Builtin.min2,e]
 ·exact (Res.fail h3).elim
/-! ### an own row,laid down for Wq -/
def PV.shd:PV→Bool
 | .av _=>true
 | .ssl _ _ _=>true
 | .spt _ _=>true
 | .err=>true
 | _=>false
def jW (cs:List PV):Prop:=∀ p∈cs,PV.shd p=true
theorem qiv {P:Program} {c:Cx} {p:PV} {v:Value} (h:Rep P c p v) (hs:p.shd=true):SRep c.w c.S p v:=by
 cases h with
 | sh h=>exact h
 | agg=>cases hs
 | tup=>cases hs
 | osl=>cases hs
 | opt=>cases hs
 | opn=>cases hs
 | fn=>cases hs
mutual
def frz (id:Nat) (cs:List PV):PV→PV
 | .osl i off len=>match Nat.beq i id with | true=>.ssl cs off len | false=>.osl i off len
 | .opt i off=>match Nat.beq i id with | true=>.spt cs off | false=>.opt i off
 | .opn i off=>.opn i off
 | .agg l=>.agg (VZ id cs l)
 | .tup l=>.tup (VZ id cs l)
 | .fn f l m=>.fn f (VZ id cs l) (VZ id cs m)
 | .av v=>.av v
 | .ssl l off len=>.ssl l off len
 | .spt l off=>.spt l off
 | .err=>.err
def VZ (id:Nat) (cs:List PV):List PV→List PV
 | []=>[]
 | p :: l=>frz id cs p :: VZ id cs l
end
theorem yF (id:Nat) (cs:List PV):∀ l,(VZ id cs l).length=l.length
 | []=>rfl
 | _ :: l=>by simp [VZ,yF id cs l]
theorem jF (id:Nat) (cs:List PV):∀ (l:List PV) (i:Nat),i<l.length→(VZ id cs l).getD i P0=frz id cs (l.getD i P0)
 | p :: l,0,_=>rfl
 | p :: l,i+1,h=>by
  have:=jF id cs l i (by simpa using h)
  simpa [VZ,List.getD_eq_getElem?_getD] using this
theorem one_frz (id:Nat) (cs:List PV) (p:PV):(frz id cs p).one=p.one:=by
 cases p <;> simp only [frz] <;> first|rfl|(split <;> rfl)
theorem qhk {id:Nat} {cs:List PV}:∀ {l:List PV},wM l→wM (VZ id cs l)
 | [],_=>fun p hp=>by cases hp
 | p :: l,h=>by
  intro q hq
  simp only [VZ,List.mem_cons] at hq
  rcases hq with rfl|hq
  ·rw [one_frz];exact h p (by simp)
  ·exact qhk (fun p hp=>h p (by simp [hp])) q hq
theorem srep_frz {w:World} {S:Nat→Prop} {id:Nat} {cs:List PV} {p:PV} {v:Value} (h:SRep w S p v):SRep w S (frz id cs p) v:=by
 induction h with
 | av v=>exact .av _
 | agg hn _ ih=>exact .agg (by rw [yF];exact hn) fun i hi=>by rw [yF] at hi;rw [jF _ _ _ i hi];exact ih i hi
 | tup hn _ ih=>exact .tup (by rw [yF];exact hn) fun i hi=>by rw [yF] at hi;rw [jF _ _ _ i hi];exact ih i hi
 | emp=>exact .emp
 | ssl hS hc h ho hl _=>exact .ssl hS hc h ho hl
 | spt hS hc h ho _=>exact .spt hS hc h ho
 | fn hn _ hm _ ih ik=>exact .fn (by rw [yF];exact hn) (fun i hi=>by rw [yF] at hi;rw [jF _ _ _ i hi];exact ih i hi) (by rw [yF];exact hm) (fun i hi=>by rw [yF] at hi;rw [jF _ _ _ i hi];exact ik i hi)
 | err t v=>exact .err t v
theorem rep_frz {P:Program} {c c':Cx} {id:Nat} {cs:List PV} {ob:Option Nat} {T:TypeId} (hw:c'.w=c.w) (hS:∀ b,c.S b→c'.S b) (hown:c'.own=c.own) (ho:c.own id=some (ob,T)) (hone:wM cs)
  (hb:∀ b,ob=some b→c'.S b∧∃ arr:Array Value,c.w.heap[b]? = some (.cells arr T (0,0))∧cs.length≤arr.size∧∀ j,j<cs.length→SRep c'.w c'.S (cs.getD j P0) (arr.getD j undef)) {p:PV} {v:Value} (h:Rep P c p v):Rep P c' (frz id cs p) v:=by
 induction h with
 | sh h=>exact .sh (srep_frz (h.mono fun b hb=>⟨hS b hb,by rw [hw]⟩))
 | agg hn _ ih=>exact .agg (by rw [yF];exact hn) fun i hi=>by rw [yF] at hi;rw [jF _ _ _ i hi];exact ih i hi
 | tup hn _ ih=>exact .tup (by rw [yF];exact hn) fun i hi=>by rw [yF] at hi;rw [jF _ _ _ i hi];exact ih i hi
 | osl h1 h2 =>
  rename_i i off len v ob' T'
  simp only [frz]
  split
  ·rename_i e
   have e:=Nat.eq_of_beq_eq_true e
   subst e
   rw [ho] at h1
   cases h1
   rcases h2 with ⟨a,rfl,rfl⟩|⟨b,cap,arr',rfl,rfl,h3,h4,h5⟩
   ·exact .sh .emp
   ·obtain ⟨q1,arr,q2,q3,q4⟩:=hb b rfl
    have:=SRep.ssl (w:=c'.w) (S:=c'.S) (cs:=cs) (off:=off) (len:=len) (b:=b) (a:=0) (cap:=cap) (vf:=fun j=>arr.getD j undef) q1 (fun j hj=>by
     have:j<arr.size:=by omega
     rw [hw,Nat.zero_add,cell_of_row c.w _ _ arr _ _ q2]
     simp [Array.getD_eq_getD_getElem?,this]) q4 hone h4
    rw [Nat.zero_add] at this
    exact .sh this
  ·exact .osl (by rw [hown];exact h1) (by rw [hw];exact h2)
 | opt h1 =>
  rename_i i off b T'
  simp only [frz]
  split
  ·rename_i e
   have e:=Nat.eq_of_beq_eq_true e
   subst e
   rw [ho] at h1
   cases h1
   obtain ⟨q1,arr,q2,q3,q4⟩:=hb b rfl
   have:=SRep.spt (w:=c'.w) (S:=c'.S) (cs:=cs) (off:=off) (b:=b) (a:=0) (vf:=fun j=>arr.getD j undef) q1 (fun j hj=>by
    have:j<arr.size:=by omega
    rw [hw,Nat.zero_add,cell_of_row c.w _ _ arr _ _ q2]
    simp [Array.getD_eq_getD_getElem?,this]) q4 hone
   rw [Nat.zero_add] at this
   exact .sh this
  ·exact .opt (by rw [hown];exact h1)
 | opn h=>exact .opn (by rw [hown];exact h)
 | fn hn _ hm _ ih ik=>exact .fn (by rw [yF];exact hn) (fun i hi=>by rw [yF] at hi;rw [jF _ _ _ i hi];exact ih i hi) (by rw [yF];exact hm) (fun i hi=>by rw [yF] at hi;rw [jF _ _ _ i hi];exact ik i hi)
theorem YE {id:Nat} {g:St} (i:Nat):over [(kb id,none)] g (kb i)=if i=id then none else g (kb i):=QN id none g i
theorem inv_lay {E:Env} {nx:Nat→Prop} {c:Cx} {g:St} {a:Act} (hI:Inv E nx c g a) {id:Nat} {T:TypeId} {cs:List PV} (hg:g (kb id)=some (.blk T cs)) (hs:jW cs) :
  ∃ c',c'.w=c.w∧Keep c c'∧Inv E nx c' (over [(kb id,none)] g) a∧∀ {p:PV} {v:Value},Rep E.P c p v→Rep E.P c' (frz id cs p) v:=by
 obtain ⟨ob,ho,hone,hbk⟩:=hI.blk id T cs hg
 let cx':Cx:=⟨c.w,fun b=>c.S b∨ob=some b,c.own⟩
 have hlive:vC g id:=⟨T,cs,hg⟩
 have hblk:∀ b,ob=some b→cx'.S b∧∃ arr:Array Value,c.w.heap[b]? = some (.cells arr T (0,0))∧cs.length≤arr.size∧∀ j,j<cs.length→SRep cx'.w cx'.S (cs.getD j P0) (arr.getD j undef):=by
  intro b hb
  rcases hbk with ⟨h1,_⟩|⟨b',arr,h1,h2,h3,h4⟩
  ·rw [hb] at h1;cases h1
  ·obtain rfl:b'=b:=by rw [hb] at h1;simpa using h1.symm
   refine ⟨.inr hb,arr,h2,h3,fun j hj=>?_⟩
   have hm:cs.getD j P0∈cs:=by simp [List.getD_eq_getElem?_getD,hj]
   exact (qiv (h4 j hj) (hs _ hm)).mono fun b hb=>⟨.inl hb,rfl⟩
 have hk:Keep c cx':=⟨fun b hb=>⟨.inl hb,rfl⟩,fun _ _ h=>h,Shape.refl _⟩
 have hl:∀ i,vC (over [(kb id,none)] g) i→i≠id∧vC g i:=fun i ⟨T',ds,h⟩=>by
  rw [YE] at h
  by_cases e:i=id
  ·rw [if_pos e] at h;cases h
  ·rw [if_neg e] at h;exact ⟨e,T',ds,h⟩
 refine ⟨cx',rfl,hk,{ ids:=hI.ids,blk:=fun i T' ds h=>?_,inj:=fun i j b T1 T2 l1 l2=>hI.inj i j b T1 T2 (hl i l1).2 (hl j l2).2,apart:=fun i b T1 l1 h2=>?_,bnd:=hI.bnd,sok:=fun b hb=>?_,os:=hI.os,tape:=hI.tape,output:=hI.output,size:=hI.size,same:=hI.same,laid:=hI.laid,s0:=fun b hb=>.inl (hI.s0 b hb),s1:=fun b hb=>?_,keep:=hI.keep.trans hk,tmps:=hI.tmps,dfr:=hI.dfr,slot:=fun s p hp=>?_,isv:=fun s x hx=>?_ },fun h=>rep_frz (c:=c) (c':=cx') rfl (fun _ h=>Or.inl h) rfl ho hone hblk h⟩
 ·rw [YE] at h
  by_cases e:i=id
  ·rw [if_pos e] at h;cases h
  ·rw [if_neg e] at h
   obtain ⟨ob',h3,h4⟩:=hI.blk i T' ds h
   exact ⟨ob',h3,h4.mono hk fun b _=>rfl⟩
 ·obtain ⟨h1,h3⟩:=hl i l1
  have hap:=hI.apart i b T1 h3 h2
  refine ⟨fun hb=>?_,hap.2⟩
  rcases hb with hb|hb
  ·exact hap.1 hb
  ·subst hb
   exact h1 (hI.inj i id b T1 T h3 hlive h2 ho)
 ·rcases hb with hb|hb
  ·exact hI.sok b hb
  ·subst hb;exact hI.bnd id b T ho
 ·rcases hb with hb|hb
  ·exact hI.s1 b hb
  ·subst hb;exact .inr (hI.apart id b T hlive ho).2
 ·rw [qcr] at hp
  exact (hI.slot s p hp).mono hk
 ·rw [qcr] at hx
  exact hI.isv s x hx
def QW (js:List Nat):L:=js.map fun j=>(kb j,none)
def frzF1:List (Nat × List PV)→PV→PV
 | [],p=>p
 | (j,cs) :: F,p=>frzF1 F (frz j cs p)
theorem qfv:∀ {js:List Nat} {i:Nat},(∀ j∈js,j≠i)→lk (kb i) (QW js)=none
 | [],_,_=>rfl
 | j :: js,i,h=>by
  have ih:=qfv (js:=js) (i:=i) fun x hx=>h x (by simp [hx])
  simp only [QW,List.map_cons,lk,YT] at ih ⊢
  rw [decide_eq_false (fun e=>h j (by simp) e.symm)]
  exact ih
theorem inv_lays {E:Env} {nx:Nat→Prop} {a:Act}:∀ {F:List (Nat × List PV)} {c:Cx} {g:St},Inv E nx c g a→vS (F.map (·.1))=true→(∀ x∈F,∃ T,g (kb x.1)=some (.blk T x.2)∧jW x.2) →
  ∃ c',c'.w=c.w∧Keep c c'∧Inv E nx c' (over (QW (F.map (·.1))) g) a∧∀ {p:PV} {v:Value},Rep E.P c p v→Rep E.P c' (frzF1 F p) v
 | [],c,g,hI,_,_=>⟨c,rfl,Keep.refl c,hI,fun h=>h⟩
 | (j,cs) :: F,c,g,hI,hn,h=>by
  simp only [List.map_cons,vS,Bool.and_eq_true] at hn
  obtain ⟨T,hg,hs⟩:=h (j,cs) (by simp)
  obtain ⟨c1,e1,k1,i1,r1⟩:=inv_lay hI hg hs
  have hne:∀ x∈F,x.1≠j:=fun x hx e=>by
   have:=List.all_eq_true.1 hn.1 x.1 (List.mem_map.2 ⟨x,hx,rfl⟩)
   rw [e,Nat.beq_refl] at this
   cases this
  obtain ⟨c2,e2,k2,i2,r2⟩:=inv_lays (F:=F) i1 hn.2 fun x hx=>by
   obtain ⟨T',h1,h2⟩:=h x (by simp [hx])
   exact ⟨T',by rw [YE,if_neg (hne x hx)];exact h1,h2⟩
  refine ⟨c2,e2.trans e1,k1.trans k2,?_,fun hr=>r2 (r1 hr)⟩
  have e3:over (QW (((j,cs) :: F).map (·.1))) g=over (QW (F.map (·.1))) (over [(kb j,none)] g):=by
   funext k
   rw [← ZL]
   simp only [List.map_cons,QW,over]
   -- the key j stands at the head or at the end: the same
   by_cases hk:Nat.beq k (kb j)=true
   ·have hk':=Nat.eq_of_beq_eq_true hk
    subst hk'
    have hm:=qfv (js:=F.map (·.1)) (i:=j) fun x hx=>by
     obtain ⟨y,hy,rfl⟩:=List.mem_map.1 hx
     exact hne y hy
    have h5:∀ (l m:L),lk (kb j) l=none→lk (kb j) (l++m)=lk (kb j) m:=fun l m hl=>by
     induction l with
     | nil=>rfl
     | cons y l ih =>
      obtain ⟨q,z⟩:=y
      simp only [lk,List.cons_append] at hl ⊢
      by_cases e:Nat.beq (kb j) q=true
      ·rw [if_pos e] at hl;cases hl
      ·rw [if_neg e] at hl ⊢;exact ih hl
    have h6:=h5 (QW (F.map (·.1))) [(kb j,none)] hm
    simp only [QW] at h6
    rw [h6]
    simp [lk,Nat.beq_refl]
   ·have h5:∀ l:L,lk k (l++[(kb j,none)])=lk k l:=fun l=>by
     induction l with
     | nil=>simp only [List.nil_append,lk];rw [if_neg hk]
     | cons y l ih =>
      obtain ⟨q,z⟩:=y
      simp only [lk,List.cons_append]
      rw [ih]
    simp only [lk]
    rw [if_neg hk,h5]
  rw [e3]
  exact i2
def Plan.avoid (js:List Nat):Plan→Plan
 | .fail=>.fail
 | .look k f=>match (js.map kb).contains k with | true=>.fail | false=>.look k fun v=>(f v).avoid js
 | .ob p q=>.ob p (q.avoid js)
 | .done pv wb=>.done pv (wb++QW js)
theorem over_killL {js:List Nat} {g:St} {k:Nat} (h:(js.map kb).contains k=false):over (QW js) g k=g k:=by
 have:lk k (QW js)=none:=by
  induction js with
  | nil=>rfl
  | cons j js ih =>
   simp only [List.map_cons,List.contains_cons,Bool.or_eq_false_iff] at h
   simp only [QW,List.map_cons,lk] at ih ⊢
   have h1:Nat.beq k (kb j)=false:=by
    rw [Bool.eq_false_iff]
    intro e
    have:=Nat.eq_of_beq_eq_true e
    have h2:=h.1
    rw [this] at h2
    simp at h2
   rw [h1]
   exact ih h.2
 simp only [over,this]
theorem Res.avoid {js:List Nat} {g:St}:∀ {pl:Plan} {p:PV} {wb:L},Res g (pl.avoid js) p wb→∃ wb',wb=wb'++QW js∧Res (over (QW js) g) pl p wb'
 | .fail,p,wb,h=>(Res.fail h).elim
 | .look k f,p,wb,h=>by
  simp only [Plan.avoid] at h
  split at h
  ·exact (Res.fail h).elim
  ·rename_i hc
   obtain ⟨v,h1,h2⟩:=Res.look h
   obtain ⟨wb',h3,o,h4,h5,h6,h7⟩:=Res.avoid h2
   refine ⟨wb',h3,{ o with reads:=k :: o.reads },?_,h5,h6,h7⟩
   simp only [run]
   rw [over_killL hc,h1]
   simp only
   rw [h4]
 | .ob q r,p,wb,h=>by
  simp only [Plan.avoid] at h
  obtain ⟨h1,h2⟩:=Res.ob h
  obtain ⟨wb',h3,o,h4,h5,h6,h7⟩:=Res.avoid h2
  refine ⟨wb',h3,{ o with obs:=q :: o.obs },?_,h5,h6,fun x hx=>?_⟩
  ·simp only [run];rw [h4]
  ·simp only [List.mem_cons] at hx
   rcases hx with rfl|hx
   ·exact h1
   ·exact h7 x hx
 | .done pv w,p,wb,h=>by
  simp only [Plan.avoid] at h
  obtain ⟨rfl,rfl⟩:=Res.done h
  exact ⟨w,rfl,⟨p,w,[],[]⟩,rfl,rfl,rfl,fun _ hq=>by cases hq⟩
def layP:List Nat→(List (Nat × List PV)→Plan)→Plan
 | [],k=>k []
 | j :: js,k=>.look (kb j) fun v=>match v with | .blk _ cs=>.ob (jW cs) (layP js fun F=>k ((j,cs) :: F)) | .pv _=>.fail
theorem layP_ok {g:St}:∀ {js:List Nat} {k:List (Nat × List PV)→Plan} {p:PV} {wb:L},Res g (layP js k) p wb→∃ F,F.map (·.1)=js∧(∀ x∈F,∃ T,g (kb x.1)=some (.blk T x.2)∧jW x.2)∧Res g (k F) p wb
 | [],k,p,wb,h=>⟨[],rfl,(by simp),h⟩
 | j :: js,k,p,wb,h=>by
  obtain ⟨v,h1,h2⟩:=Res.look h
  cases v with
  | pv _=>exact (Res.fail h2).elim
  | blk T cs =>
   obtain ⟨h3,h4⟩:=Res.ob h2
   obtain ⟨F,h5,h6,h7⟩:=layP_ok h4
   refine ⟨(j,cs) :: F,by simp [h5],fun x hx=>?_,h7⟩
   rcases List.mem_cons.1 hx with rfl|hx
   ·exact ⟨T,h1,h3⟩
   ·exact h6 x hx
def callPL (P:Program) (F:List (Nat × List PV)) (id:Nat) (fv:PV) (an:Ans) (args:List PV):Plan:=match fv,an with
 | .av (.func (.func f) fs cs),.call ids bs H r H'=>qgf P f (fs.toList.map .av++(args.map (frzF1 F)).map cz++cs.toList.map .av) id ids bs H r H'
 | _,_=>.fail
def aCallL (P:Program) (fx:Operand) (xs:List Operand) (js:List Nat) (an:Ans) (id:Nat):Plan:=match vS js with
 | true=>layP js fun F=>opd fx fun fv=>opdl xs fun args=>(callPL P F id fv an args).avoid js
 | false=>.fail
theorem aCallL_ok {E:Env} {o:Oper} {id:Nat} {fx:Operand} {xs:Array Operand} {ts:Array TypeId} {js:List Nat} {an:Ans} (ho:o.op = .call { callee:=.value fx,args:=xs,argTypes:=ts }) (hd:∀ x,o.dst=some x→x<E.n):yy E o id (aCallL E.P fx xs.toList js an id):=by
 intro g p wb h nx c a K Q hn hI hK
 unfold aCallL at h
 split at h
 case h_2=>exact (Res.fail h).elim
 rename_i hnd
 obtain ⟨F,hF,hFb,h1⟩:=layP_ok h
 obtain ⟨q,hq,h2⟩:=Res.opd hI h1
 obtain ⟨ps,hps,h3⟩:=Res.opdl hI h2
 clear h h1 h2
 obtain ⟨wb',rfl,h4⟩:=Res.avoid h3
 obtain ⟨c1,e1,k1,i1,r1⟩:=inv_lays hI (by rw [hF];exact hnd) hFb
 rw [hF] at i1
 have hps':RL E.P c1 (ps.map (frzF1 F)) (xs.map a.eval):=by
  have e:(xs.toList.map a.eval).toArray=xs.map a.eval:=by apply Array.ext';simp
  rw [← e]
  refine ⟨by simpa using hps.1,fun i hi=>?_⟩
  have hi':i<ps.length:=by simpa using hi
  have:=r1 (hps.2 i hi')
  simpa [List.getD_eq_getElem?_getD,hi'] using this
 have key:∀ {f:FuncId} {fs cs:Array Value},a.eval fx = .func (.func f) fs cs→FnOk E.P f→(execOp a.eval o).run E.P c.w = .ok (.enter f (fs++xs.map a.eval++cs)) c.w:=by
  rintro f fs cs hv ⟨fn,h1,h2,h3⟩
  have h4:(callFunc f (fs++xs.map a.eval++cs)).run E.P c.w = .ok (.enter f (fs++xs.map a.eval++cs)) c.w:=by
   have h2':¬ fn.body=none:=fun e=>by rw [e] at h2;cases h2
   have h3' : ¬ fn.name = "runtime.NumGoroutine" := by simpa using h3
   simp [callFunc,h1,h3',h2']
  simp only [execOp,ho,resolve,hv,Deferred.ofValue,invoke,Sem.run_bind,Sem.run_pure,Result.andThen_ok]
  exact h4
 unfold callPL at h4
 split at h4
 ·rename_i f fs cs ids bs H r H'
  have e2:over (wb'++QW js) g=over wb' (over (QW js) g):=ZL _ _ _
  rw [e2] at hK
  have hfn:=key (zH hq)
  rw [← e1] at hfn ⊢
  exact WU hd hn i1 hK h4 (((QR fs).append hps'.czs).append (QR cs)) hfn
 ·exact (Res.fail h4).elim
theorem setCell_row {w:World} {b off:Nat} {cur:Array Value} {T:TypeId} {v:Value} (hb:w.heap[b]? = some (.cells cur T (0,0))) (ho:off<cur.size) :
  w.setCell ⟨b,off,none⟩ v=w.setRow b (cur.toList.take off++[v]++cur.toList.drop (off+[v].length)).toArray:=by
 unfold World.setCell World.setRow
 congr 1
 apply Array.ext_getElem?
 intro i
 rw [Array.getElem?_modify,Array.getElem?_modify]
 by_cases e:b=i
 ·subst e
  rw [if_pos rfl,if_pos rfl,hb]
  simp only [Option.map_some,Option.isSome_none,Bool.false_eq_true,if_false,Option.some.injEq,Obj.cells.injEq,and_true]
  apply Array.ext'
  rw [Array.toList_setIfInBounds,List.set_eq_take_append_cons_drop,if_pos (by simpa using ho)]
  simp
 ·rw [if_neg e,if_neg e]
def IsLoad (P : Program) (f : FuncId) (k : IntKind) : Prop := ∃ fn, P.funcs[f]? = some fn ∧ (fn.name == "runtime.NumGoroutine") = false ∧ fn.body.isNone = true ∧ Extern.findNext fn = none ∧ Extern.find fn = some (Extern.Atomic.loadT (.int k))
def IsStore (P : Program) (f : FuncId) : Prop := ∃ fn, P.funcs[f]? = some fn ∧ (fn.name == "runtime.NumGoroutine") = false ∧ fn.body.isNone = true ∧ Extern.findNext fn = none ∧ Extern.find fn = some Extern.Atomic.storeT
def IsBits (P : Program) (f : FuncId) : Prop := ∃ fn, P.funcs[f]? = some fn ∧ (fn.name == "runtime.NumGoroutine") = false ∧ fn.body.isNone = true ∧ Extern.findNext fn = none ∧ Extern.find fn = some Extern.MathFloatBits.float64bits
def IsFrom (P : Program) (f : FuncId) : Prop := ∃ fn, P.funcs[f]? = some fn ∧ (fn.name == "runtime.NumGoroutine") = false ∧ fn.body.isNone = true ∧ Extern.findNext fn = none ∧ Extern.find fn = some Extern.MathFloatBits.float64frombits
theorem qbf {P : Program} {w : World} {f : FuncId} {fn : Func} {e : Array Value → Sem Value} {args : Array Value} {v : Value} (hf : P.funcs[f]? = some fn) (hname : (fn.name == "runtime.NumGoroutine") = false) (hb : fn.body.isNone = true) (hn : Extern.findNext fn = none)
  (he:Extern.find fn=some e) (hr:(e args).run P w = .ok v w):(callFunc f args).run P w = .ok (.value v) w:=by
 rw [run_callFunc_extern hf hname hb hn he,hr]
 rfl
def aExtL (P:Program) (fx:Operand) (xs:List Operand):Plan:=match fx,xs with
 | .func f,[x]=>opd x fun p=>match p with
  | .av (.float .f64 b)=>.ob (IsBits P f) (.done (.av (.int .u64 b)) [])
  | .av (.int .u64 n)=>.ob (IsFrom P f) (.done (.av (.float .f64 n.toNat)) [])
  | .opt id off=>.look (kb id) fun v=>match v with
   | .blk _ cells=>match cells[off]? with
    | some (.av (.int k n))=>.ob (IsLoad P f k) (.done (.av (.int k n)) [])
    | _=>.fail
   | .pv _=>.fail
  | _=>.fail
 | _,_=>.fail
theorem aExtL_ok {E:Env} {o:Oper} {id:Nat} {fx:Operand} {xs:Array Operand} {ts:Array TypeId} (ho:o.op = .call { callee:=.value fx,args:=xs,argTypes:=ts }) (hd:∀ x,o.dst=some x→x<E.n):yy E o id (aExtL E.P fx xs.toList):=by
 intro g p wb h nx c a K Q hn hI hK
 unfold aExtL at h
 split at h
 case h_2=>exact (Res.fail h).elim
 rename_i f x hx
 obtain ⟨q,hq,h1⟩:=Res.opd hI h
 have hxs1:xs = #[x]:=by apply Array.ext';simpa using hx
 have ext : ∀ {v1 v : Value} {e : Array Value → Sem Value} {fn : Func}, q = .av v1 → E.P.funcs[f]? = some fn → (fn.name == "runtime.NumGoroutine") = false → fn.body.isNone = true → Extern.findNext fn = none → Extern.find fn = some e →
   (e #[v1]).run E.P c.w = .ok v c.w→p = .av v→wb=[]→o.wp E.P a c.w K Q:=by
  intro v1 v e fn e1 f1 f2 f3 f4 f5 hr ep ew
  subst e1;subst ep;subst ew
  refine qx hd hI hK (.sh (.av _)) ?_
  simp only [execOp,ho,resolve,Act.eval,Deferred.ofValue,invoke,Sem.run_bind,Sem.run_pure,Result.andThen_ok]
  rw [show (#[]++Array.map a.eval xs ++ #[]:Array Value) = #[v1] from by rw [hxs1];simp [zH hq]]
  exact qbf f1 f2 f3 f4 f5 hr
 split at h1
 case h_4=>exact (Res.fail h1).elim
 case h_1 =>
  obtain ⟨⟨fn,f1,f2,f3,f4,f5⟩,h3⟩:=Res.ob h1
  obtain ⟨e1,e2⟩:=Res.done h3
  exact ext rfl f1 f2 f3 f4 f5 rfl e1 e2
 case h_2 =>
  obtain ⟨⟨fn,f1,f2,f3,f4,f5⟩,h3⟩:=Res.ob h1
  obtain ⟨e1,e2⟩:=Res.done h3
  exact ext rfl f1 f2 f3 f4 f5 rfl e1 e2
 rename_i id' off
 obtain ⟨bv,hg,h2⟩:=Res.look h1
 cases bv with
 | pv _=>exact (Res.fail h2).elim
 | blk T cells =>
  simp only at h2
  split at h2
  case h_2=>exact (Res.fail h2).elim
  rename_i k n hcell
  obtain ⟨⟨fn,f1,f2,f3,f4,f5⟩,h3⟩:=Res.ob h2
  obtain ⟨rfl,rfl⟩:=Res.done h3
  obtain ⟨b,T2,hown,hv⟩:=wk hq
  obtain ⟨ob',hown',hone,hb⟩:=hI.blk id' T cells hg
  rw [hown] at hown'
  cases hown'
  have hlt:off<cells.length:=(List.getElem?_eq_some_iff.1 hcell).1
  rcases hb with ⟨hb,_⟩|⟨b',vs,hb1,hb2,hb3,hb4⟩
  ·cases hb
  obtain rfl:b'=b:=by simpa using hb1.symm
  have hc:=hb4 off hlt
  rw [List.getD_eq_getElem?_getD,hcell] at hc
  have hc:=zH hc
  have hcl:c.w.cell? ⟨b',off,none⟩=some (.int k n):=by
   rw [cell_of_row c.w _ _ vs _ _ hb2]
   have:off<vs.size:=by omega
   rw [Array.getD_eq_getD_getElem?] at hc
   cases hx:vs[off]? with
   | none=>rw [Array.getElem?_eq_none_iff] at hx;omega
   | some y=>rw [hx] at hc;simp only [Option.getD_some] at hc;rw [hc]
  refine qx hd hI hK (.sh (.av _)) ?_
  have hr:=run_call_load (P:=E.P) f1 f2 f3 f4 k f5 hcl
  have hxs:xs.map a.eval = #[.pointer (some ⟨b',off,none⟩)]:=by
   have:xs = #[x]:=by apply Array.ext';simpa using hx
   rw [this]
   simp [hv]
  simp only [execOp,ho,resolve,Act.eval,Deferred.ofValue,invoke,Sem.run_bind,Sem.run_pure,Result.andThen_ok]
  rw [show (#[]++Array.map a.eval xs ++ #[]:Array Value) = #[.pointer (some ⟨b',off,none⟩)] from by rw [hxs];rfl]
  exact hr
def ExtTo (P : Program) (f : FuncId) (ps : List PV) (v : Value) : Prop := ∃ fn e, ∃ vs : List Value, ps = vs.map PV.av ∧ P.funcs[f]? = some fn ∧ (fn.name == "runtime.NumGoroutine") = false ∧ fn.body.isNone = true ∧ Extern.findNext fn = none ∧ Extern.find fn = some e ∧ ∀ w, (e vs.toArray).run P w = .ok v w
def aExtV (P:Program) (fx:Operand) (xs:List Operand) (q:PV):Plan:=match fx,q with
 | .func f,.av v=>opdl xs fun ps=>.ob (ExtTo P f ps v) (.done (.av v) [])
 | _,_=>.fail
theorem rl_avs {P:Program} {c:Cx} {vs:List Value} {bs:Array Value} (h:RL P c (vs.map PV.av) bs):bs=vs.toArray:=by
 obtain ⟨h1,h2⟩:=h
 apply Array.ext (by simpa using h1)
 intro i hi hj
 have hi':i<vs.length:=by simpa using hj
 have h3:=h2 i (by simpa using hi')
 rw [show (vs.map PV.av).getD i P0 = .av vs[i] from by simp [List.getD_eq_getElem?_getD,hi']] at h3
 have h4:=zH h3
 rw [Array.getD_eq_getD_getElem?,Array.getElem?_eq_getElem hi] at h4
 simpa using h4
theorem aExtV_ok {E:Env} {o:Oper} {id:Nat} {fx:Operand} {xs:Array Operand} {ts:Array TypeId} {q:PV} (ho:o.op = .call { callee:=.value fx,args:=xs,argTypes:=ts }) (hd:∀ x,o.dst=some x→x<E.n):yy E o id (aExtV E.P fx xs.toList q):=by
 intro g p wb h nx c a K Q hn hI hK
 unfold aExtV at h
 split at h
 case h_2=>exact (Res.fail h).elim
 rename_i f v
 obtain ⟨ps,hps,h1⟩:=Res.opdl hI h
 obtain ⟨⟨fn,e,vs,rfl,f1,f2,f3,f4,f5,hr⟩,h3⟩:=Res.ob h1
 obtain ⟨rfl,rfl⟩:=Res.done h3
 have e1:xs.map a.eval=vs.toArray:=by
  have e:(xs.toList.map a.eval).toArray=xs.map a.eval:=by apply Array.ext';simp
  rw [← e];exact rl_avs hps
 refine qx hd hI hK (.sh (.av _)) ?_
 simp only [execOp,ho,resolve,Act.eval,Deferred.ofValue,invoke,Sem.run_bind,Sem.run_pure,Result.andThen_ok]
 rw [show (#[]++Array.map a.eval xs ++ #[]:Array Value)=vs.toArray from by rw [e1];simp]
 exact qbf f1 f2 f3 f4 f5 (hr _)
def aExtS (P:Program) (fx:Operand) (xs:List Operand):Plan:=match fx,xs with
 | .func f,[x,y]=>opd x fun p=>opd y fun q=>match p,q with
  | .opt id off,.av (.int k n)=>.look (kb id) fun v=>match v with
   | .blk B cells=>.ob (IsStore P f) (qit id B cells off [.av (.int k n)] (.av (.tuple #[])) .no)
   | .pv _=>.fail
  | _,_=>.fail
 | _,_=>.fail
theorem aExtS_ok {E:Env} {o:Oper} {id:Nat} {fx:Operand} {xs:Array Operand} {ts:Array TypeId} (ho:o.op = .call { callee:=.value fx,args:=xs,argTypes:=ts }) (hd:∀ x,o.dst=some x→x<E.n):yy E o id (aExtS E.P fx xs.toList):=by
 intro g p wb h nx c a K Q hn hI hK
 unfold aExtS at h
 split at h
 case h_2=>exact (Res.fail h).elim
 rename_i f x y hx
 obtain ⟨q1,hq1,h1⟩:=Res.opd hI h
 obtain ⟨q2,hq2,h2⟩:=Res.opd hI h1
 split at h2
 case h_2=>exact (Res.fail h2).elim
 rename_i id1 off k n
 obtain ⟨bv,hg,h3⟩:=Res.look h2
 cases bv with
 | pv _=>exact (Res.fail h3).elim
 | blk B cells =>
  simp only at h3
  obtain ⟨⟨fn,f1,f2,f3,f4,f5⟩,h4⟩:=Res.ob h3
  obtain ⟨hone,hl,rfl,rfl⟩:=qgz h4
  obtain ⟨b,T2,hown,hv⟩:=wk hq1
  obtain ⟨ob',hown',hone2,hb⟩:=hI.blk id1 B cells hg
  have eT:T2=B:=by rw [hown] at hown';cases hown';rfl
  subst eT
  have hv2:=zH hq2
  have hrl:RL E.P c [.av (.int k n)] [Value.int k n].toArray:=⟨rfl,fun i hi=>by
   have:i=0:=by simp at hi;omega
   subst this
   exact .sh (.av _)⟩
  obtain ⟨cur,hc1,hc2,hKK⟩:=qae (id:=id) (vs:=[Value.int k n]) (v:=.tuple #[]) hd hI hg hown hone hl hrl hK fun _=>.sh (.av _)
  have hlt:off<cur.size:=by simp only [List.length_cons,List.length_nil] at hc2;omega
  rw [← setCell_row hc1 hlt] at hKK
  have hcl:c.w.cell? ⟨b,off,none⟩=some cur[off]:=by
   rw [cell_of_row c.w _ _ cur _ _ hc1]
   simp [hlt]
  have hfr:c.w.frozen? ⟨b,off,none⟩=false:=by simp [World.frozen?,hc1]
  refine YD ?_ hKK
  have hr:=run_call_store (P:=E.P) f1 f2 f3 f4 f5 (k:=k) (y:=n) hcl hfr
  have hxs:xs.map a.eval = #[.pointer (some ⟨b,off,none⟩),.int k n]:=by
   have:xs = #[x,y]:=by apply Array.ext';simpa using hx
   rw [this]
   simp [hv,hv2]
  simp only [execOp,ho,resolve,Act.eval,Deferred.ofValue,invoke,Sem.run_bind,Sem.run_pure,Result.andThen_ok]
  rw [show (#[]++Array.map a.eval xs ++ #[]:Array Value) = #[.pointer (some ⟨b,off,none⟩),.int k n] from by rw [hxs];rfl]
  exact hr

/-! ### calls that leave what was lent as it is -/
theorem Res.mk_ob {g:St} {q:Prop} {r:Plan} {p:PV} {wb:L} (hq:q) (h:Res g r p wb):Res g (.ob q r) p wb:=by
 obtain ⟨o,h1,h2,h3,h4⟩:=h
 exact ⟨{ o with obs:=q :: o.obs },by simp only [run];rw [h1],h2,h3,fun x hx=>by
  simp only [List.mem_cons] at hx
  rcases hx with rfl|hx
  ·exact hq
  ·exact h4 x hx⟩
theorem Res.mk_look {g:St} {k:Nat} {f:Val→Plan} {v:Val} {p:PV} {wb:L} (hv:g k=some v) (h:Res g (f v) p wb):Res g (.look k f) p wb:=by
 obtain ⟨o,h1,h2,h3,h4⟩:=h
 exact ⟨{ o with reads:=k :: o.reads },by simp only [run];rw [hv];simp only;rw [h1],h2,h3,h4⟩
theorem Res.mk_done {g:St} {p:PV} {wb:L}:Res g (.done p wb) p wb:=⟨⟨p,wb,[],[]⟩,rfl,rfl,rfl,fun _ hq=>by cases hq⟩
theorem qhp {g:St} {σ:Nat→Nat} {k k':Plan} {p p':PV} {wb wb':L}:∀ {ids:List Nat} {H:Hp},Res g (qft σ ids H k) p wb→Res g k' p' wb'→Res g (qft σ ids H k') p' wb'
 | [],[],_,h'=>h'
 | id :: ids,some (T,cs) :: H,h,h'=>by
  obtain ⟨v,h1,h2⟩:=Res.look h
  refine Res.mk_look h1 ?_
  cases v with
  | pv _=>exact (Res.fail h2).elim
  | blk T' cs' =>
   simp only at h2 ⊢
   split at h2
   ·rename_i hT
    obtain ⟨h3,h4⟩:=Res.ob h2
    exact Res.mk_ob h3 (qhp h4 h')
   ·exact (Res.fail h2).elim
 | [],some _ :: _,h,_=>(Res.fail h).elim
 | [],none :: _,h,_=>(Res.fail h).elim
 | _ :: _,[],h,_=>(Res.fail h).elim
 | _ :: _,none :: _,h,_=>(Res.fail h).elim
theorem qhj {σ:Nat→Nat} {g:St}:∀ {H:Hp} {n:Nat},(∀ i,i<H.length→∃ T cs,H.getD i none=some (T,cs)∧g (kb (σ (n+i)))=some (.blk T (qN σ cs)))→over (QU σ n H) g=g
 | [],n,_=>rfl
 | x :: H,n,h=>by
  have ih:=qhj (σ:=σ) (g:=g) (H:=H) (n:=n+1) fun i hi=>by
   obtain ⟨T,cs,h1,h2⟩:=h (i+1) (by simpa using hi)
   exact ⟨T,cs,by simpa using h1,by rw [show n+1+i=n+(i+1) by omega];exact h2⟩
  obtain ⟨T,cs,h1,h2⟩:=h 0 (by simp)
  have h1:x=some (T,cs):=by simpa using h1
  subst h1
  funext k
  have ihk:=congrFun ih k
  simp only [over,QU,lk] at ihk ⊢
  by_cases e:Nat.beq k (kb (σ n))=true
  ·rw [if_pos e]
   rw [Nat.eq_of_beq_eq_true e]
   rw [Nat.add_zero] at h2
   exact h2.symm
  ·rw [if_neg e]
   exact ihk
def callRP (P:Program) (f:FuncId) (args:List PV) (id:Nat) (ids:List Nat) (bs:List PV) (H:Hp) (r:PV):Plan :=
 match Nat.ble H.length (ids.length+8),vS ids with
 | true,true=>.ob (PC P f bs H r H) (.ob (args=qN (qZ ids id) bs) (qft (qZ ids id) ids H (qft (yI ids id) ids H (.done (ren (yI ids id) r) []))))
 | _,_=>.fail
theorem callR_call {P:Program} {f:FuncId} {args:List PV} {id:Nat} {ids:List Nat} {bs:List PV} {H:Hp} {r:PV} {g:St} {p:PV} {wb:L} (h:Res g (callRP P f args id ids bs H r) p wb) :
  wb=[]∧∃ wb',Res g (qgf P f args id ids bs H r H) p wb'∧over wb' g=g:=by
 unfold callRP at h
 split at h
 case h_2=>exact (Res.fail h).elim
 rename_i hb1 hb2
 obtain ⟨hpc,h1⟩:=Res.ob h
 obtain ⟨hargs,h2⟩:=Res.ob h1
 obtain ⟨hlen,h3,_⟩:=qdu h2
 obtain ⟨_,h4,hl⟩:=qdu h3
 obtain ⟨rfl,rfl⟩:=Res.done h4
 refine ⟨rfl,QU (yI ids id) 0 H,?_,qhj fun i hi=>?_⟩
 ·unfold qgf
  rw [hb1,hb2]
  exact Res.mk_ob hpc (Res.mk_ob hargs (qhp h2 Res.mk_done))
 ·obtain ⟨T,cs,h5,h6⟩:=hl i (by omega)
  refine ⟨T,cs,h5,?_⟩
  rw [Nat.zero_add]
  have:yI ids id i=ids.getD i 0:=by
   unfold yI
   rw [if_pos (by rw [Nat.blt_eq];omega)]
   simp [List.getD_eq_getElem?_getD,show i<ids.length by omega]
  rw [this]
  exact h6
def callRL (P:Program) (id:Nat) (fv:PV) (ids:List Nat) (bs:List PV) (H:Hp) (r:PV) (args:List PV):Plan:=match fv with
 | .av (.func (.func f) fs cs)=>callRP P f (fs.toList.map .av++args.map cz++cs.toList.map .av) id ids bs H r
 | _=>.fail
def aCallR (P:Program) (fx:Operand) (xs:List Operand) (ids:List Nat) (bs:List PV) (H:Hp) (r:PV) (id:Nat):Plan:=opd fx fun fv=>opdl xs fun args=>callRL P id fv ids bs H r args
theorem aCallR_ok {E:Env} {o:Oper} {id:Nat} {fx:Operand} {xs:Array Operand} {ts:Array TypeId} {ids:List Nat} {bs:List PV} {H:Hp} {r:PV} (ho:o.op = .call { callee:=.value fx,args:=xs,argTypes:=ts }) (hd:∀ x,o.dst=some x→x<E.n):yy E o id (aCallR E.P fx xs.toList ids bs H r id):=by
 intro g p wb h nx c a K Q hn hI hK
 obtain ⟨q,hq,h1⟩:=Res.opd hI h
 obtain ⟨ps,hps,h2⟩:=Res.opdl hI h1
 clear h h1
 have hps':RL E.P c ps (xs.map a.eval):=by
  have e:(xs.toList.map a.eval).toArray=xs.map a.eval:=by apply Array.ext';simp
  rw [← e];exact hps
 have key:∀ {f:FuncId} {fs cs:Array Value},a.eval fx = .func (.func f) fs cs→FnOk E.P f→(execOp a.eval o).run E.P c.w = .ok (.enter f (fs++xs.map a.eval++cs)) c.w:=by
  rintro f fs cs hv ⟨fn,h1,h2,h3⟩
  have h4:(callFunc f (fs++xs.map a.eval++cs)).run E.P c.w = .ok (.enter f (fs++xs.map a.eval++cs)) c.w:=by
   have h2':¬ fn.body=none:=fun e=>by rw [e] at h2;cases h2
   have h3' : ¬ fn.name = "runtime.NumGoroutine" := by simpa using h3
   simp [callFunc,h1,h3',h2']
  simp only [execOp,ho,resolve,hv,Deferred.ofValue,invoke,Sem.run_bind,Sem.run_pure,Result.andThen_ok]
  exact h4
 unfold callRL at h2
 split at h2
 ·rename_i f fs cs
  obtain ⟨rfl,wb',h3,h4⟩:=callR_call h2
  refine WU hd hn hI (fun c' a' hh=>hK c' a' ?_) h3 (((QR fs).append hps'.czs).append (QR cs)) (key (zH hq))
  rw [h4] at hh
  exact hh
 ·exact (Res.fail h2).elim
def ZN (t:ByteArray):List PV:=t.data.toList.map fun x=>.av (.int .u8 (x.toNat:Int))
theorem qel (t:ByteArray):strOfNums (t.data.toList.map fun x=>(x.toNat:Int))=t:=by
 have h:((t.data.toList.map fun x=>(x.toNat:Int)).map fun n=>UInt8.ofNat n.toNat)=t.data.toList:=by
  rw [List.map_map]
  refine (List.map_congr_left fun x _=>?_).trans (List.map_id _)
  simp
 unfold strOfNums
 rw [h]
def aConvB (P:Program) (s d:TypeId) (x:Operand) (an:Ans):Plan:=match P.underlying s with
 | some (.slice e)=>match P.underlying e,P.underlying d,an with
  | some (.int .u8),some .string,.val (.av (.string t))=>opd x fun p=>match p with
   | .ssl cs off n=>.ob (0<n∧off+n≤cs.length∧(cs.drop off).take n=ZN t) (.done (.av (.string t)) [])
   | .osl id off n=>.look (kb id) fun v=>match v with
    | .blk _ cs=>.ob (0<n∧off+n≤cs.length∧(cs.drop off).take n=ZN t) (.done (.av (.string t)) [])
    | .pv _=>.fail
   | _=>.fail
  | _,_,_=>.fail
 | us=>aConv us (P.underlying d) x an
theorem qib {P:Program} {c:Cx} {s e d:TypeId} {t:ByteArray} (hus:P.underlying s=some (.slice e)) (hue:P.underlying e=some (.int .u8)) (hud:P.underlying d=some .string) {cs:List PV} {off n b a' cap:Nat} {vf:Nat→Value}
  (h2:off+n≤cs.length) (h3:(cs.drop off).take n=ZN t) (hc:∀ j,j<cs.length→c.w.cell? ⟨b,a'+j,none⟩=some (vf j)) (hr:∀ j,j<cs.length→Rep P c (cs.getD j P0) (vf j)) :
  (convert s d (.slice (some ⟨b,a'+off,none⟩) n cap)).run P c.w = .ok (.string t) c.w:=by
 obtain ⟨h5,h6⟩:=ZC h2 h3
 have hlen:(t.data.toList.map fun x=>(x.toNat:Int)).length=n:=by rw [← h5];simp [ZN]
 have hcell:∀ i,i<n→c.w.cell? ⟨b,a'+off+i,none⟩=some (.int .u8 ((t.data.toList.map fun x=>(x.toNat:Int)).getD i 0)):=fun i hi=>by
  have h7:=hr (off+i) (by omega)
  rw [← h6 i hi] at h7
  have hi':i<t.data.toList.length:=by rw [List.length_map] at hlen;omega
  have h8:(ZN t).getD i P0 = .av (.int .u8 ((t.data.toList.map fun x=>(x.toNat:Int)).getD i 0)):=by
   unfold ZN
   rw [List.getD_eq_getElem?_getD,List.getElem?_map,List.getD_eq_getElem?_getD,List.getElem?_map,List.getElem?_eq_getElem hi']
   rfl
  rw [h8] at h7
  rw [Nat.add_assoc,hc (off+i) (by omega),zH h7]
 have hrun:=run_convert_bytes_arg (P:=P) c.w s e hus hue b (a'+off) n cap _ hlen hcell d hud
 rw [qel] at hrun
 exact hrun
theorem aConvB_ok {E:Env} {o:Oper} {id:Nat} {s d:TypeId} {x:Operand} {an:Ans} (ho:o.op = .convert s d x) (hd:∀ x,o.dst=some x→x<E.n):yy E o id (aConvB E.P s d x an):=by
 unfold aConvB
 split
 ·rename_i e hus
  split
  ·rename_i t hue hud
   intro g p wb h nx c a K Q hn hI hK
   obtain ⟨q,hq,h1⟩:=Res.opd hI h
   clear h
   split at h1
   ·rename_i cs off n
    obtain ⟨⟨h0,h2,h3⟩,h4⟩:=Res.ob h1
    obtain ⟨rfl,rfl⟩:=Res.done h4
    rcases YB hq with ⟨ad,cap,hv,rfl⟩|⟨b,a',cap,vf,hv,hS,hc,hr,hone,hl⟩
    ·omega
    ·have hrun:=qib (cap:=cap) hus hue hud h2 h3 hc fun j hj=>.sh (hr j hj)
     refine qx hd hI hK (.sh (.av _)) ?_
     simp [execOp,ho,hv,hrun]
   ·rename_i id' off n
    obtain ⟨bv,hg,h4⟩:=Res.look h1
    cases bv with
    | pv _=>exact (Res.fail h4).elim
    | blk T' cs =>
     simp only at h4
     obtain ⟨⟨h0,h2,h3⟩,h5⟩:=Res.ob h4
     obtain ⟨rfl,rfl⟩:=Res.done h5
     obtain ⟨ob,T2,hown,hv⟩:=jy hq
     obtain ⟨ob',hown',hone,hb⟩:=hI.blk id' T' cs hg
     rw [hown] at hown'
     cases hown'
     rcases hv with ⟨ad,hv,hn⟩|⟨b,cap,cs2,hob,hv,⟨z4,hb2⟩,hl,hsz2⟩
     ·omega
     ·rcases hb with ⟨hb,_⟩|⟨b',vs,hb1,hb3,hb4,hb5⟩
      ·rw [hob] at hb;cases hb
      ·obtain rfl:b'=b:=by rw [hob] at hb1;simpa using hb1.symm
       have hrun:=qib (cap:=cap) (a':=0) (vf:=fun j=>vs.getD j undef) hus hue hud h2 h3 (fun j hj=>by
        have:j<vs.size:=by omega
        rw [cell_of_row c.w _ _ vs _ _ hb3]
        simp [Array.getD_eq_getD_getElem?,this]) hb5
       rw [Nat.zero_add] at hrun
       refine qx hd hI hK (.sh (.av _)) ?_
       simp [execOp,ho,hv,hrun]
   ·exact (Res.fail h1).elim
  ·intro g p wb h nx c a K Q hn hI hK
   exact (Res.fail h).elim
 ·exact aConv_ok ho hd
def qdl:PV→Option Value
 | .av v=>some v
 | _=>none
def qkd:List PV→Option (List Value)
 | []=>some []
 | p :: l=>match qdl p,qkd l with | some v,some r=>some (v :: r) | _,_=>none
def Yv:PV→Option Value
 | .agg cs=>match qkd cs with | some l=>some (.agg l.toArray) | none=>none
 | p=>qdl p
def YQ:List PV→Option (List Value)
 | []=>some []
 | p :: l=>match Yv p,YQ l with | some v,some r=>some (v :: r) | _,_=>none
def qhy:PV→Option Value
 | .tup cs=>match YQ cs with | some l=>some (.tuple l.toArray) | none=>none
 | p=>Yv p
theorem flat1_to {P:Program} {c:Cx} {p:PV} {v u:Value} (h:qdl p=some u) (hr:Rep P c p v):v=u:=by
 cases p <;> simp [qdl] at h
 subst h
 exact zH hr
theorem flat1_of {w:World} {S:Nat→Prop} {p:PV} {u:Value} (h:qdl p=some u):SRep w S p u:=by
 cases p <;> simp [qdl] at h
 subst h
 exact .av _
theorem Vq {P:Program} {c:Cx} {f:PV→Option Value} {fs:List PV→Option (List Value)} (h0:fs []=some []) (hc:∀ p l,fs (p :: l)=match f p,fs l with|some v,some r=>some (v :: r)|_,_=>none)
  (hf:∀ p v u,f p=some u→Rep P c p v→v=u):∀ {l:List PV} {us:List Value} {vs:Array Value},fs l=some us→RL P c l vs→vs=us.toArray
 | [],us,vs,h,hr=>by
  rw [h0] at h
  cases h
  exact Array.eq_empty_of_size_eq_zero hr.1
 | p :: l,us,vs,h,hr=>by
  rw [hc] at h
  split at h
  case h_2=>cases h
  rename_i v r h1 h2
  cases h
  have hs:=hr.1
  simp only [List.length_cons] at hs
  have e0:vs.getD 0 undef=v:=hf p _ _ h1 (by simpa using hr.2 0 (by simp))
  have ht:RL P c l (vs.toList.tail).toArray:=by
   refine ⟨by simp [hs],fun i hi=>?_⟩
   have:=hr.2 (i+1) (by simp;omega)
   have e:((vs.toList.tail).toArray).getD i undef=vs.getD (i+1) undef:=by
    simp only [Array.getD_eq_getD_getElem?,List.getElem?_toArray,List.getElem?_tail,Array.getElem?_toList]
   rw [e]
   simpa using this
  have ih:=Vq h0 hc hf h2 ht
  have h3:vs.toList.tail=r:=by simpa using ih
  apply Array.ext'
  cases hv:vs.toList with
  | nil =>
   have:vs.size=0:=by rw [← Array.length_toList,hv];rfl
   omega
  | cons a b =>
   rw [hv] at h3
   have:vs.getD 0 undef=a:=by
    rw [Array.getD_eq_getD_getElem?,← Array.getElem?_toList,hv]
    rfl
   rw [← e0,this]
   simpa using h3
theorem qbz {w:World} {S:Nat→Prop} {f:PV→Option Value} {fs:List PV→Option (List Value)} (h0:fs []=some []) (hc:∀ p l,fs (p :: l)=match f p,fs l with|some v,some r=>some (v :: r)|_,_=>none)
  (hf:∀ p u,f p=some u→SRep w S p u):∀ {l:List PV} {us:List Value},fs l=some us→us.length=l.length∧∀ i,i<l.length→SRep w S (l.getD i P0) (us.getD i undef)
 | [],us,h=>by
  rw [h0] at h
  cases h
  exact ⟨rfl,fun i hi=>by simp at hi⟩
 | p :: l,us,h=>by
  rw [hc] at h
  split at h
  case h_2=>cases h
  rename_i v r h1 h2
  cases h
  obtain ⟨h3,h4⟩:=qbz h0 hc hf h2
  refine ⟨by simp [h3],fun i hi=>?_⟩
  cases i with
  | zero=>exact hf p v h1
  | succ i=>simpa using h4 i (by simpa using hi)
theorem qgk (us:List Value) (i:Nat):us.toArray.getD i undef=us.getD i undef:=by simp [Array.getD_eq_getD_getElem?,List.getD_eq_getElem?_getD]
theorem Vz {P:Program} {c:Cx} {p:PV} {v u:Value} (h:Yv p=some u) (hr:Rep P c p v):v=u:=by
 unfold Yv at h
 split at h
 ·split at h
  case h_2=>cases h
  rename_i cs l hl
  cases h
  obtain ⟨vs,rfl,h1,h2⟩:=ZJ hr
  rw [Vq (f:=qdl) (fs:=qkd) rfl (fun _ _=>rfl) (fun _ _ _ h k=>flat1_to h k) hl ⟨h1,h2⟩]
 ·exact flat1_to h hr
theorem qfz {w:World} {S:Nat→Prop} {p:PV} {u:Value} (h:Yv p=some u):SRep w S p u:=by
 unfold Yv at h
 split at h
 ·split at h
  case h_2=>cases h
  rename_i cs l hl
  cases h
  obtain ⟨h1,h2⟩:=qbz (w:=w) (S:=S) (f:=qdl) (fs:=qkd) rfl (fun _ _=>rfl) (fun _ _ h=>flat1_of h) hl
  exact .agg (by simpa using h1) fun i hi=>by rw [qgk];exact h2 i hi
 ·exact flat1_of h
theorem flat3_of {w:World} {S:Nat→Prop} {p:PV} {u:Value} (h:qhy p=some u):SRep w S p u:=by
 unfold qhy at h
 split at h
 ·split at h
  case h_2=>cases h
  rename_i cs l hl
  cases h
  obtain ⟨h1,h2⟩:=qbz (w:=w) (S:=S) (f:=Yv) (fs:=YQ) rfl (fun _ _=>rfl) (fun _ _ h=>qfz h) hl
  exact .tup (by simpa using h1) fun i hi=>by rw [qgk];exact h2 i hi
 ·exact qfz h
/-! ### interfaces -/
def aIface (u:Option TypeDesc) (T:TypeId) (x:Operand):Plan:=opd x fun p=>match u,Yv p with
 | some (.interface _),_=>.fail
 | some _,some v=>.done (.av (.iface T v)) []
 | _,_=>.fail
theorem aIface_ok {E:Env} {o:Oper} {id:Nat} {T:TypeId} {x:Operand} (ho:o.op = .makeInterface T x) (hd:∀ x,o.dst=some x→x<E.n):yy E o id (aIface (E.P.underlying T) T x):=by
 intro g p wb h nx c a K Q hn hI hK
 obtain ⟨q,hq,h1⟩:=Res.opd hI h
 generalize hu:E.P.underlying T=u at h1
 split at h1
 ·exact (Res.fail h1).elim
 ·rename_i d v hnu hf
  obtain ⟨rfl,rfl⟩:=Res.done h1
  refine qx hd hI hK (.sh (.av _)) ?_
  have e:=Vz hf hq
  have hu':(underlying T).run E.P c.w = .ok d c.w:=run_underlying hu c.w
  cases d <;> first|(simp [execOp,ho,Instr.makeInterface,hu',e];done)|exact absurd rfl (hnu _)
 ·exact (Res.fail h1).elim
def aEqI (u:Option TypeDesc) (ng:Bool) (x y:Operand):Plan:=match y with
 | .const .nilIface=>opd x fun p=>match u,p with
  | some (.interface _),.err=>bit ng
  | some (.interface _),.av (.iface _ _)=>bit ng
  | some (.interface _),.av .nilIface=>bit (!ng)
  | _,_=>.fail
 | _=>.fail
def nilB:Value→Bool | .nilIface=>true|_=>false
theorem qet {P:Program} (w:World) (d:Nat) {T:TypeId} {ms:Array (String × TypeId)} (hu:P.underlying T=some (.interface ms)) {x:Value} (hx:x = .nilIface∨∃ t u,x = .iface t u):(Op.equalIn (d+1) T x .nilIface).run P w = .ok (nilB x) w:=by
 rw [Op.equalIn]
 simp only [Sem.run_bind,run_underlying hu,Result.andThen_ok]
 rcases hx with rfl|⟨t,u,rfl⟩ <;> rfl
theorem run_eq_if {P:Program} (w:World) {T:TypeId} {ms:Array (String × TypeId)} (hu:P.underlying T=some (.interface ms)) (ng:Bool) {x:Value} (hx:x = .nilIface∨∃ t u,x = .iface t u):(binOp (match ng with|true=>.neq|false=>.eql) T x .nilIface).run P w = .ok (.bool (ngB ng (nilB x))) w:=by
 have h0:=qet w 9999 hu hx
 rcases hx with rfl|⟨t,u,rfl⟩
 ·cases ng with
  | false =>
   show (do pure (.bool (← Op.equal T .nilIface .nilIface)):Sem Value).run P w=_
   simp only [Op.equal,show Op.maxDepth=9999+1 from rfl,Sem.run_bind,h0,Result.andThen_ok]
   rfl
  | true =>
   show (do pure (.bool (!(← Op.equal T .nilIface .nilIface))):Sem Value).run P w=_
   simp only [Op.equal,show Op.maxDepth=9999+1 from rfl,Sem.run_bind,h0,Result.andThen_ok]
   rfl
 ·cases ng with
  | false =>
   show (do pure (.bool (← Op.equal T (.iface t u) .nilIface)):Sem Value).run P w=_
   simp only [Op.equal,show Op.maxDepth=9999+1 from rfl,Sem.run_bind,h0,Result.andThen_ok]
   rfl
  | true =>
   show (do pure (.bool (!(← Op.equal T (.iface t u) .nilIface))):Sem Value).run P w=_
   simp only [Op.equal,show Op.maxDepth=9999+1 from rfl,Sem.run_bind,h0,Result.andThen_ok]
   rfl
theorem aEqI_ok {E:Env} {o:Oper} {id:Nat} {ng:Bool} {T U:TypeId} {x y:Operand} (ho:o.op = .binOp (match ng with|true=>.neq|false=>.eql) T x y U) (hd:∀ x,o.dst=some x→x<E.n):yy E o id (aEqI (E.P.underlying T) ng x y):=by
 intro g p wb h nx c a K Q hn hI hK
 unfold aEqI at h
 split at h
 case h_2=>exact (Res.fail h).elim
 obtain ⟨q,hq,h2⟩:=Res.opd hI h
 clear h
 have hy:a.eval (.const .nilIface) = .nilIface:=rfl
 have key:∀ {ms:Array (String × TypeId)} {v:Value} {b:Bool},E.P.underlying T=some (.interface ms)→a.eval x=v→(v = .nilIface∨∃ t u,v = .iface t u)→Res g (bit b) p wb→b=ngB ng (nilB v)→o.wp E.P a c.w K Q:=by
  intro ms v b hu hx hv hb he
  obtain ⟨rfl,rfl⟩:=Res.done hb
  subst he
  refine qx hd hI hK (.sh (.av _)) ?_
  have h3:=run_eq_if c.w hu ng hv
  have h4:∀ op:BinOp,(eqGuard op T x (.const .nilIface) v .nilIface).run E.P c.w = .ok () c.w:=fun op=>by rcases hv with rfl|⟨t,u,rfl⟩ <;> cases op <;> simp [eqGuard]
  cases ng with
  | true=>simp only at h3 ho;simp [execOp,ho,hx,hy,h4,h3]
  | false=>simp only at h3 ho;simp [execOp,ho,hx,hy,h4,h3]
 generalize hu:E.P.underlying T=u at h2
 split at h2
 ·obtain ⟨t,u,hv⟩:=rep_err hq
  exact key hu hv (.inr ⟨t,u,rfl⟩) h2 (by cases ng <;> rfl)
 ·exact key hu (zH hq) (.inr ⟨_,_,rfl⟩) h2 (by cases ng <;> rfl)
 ·exact key hu (zH hq) (.inl rfl) h2 (by cases ng <;> rfl)
 ·exact (Res.fail h2).elim
def aAssert (u:Option TypeDesc) (x:Operand) (T:TypeId):Plan:=opd x fun p=>match u,p with
 | some (.interface _),_=>.fail
 | some _,.av (.iface t v)=>match Nat.beq t T with | true=>.done (.tup [.av v,.av (.bool true)]) [] | false=>.fail
 | _,_=>.fail
theorem aAssert_ok {E:Env} {o:Oper} {id:Nat} {S T:TypeId} {x:Operand} (ho:o.op = .typeAssert x S T true) (hd:∀ x,o.dst=some x→x<E.n):yy E o id (aAssert (E.P.underlying T) x T):=by
 intro g p wb h nx c a K Q hn hI hK
 obtain ⟨q,hq,h1⟩:=Res.opd hI h
 generalize hu:E.P.underlying T=u at h1
 split at h1
 ·exact (Res.fail h1).elim
 ·rename_i d t v hnu
  split at h1
  ·rename_i ht
   have ht:=Nat.eq_of_beq_eq_true ht
   obtain ⟨rfl,rfl⟩:=Res.done h1
   have hx:=zH hq
   have hu':(underlying T).run E.P c.w = .ok d c.w:=run_underlying hu c.w
   refine qx (v:=.tuple #[v,.bool true]) hd hI hK (.sh (.tup rfl fun i hi=>?_)) ?_
   ·match i,hi with
    | 0,_=>exact .av _
    | 1,_=>exact .av _
   ·cases d <;> first|(simp [execOp,ho,Instr.typeAssert,hu',hx,ht];done)|exact absurd rfl (hnu _)
  ·exact (Res.fail h1).elim
 ·exact (Res.fail h1).elim
def czr:PV→PV
 | .ssl cs off len=>.ssl (cs.map cz1) off len
 | p=>p
theorem srep_cz1 {w:World} {S:Nat→Prop} {p:PV} {v:Value} (h:SRep w S p v):SRep w S (cz1 p) v:=by
 unfold cz1
 split
 ·cases h
  exact .emp
 ·exact h
theorem one_cz1 {p:PV} (h:p.one=true):(cz1 p).one=true:=by
 unfold cz1
 split
 ·rfl
 ·exact h
theorem srep_czr {w:World} {S:Nat→Prop} {p:PV} {v:Value} (h:SRep w S p v):SRep w S (czr p) v:=by
 unfold czr
 split
 ·rename_i cs off len
  cases h with
  | emp=>exact .emp
  | ssl hS hc h ho hl =>
   refine .ssl hS (fun j hj=>hc j (by simpa using hj)) (fun j hj=>?_) (fun q hq=>?_) hl
   ·have hj':j<cs.length:=by simpa using hj
    have:=srep_cz1 (h j hj')
    simpa [List.getD_eq_getElem?_getD,hj'] using this
   ·obtain ⟨q0,h1,rfl⟩:=List.mem_map.1 hq
    exact one_cz1 (ho q0 h1)
 ·exact h
theorem rep_czr {P:Program} {c:Cx} {p:PV} {v:Value} (h:Rep P c p v):Rep P c (czr p) v:=by
 cases p with
 | ssl cs off len =>
  cases h with
  | sh h=>exact .sh (srep_czr h)
 | _=>exact h
def Plan.settle (id:Nat):Plan→Plan
 | .fail=>.fail
 | .look k f=>.look k fun v=>(f v).settle id
 | .ob p q=>.ob p (q.settle id)
 | .done pv wb=>match lk (kb id) wb with
  | some (some (.blk _ cs))=>.ob (jW cs) (.done (czr (frz id cs pv)) ((kb id,none) :: wb))
  | _=>.fail
theorem Res.settle {id:Nat} {g:St}:∀ {pl:Plan} {p:PV} {wb:L},Res g (pl.settle id) p wb→∃ p0 wb0 T cs,Res g pl p0 wb0∧lk (kb id) wb0=some (some (.blk T cs))∧jW cs∧p=czr (frz id cs p0)∧wb=(kb id,none) :: wb0
 | .fail,p,wb,h=>(Res.fail h).elim
 | .look k f,p,wb,h=>by
  obtain ⟨v,h1,h2⟩:=Res.look h
  obtain ⟨p0,wb0,T,cs,⟨o,h3,h4,h5,h6⟩,h7⟩:=Res.settle h2
  refine ⟨p0,wb0,T,cs,⟨{ o with reads:=k :: o.reads },?_,h4,h5,h6⟩,h7⟩
  simp only [run,h1,h3]
 | .ob q r,p,wb,h=>by
  obtain ⟨h1,h2⟩:=Res.ob h
  obtain ⟨p0,wb0,T,cs,⟨o,h3,h4,h5,h6⟩,h7⟩:=Res.settle h2
  refine ⟨p0,wb0,T,cs,⟨{ o with obs:=q :: o.obs },?_,h4,h5,fun x hx=>?_⟩,h7⟩
  ·simp only [run,h3]
  ·simp only [List.mem_cons] at hx
   rcases hx with rfl|hx
   ·exact h1
   ·exact h6 x hx
 | .done pv w,p,wb,h=>by
  simp only [Plan.settle] at h
  split at h
  ·rename_i T cs hl
   obtain ⟨h1,h2⟩:=Res.ob h
   obtain ⟨h3,h4⟩:=Res.done h2
   exact ⟨pv,w,T,cs,⟨⟨pv,w,[],[]⟩,rfl,rfl,rfl,fun _ hq=>by cases hq⟩,hl,h1,h3,h4⟩
  ·exact (Res.fail h).elim
theorem settle_ok {E:Env} {o:Oper} {id:Nat} {pl:Plan} (h:yy E o id pl):yy E o id (pl.settle id):=by
 intro g p wb hr nx c a K Q hn hI hK
 obtain ⟨p0,wb0,T,cs,h0,hl,hs,rfl,rfl⟩:=Res.settle hr
 refine h g p0 wb0 h0 nx c a K Q hn hI fun c' a' hi=>?_
 have hg:over (wd o.dst p0) (over wb0 g) (kb id)=some (.blk T cs):=by simp only [over,qjv,hl]
 obtain ⟨c1,e1,_,i1,r1⟩:=inv_lay hi hg hs
 rw [← e1]
 refine hK c1 a' ?_
 have hb:∀ i,over (wd o.dst (czr (frz id cs p0))) (over ((kb id,none) :: wb0) g) (kb i)=over [(kb id,none)] (over (wd o.dst p0) (over wb0 g)) (kb i):=fun i=>by
  rw [QN]
  simp only [over,qjv,lk,YT]
  by_cases e:i=id <;> simp [e]
 have hlv:∀ i,vC (over (wd o.dst (czr (frz id cs p0))) (over ((kb id,none) :: wb0) g)) i→vC (over [(kb id,none)] (over (wd o.dst p0) (over wb0 g))) i:=fun i ⟨T',ds,hx⟩=>⟨T',ds,by rw [← hb];exact hx⟩
 have hsl:∀ s x,over (wd o.dst (czr (frz id cs p0))) (over ((kb id,none) :: wb0) g) (ks s)=some x→(x = .pv (czr (frz id cs p0))∧over (wd o.dst p0) (over wb0 g) (ks s)=some (.pv p0))∨over [(kb id,none)] (over (wd o.dst p0) (over wb0 g)) (ks s)=some x:=fun s x hx=>by
  rw [qcr]
  cases hd:o.dst with
  | none =>
   rw [hd] at hx
   right
   simpa only [over,wd,lk,jU,Bool.false_eq_true,if_false] using hx
  | some d =>
   rw [hd] at hx
   simp only [over,wd,lk,jU,Vv,Bool.false_eq_true,if_false] at hx ⊢
   by_cases e:s=d
   ·left
    simp only [e,decide_true,if_true,Option.some.injEq] at hx ⊢
    exact ⟨hx.symm,trivial⟩
   ·right
    simp only [e,decide_false,Bool.false_eq_true,if_false] at hx ⊢
    exact hx
 refine { ids:=i1.ids,blk:=fun i T' ds hx=>i1.blk i T' ds (by rw [← hb];exact hx),inj:=fun i j b T T' l1 l2=>i1.inj i j b T T' (hlv i l1) (hlv j l2),apart:=fun i b T l1=>i1.apart i b T (hlv i l1),bnd:=i1.bnd,sok:=i1.sok,os:=i1.os,tape:=i1.tape,output:=i1.output,size:=i1.size,same:=i1.same,laid:=i1.laid,s0:=i1.s0,s1:=i1.s1,keep:=i1.keep,tmps:=i1.tmps,dfr:=i1.dfr,slot:=fun s q hp=>?_,isv:=fun s x hx=>?_ }
 ·rcases hsl s _ hp with ⟨h1,h2⟩|h1
  ·cases h1
   exact rep_czr (r1 (hi.slot s p0 h2))
  ·exact i1.slot s q h1
 ·rcases hsl s x hx with ⟨h1,_⟩|h1
  ·exact ⟨_,h1⟩
  ·exact i1.isv s x h1
def aFunc (fn:Fn) (first cap:List Operand):Plan:=opdl first fun ps=>opdl cap fun qs=>.done (.fn fn ps qs) []
theorem aFunc_ok {E:Env} {o:Oper} {id:Nat} {fn:Fn} {xs ys:Array Operand} (ho:o.op = .makeFunc fn xs ys) (hd:∀ x,o.dst=some x→x<E.n):yy E o id (aFunc fn xs.toList ys.toList):=by
 intro g p wb h nx c a K Q hn hI hK
 obtain ⟨ps,hps,h1⟩:=Res.opdl hI h
 obtain ⟨qs,hqs,h2⟩:=Res.opdl hI h1
 obtain ⟨rfl,rfl⟩:=Res.done h2
 have e:∀ zs:Array Operand,(zs.toList.map a.eval).toArray=zs.map a.eval:=fun zs=>by apply Array.ext';simp
 rw [e] at hps hqs
 exact qx hd hI hK (.fn hps.1 hps.2 hqs.1 hqs.2) (by simp [execOp,ho,Instr.makeFunc])
def aMax (mx:Bool) (x y:Operand):Plan:=opd x fun p=>opd y fun q=>match p,q with
 | .av (.int k a),.av (.int _ b)=>.done (.av (.int k (match mx with | true=>max a b | false=>min a b))) []
 | _,_=>.fail
theorem aMax_ok {E:Env} {o:Oper} {id:Nat} {x y:Operand} {ts:Array TypeId} (ho:o.op = .call { callee:=.builtin .max,args := #[x,y],argTypes:=ts }) (hd:∀ x,o.dst=some x→x<E.n):yy E o id (aMax true x y):=by
 intro g p wb h nx c a K Q hn hI hK
 obtain ⟨q1,hq1,h1⟩:=Res.opd hI h
 obtain ⟨q2,hq2,h2⟩:=Res.opd hI h1
 split at h2
 ·rename_i k m k2 n
  obtain ⟨rfl,rfl⟩:=Res.done h2
  refine qx hd hI hK (.sh (.av _)) ?_
  have e:max m n=if n > m then n else m:=by split <;> omega
  simp [execOp,ho,resolve,invoke,builtin,zH hq1,zH hq2,Builtin.max_,Builtin.max2,e]
 ·exact (Res.fail h2).elim
theorem aMin_ok {E:Env} {o:Oper} {id:Nat} {x y:Operand} {ts:Array TypeId} (ho:o.op = .call { callee:=.builtin .min,args := #[x,y],argTypes:=ts }) (hd:∀ x,o.dst=some x→x<E.n):yy E o id (aMax false x y):=by
 intro g p wb h nx c a K Q hn hI hK
 obtain ⟨q1,hq1,h1⟩:=Res.opd hI h
 obtain ⟨q2,hq2,h2⟩:=Res.opd hI h1
 split at h2
 ·rename_i k m k2 n
  obtain ⟨rfl,rfl⟩:=Res.done h2
  refine qx hd hI hK (.sh (.av _)) ?_
  have e:min m n=if n<m then n else m:=by split <;> omega
  simp [execOp,ho,resolve,invoke,builtin,zH hq1,zH hq2,Builtin.min_,Builtin.min2,e]
 ·exact (Res.fail h2).elim

def plan (P:Program) (o:Oper) (an:Ans) (id:Nat):Plan:=match o.op with
 | .move x=>aMove x
 | .assign x=>aMove x
 | .pick c x y=>aPick c x y an
 | .alloc T=>aAlloc P T id
 | .box T x=>aBox T x id
 | .build T ps=>aBuild P T ps.toList
 | .buildSlice T n ps=>match an with | .lay _ _=>(Vy P T n ps.toList id).settle id | _=>Vy P T n ps.toList id
 | .load T x=>aLoad P T x an
 | .store T x y=>aStore P T x y an
 | .nilCheck x=>qii x
 | .binOp op T x y _=>match P.underlying T with
  | some (.struct _)=>match op with | .eql=>aEqS P false T x y | .neq=>aEqS P true T x y | _=>.fail
  | some (.pointer e)=>match op with | .eql=>aEqP (some (.pointer e)) false x y | .neq=>aEqP (some (.pointer e)) true x y | _=>.fail
  | some (.slice e)=>match op with | .eql=>aEqP (some (.slice e)) false x y | .neq=>aEqP (some (.slice e)) true x y | _=>.fail
  | some (.interface ms)=>match op with | .eql=>aEqI (some (.interface ms)) false x y | .neq=>aEqI (some (.interface ms)) true x y | _=>.fail
  | u=>aBin op T x y u an
 | .unOp op _ x=>aUn op x an
 | .convert s d x=>aConvB P s d x an
 | .makeFunc fn xs ys=>aFunc fn xs.toList ys.toList
 | .makeInterface T x=>aIface (P.underlying T) T x
 | .typeAssert x _ T true=>aAssert (P.underlying T) x T
 | .makeSlice T l c=>aMake P T l c an id
 | .slice T x lo hi mx=>aSlice P T x lo hi mx an
 | .fieldAddr T x f=>qgm P T x f
 | .field T x f=>aField P T x f
 | .indexAddr T x i=>qgl P T x i an
 | .index T x i=>aIndex P T x i
 | .extract t i=>aExtract t i
 | .call { callee:=.builtin .len,args:=⟨[x]⟩,argTypes:=⟨T :: _⟩ }=>aLen (P.underlying T) x
 | .call { callee:=.builtin .append,args:=⟨[x,y]⟩,argTypes:=⟨[T,U]⟩ }=>aAppend P T (P.underlying U) x y an id
 | .call { callee:=.builtin .copy,args:=⟨[x,y]⟩,argTypes:=⟨[T,U]⟩ }=>aCopy P T (P.underlying U) x y an
 | .call { callee:=.builtin .max,args:=⟨[x,y]⟩,.. }=>aMax true x y
 | .call { callee:=.builtin .min,args:=⟨[x,y]⟩,.. }=>aMax false x y
 | .call { callee:=.builtin .max,args:=⟨[x,y,z]⟩,.. }=>aMax3 true x y z
 | .call { callee:=.builtin .min,args:=⟨[x,y,z]⟩,.. }=>aMax3 false x y z
 | .call { callee:=.value f,args,.. }=>match an with | .lay js an'=>aCallL P f args.toList js an' id | .callR ids bs H r=>aCallR P f args.toList ids bs H r id | .ext true=>aExtL P f args.toList | .ext false=>aExtS P f args.toList | .val q=>aExtV P f args.toList q | _=>aCall P f args.toList an id
 | _=>.fail
theorem plan_ok {E:Env} {o:Oper} {id:Nat} {an:Ans} (hd:∀ x,o.dst=some x→x<E.n):yy E o id (plan E.P o an id):=by
 unfold plan
 split <;> rename_i ho
 ·exact aMove_ok (.inl ho) hd
 ·exact aMove_ok (.inr ho) hd
 ·exact aPick_ok ho hd
 ·exact aAlloc_ok ho hd
 ·exact aBox_ok ho hd
 ·exact aBuild_ok ho hd
 ·split
  ·exact settle_ok (Vx ho hd)
  ·exact Vx ho hd
 ·exact aLoad_ok ho hd
 ·exact aStore_ok ho hd
 ·exact aNilCheck_ok ho hd
 ·split
  ·split
   ·exact aEqS_ok (ng:=false) ho hd
   ·exact aEqS_ok (ng:=true) ho hd
   ·exact fun g p wb h=>(Res.fail h).elim
  ·rename_i hu
   rw [← hu]
   split
   ·exact qea (ng:=false) ho hd
   ·exact qea (ng:=true) ho hd
   ·exact fun g p wb h=>(Res.fail h).elim
  ·rename_i hu
   rw [← hu]
   split
   ·exact qea (ng:=false) ho hd
   ·exact qea (ng:=true) ho hd
   ·exact fun g p wb h=>(Res.fail h).elim
  ·rename_i hu
   rw [← hu]
   split
   ·exact aEqI_ok (ng:=false) ho hd
   ·exact aEqI_ok (ng:=true) ho hd
   ·exact fun g p wb h=>(Res.fail h).elim
  ·exact aBin_ok ho hd
 ·exact aUn_ok ho hd
 ·exact aConvB_ok ho hd
 ·exact aFunc_ok ho hd
 ·exact aIface_ok ho hd
 ·exact aAssert_ok ho hd
 ·exact aMake_ok ho hd
 ·exact aSlice_ok ho hd
 ·exact qgw ho hd
 ·exact aField_ok ho hd
 ·exact qgv ho hd
 ·exact aIndex_ok ho hd
 ·exact aExtract_ok ho hd
 ·exact aLen_ok ho (by simp) hd
 ·exact aAppend_ok ho hd
 ·exact aCopy_ok ho hd
 ·exact aMax_ok ho hd
 ·exact aMin_ok ho hd
 ·exact aMax3_ok ho hd
 ·exact aMin3_ok ho hd
 ·split
  ·exact aCallL_ok ho hd
  ·exact aCallR_ok ho hd
  ·exact aExtL_ok ho hd
  ·exact aExtS_ok ho hd
  ·exact aExtV_ok ho hd
  ·exact aCall_ok ho hd
 ·exact fun g p wb h=>(Res.fail h).elim

def gplan (P:Program) (ops:List Oper) (o:Oper) (an:Ans) (id:Nat):Plan:=match o.guard with
 | none=>plan P o an id
 | some (j,want)=>match (ops[j]?).bind (·.dst) with
  | some d=>.look (ks d) fun v=>match v,an with
   | .pv (.av (.bool t)),.gd b an'=>.ob (t=b) (match b == want with | true=>plan P o an' id | false=>.done P0 [])
   | .pv (.av (.tuple _)),_=>.done P0 []
   | _,_=>.fail
  | none=>.fail
theorem gplan_ok {E:Env} {l:List Oper} {i:Nat} {o:Oper} {id:Nat} {an:Ans} (ho:l[i]? = some o) (hd:∀ x,o.dst=some x→x<E.n) {g:St} {out:Out} (hr:run g (gplan E.P l o an id)=some out) (hob:∀ p∈out.obs,p) :
  qgn E l.toArray i o out id g:=by
 intro nx c a K Q hn hI hK
 have hres:Res g (gplan E.P l o an id) out.pv out.wb:=⟨out,hr,rfl,rfl,hob⟩
 have ho':l.toArray[i]? = some o:=by simpa using ho
 have hK':∀ c' a',Inv E (fun j=>nx j∨(id≤j∧j<id+8)) c' (over (wd o.dst out.pv) (over out.wb g)) a'→K a' c'.w:=fun c' a' h=>hK c' a' (by rw [wr,ZL];exact h)
 unfold wpOp
 simp only [ho']
 unfold gplan at hres
 split at hres
 ·rename_i hg
  rw [if_pos (by simp [Region.wanted,hg])]
  exact .inl (plan_ok hd g _ _ hres nx c a K Q hn hI hK')
 ·rename_i j want hg
  split at hres
  ·rename_i d hj
   obtain ⟨v,hv,h1⟩:=Res.look hres
   split at h1
   ·rename_i t b an'
    obtain ⟨rfl,h2⟩:=Res.ob h1
    have h3:=zH (hI.slot d _ hv)
    have h4:a.tmps[d]? = some (.bool t):=by
     rw [Array.getD_eq_getD_getElem?] at h3
     cases hx:a.tmps[d]? with
     | none=>rw [hx] at h3;cases h3
     | some x=>rw [hx] at h3;simp only [Option.getD_some] at h3;rw [h3]
    have hy:yielded l.toArray a.tmps j=some t:=by
     unfold yielded
     have hj':(l.toArray[j]?).bind (·.dst)=some d:=by simpa using hj
     rw [hj']
     simp [h4]
    have hw:Region.wanted o (yielded l.toArray a.tmps)=(t == want):=by
     unfold Region.wanted
     simp only [hg,hy]
     cases t <;> cases want <;> rfl
    split at h2
    ·rename_i hbw
     rw [if_pos (by rw [hw];exact hbw)]
     exact .inl (plan_ok hd g _ _ h2 nx c a K Q hn hI hK')
    ·rename_i hbw
     obtain ⟨h5,h6⟩:=Res.done h2
     rw [if_neg (by rw [hw];simp [hbw])]
     have:=hI.pure (nx':=fun j=>nx j∨(id≤j∧j<id+8)) (fun _ h=>.inl h) o.dst hd (p:=out.pv) (v:=undef) fun _=>by rw [h5];exact .sh (.av _)
     refine hK' c _ ?_
     rw [h6]
     exact this
   ·rename_i us _
    obtain ⟨h5,h6⟩:=Res.done h1
    have h3:=zH (hI.slot d _ hv)
    have hy:yielded l.toArray a.tmps j=none:=by
     unfold yielded
     have hj':(l.toArray[j]?).bind (·.dst)=some d:=by simpa using hj
     rw [hj']
     cases hx:a.tmps[d]? with
     | none=>simp [hx]
     | some x =>
      rw [Array.getD_eq_getD_getElem?,hx] at h3
      simp only [Option.getD_some] at h3
      subst h3
      simp [hx]
    have hw:Region.wanted o (yielded l.toArray a.tmps)=false:=by
     unfold Region.wanted
     simp only [hg,hy]
     rfl
    rw [if_neg (by rw [hw];decide)]
    have:=hI.pure (nx':=fun j=>nx j∨(id≤j∧j<id+8)) (fun _ h=>.inl h) o.dst hd (p:=out.pv) (v:=undef) fun _=>by rw [h5];exact .sh (.av _)
    refine hK' c _ ?_
    rw [h6]
    exact this
   ·exact (Res.fail h1).elim
  ·exact (Res.fail hres).elim

/-! ### a region reckoned -/
def ansAt (ans:List (Nat × Ans)) (i:Nat):Ans:=match lk i ans with|some a=>a|none=>.no
def dstOk (n:Nat) (o:Oper):Bool:=match o.dst with|some d=>Nat.blt d n|none=>true
def evs (P:Program) (n:Nat) (ops:List Oper) (n0:Nat) (ans:List (Nat × Ans)):List Oper→Nat→L→Option (L × List Prop × List Out)
 | [],_,l=>some (l,[],[])
 | o :: r,i,l=>match run (get l) (gplan P ops o (ansAt ans i) (n0+8*i)),dstOk n o with
  | some out,true=>match evs P n ops n0 ans r (i+1) (wr o.dst out++l) with
   | some (l',obs,outs)=>some (l',out.obs++obs,out :: outs)
   | none=>none
  | _,_=>none
def jQ:Out:=⟨P0,[],[],[]⟩
theorem qga {P:Program} {n:Nat} {ops:List Oper} {n0:Nat} {ans:List (Nat × Ans)} {g0:St} {tab:Nat→Out}:∀ {r:List Oper} {i:Nat} {l l':L} {obs:List Prop} {outs:List Out},evs P n ops n0 ans r i l=some (l',obs,outs) →
  ops.drop i=r→(∀ j,j<r.length→outs.getD j jQ=tab (i+j))→get l=wJ g0 (Wt ops.toArray tab) (fun j=>decide (j<i)) ops.length →
  outs.length=r.length∧get l'=wJ g0 (Wt ops.toArray tab) (fun _=>true) ops.length ∧
   ∀ j o,i≤j→ops[j]? = some o→run (wJ g0 (Wt ops.toArray tab) (fun k=>decide (k<j)) ops.length) (gplan P ops o (ansAt ans j) (n0+8*j))=some (tab j)∧(∀ p∈(tab j).obs,p∈obs)∧∀ x,o.dst=some x→x<n
 | [],i,l,l',obs,outs,h,hd,ht,hg=>by
  simp only [evs,Option.some.injEq,Prod.mk.injEq] at h
  obtain ⟨rfl,rfl,rfl⟩:=h
  have hi:ops.length≤i:=by simpa using hd
  refine ⟨rfl,?_,fun j o hj ho=>?_⟩
  ·rw [hg]
   funext k
   exact jw fun j hj _=>by simp;omega
  ·rw [List.getElem?_eq_none (by omega)] at ho;cases ho
 | o :: r,i,l,l',obs,outs,h,hd,ht,hg=>by
  simp only [evs] at h
  split at h
  case h_2=>cases h
  rename_i out hout hdst
  split at h
  case h_2=>cases h
  rename_i l1 obs1 outs1 he
  simp only [Option.some.injEq,Prod.mk.injEq] at h
  obtain ⟨rfl,rfl,rfl⟩:=h
  have hlt:i<ops.length:=by
   rcases Nat.lt_or_ge i ops.length with h1|h1
   ·exact h1
   ·rw [List.drop_eq_nil_of_le h1] at hd;cases hd
  have hoi:ops[i]? = some o:=by
   have:=List.getElem?_drop (xs:=ops) (i:=i) (j:=0)
   rw [hd] at this
   simpa using this.symm
  have hdr:ops.drop (i+1)=r:=by
   have:=List.drop_drop (i:=1) (j:=i) (l:=ops)
   rw [hd] at this
   simpa [Nat.add_comm] using this.symm
  have htab:tab i=out:=by
   have:=ht 0 (by simp)
   simpa using this.symm
  have hW:Wt ops.toArray tab i=wr o.dst out:=by simp [Wt,hoi,htab]
  have hnext:get (wr o.dst out++l)=wJ g0 (Wt ops.toArray tab) (fun j=>decide (j<i+1)) ops.length:=by
   rw [jL,hg]
   have e:(fun j=>decide (j<i+1))=ZU (fun j=>decide (j<i)) i:=by
    funext j
    unfold ZU
    by_cases e:j=i
    ·subst e;simp
    ·simp [e];omega
   rw [e,qby (by simp) hlt fun j x h1 h2 h3=>by simp at h3;omega,hW]
  obtain ⟨h1,h2,h3⟩:=qga he hdr (fun j hj=>by
   have:=ht (j+1) (by simp;omega)
   rw [show i+(j+1)=i+1+j by omega] at this
   simpa using this) hnext
  refine ⟨by simp [h1],h2,fun j o' hj ho'=>?_⟩
  by_cases e:j=i
  ·subst e
   rw [hoi] at ho'
   cases ho'
   rw [← hg,htab]
   refine ⟨hout,fun p hp=>by simp [hp],fun x hx=>?_⟩
   unfold dstOk at hdst
   rw [hx] at hdst
   simpa [Nat.blt_eq] using hdst
  ·obtain ⟨h4,h5,h6⟩:=h3 j o' (by omega) ho'
   exact ⟨h4,fun p hp=>by simp [h5 p hp],h6⟩
def evr (P:Program) (n:Nat) (ops:List Oper) (n0:Nat) (ans:List (Nat × Ans)) (draw:Bool) (live:List Nat) (l:L):Option (L × List Prop) :=
 match evs P n ops n0 ans ops 0 l with
 | some (l',obs,outs)=>match draw with
  | false=>some (live.map fun k=>(k,get l' k),obs)
  | true=>match befB ops (befs ops),qba (Wt ops.toArray fun i=>outs.getD i jQ) (fun i=>(outs.getD i jQ).reads) (befs ops) ops.length with
   | true,true=>some (live.map fun k=>(k,get l' k),obs)
   | _,_=>none
 | none=>none
theorem Inv.less {E:Env} {nx:Nat→Prop} {c:Cx} {g g':St} {a:Act} (h:Inv E nx c g a) (hs:∀ k v,g' k=some v→g k=some v):Inv E nx c g' a:=by
 have hl:∀ i,vC g' i→vC g i:=fun i ⟨T,cs,hx⟩=>⟨T,cs,hs _ _ hx⟩
 exact { h with blk:=fun i T cs hx=>h.blk i T cs (hs _ _ hx),inj:=fun i j b T T' l1 l2=>h.inj i j b T T' (hl i l1) (hl j l2),apart:=fun i b T l1=>h.apart i b T (hl i l1),
                slot:=fun s p hp=>h.slot s p (hs _ _ hp),isv:=fun s x hx=>h.isv s x (hs _ _ hx) }
theorem get_live {live:List Nat} {g:St}:∀ k v,get (live.map fun k=>(k,g k)) k=some v→g k=some v:=by
 intro k v h
 induction live with
 | nil=>simp [get,lk] at h
 | cons a live ih =>
  simp only [get,List.map_cons,lk] at h ih
  by_cases e:Nat.beq k a=true
  ·rw [if_pos e] at h
   rw [Nat.eq_of_beq_eq_true e]
   simpa using h
  ·rw [if_neg e] at h
   exact ih h
theorem jz (m j:Nat):(Array.replicate m false).getD j false=false:=by
 rw [Array.getD_eq_getD_getElem?,Array.getElem?_replicate]
 by_cases h:j<m <;> simp [h]
theorem region_ok {E:Env} {n0:Nat} {l l':L} {id:Nat} {ops:Array Oper} {draw:Bool} {ans:List (Nat × Ans)} {live:List Nat} {obs:List Prop} (hm:draw=true→E.P.follows .mixedOrders=true) (h:evr E.P E.n ops.toList n0 ans draw live l=some (l',obs)) (hob:∀ p∈obs,p)
  {Q:Exit→Act→World→Prop} (hQ:∀ c a,Inv E (· < n0+8*ops.size) c (get l') a→Q .normal a c.w) {c:Cx} {a:Act} (hI:Inv E (· < n0) c (get l) a):(Code.region id ops draw).wp E.P Q a c.w:=by
 unfold evr at h
 split at h
 case h_2=>cases h
 rename_i l1 obs1 outs he
 obtain ⟨h1,h2,h3⟩:=qga (g0:=get l) (tab:=fun i=>outs.getD i jQ) he (by simp) (fun j _=>by simp) (by
  funext k
  have:∀ m,wJ (get l) (Wt ops.toList.toArray fun i=>outs.getD i jQ) (fun j=>decide (j<0)) m=get l:=fun m=>by
   induction m with
   | zero=>rfl
   | succ m ih=>simp only [wJ,Nat.not_lt_zero,decide_false,Bool.false_eq_true,if_false];exact ih
  rw [this])
 have hops:ops.toList.toArray=ops:=by simp
 have hlen:ops.toList.length=ops.size:=by simp
 have hstep:obs=obs1→∀ i o,ops.toList[i]? = some o→∀ g,(∀ k∈(outs.getD i jQ).reads,g k=wJ (get l) (Wt ops.toList.toArray fun i=>outs.getD i jQ) (fun j=>decide (j<i)) ops.toList.length k)→qgn E ops.toList.toArray i o (outs.getD i jQ) (n0+8*i) g:=by
  intro hobs i o ho g hg
  obtain ⟨h4,h5,h6⟩:=h3 i o (Nat.zero_le _) ho
  exact gplan_ok ho h6 (WG h4 hg) fun p hp=>hob p (by rw [hobs];exact h5 p hp)
 have hfin:∀ {c:Cx} {a:Act},l'=live.map (fun k=>(k,get l1 k))→Inv E (fun id=>id<n0+8*ops.toList.length) c (wJ (get l) (Wt ops.toList.toArray fun i=>outs.getD i jQ) (fun _=>true) ops.toList.length) a→Q .normal a c.w:=by
  intro c a hl' h
  rw [← h2,hlen] at h
  refine hQ c a (h.less fun k v hk=>?_)
  rw [hl'] at hk
  exact get_live k v hk
 split at h
 ·simp only [Option.some.injEq,Prod.mk.injEq] at h
  obtain ⟨rfl,rfl⟩:=h
  have hs:=seq_ops (E:=E) (ops:=ops.toList.toArray) (g0:=get l) (tab:=fun i=>outs.getD i jQ) (n0:=n0) (fun i o ho=>hstep rfl i o (by simpa using ho) _ (fun k _=>by simp)) (Q:=Q) (fun c a h=>hfin rfl (by simpa using h))
   ops.toList.toArray.size 0 (by simp) c a (by
    have h0:wJ (get l) (Wt ops.toList.toArray fun i=>outs.getD i jQ) (fun j=>decide (j<0)) ops.toList.toArray.size=get l:=by
     generalize ops.toList.toArray.size=m
     induction m with
     | zero=>rfl
     | succ m ih=>simp only [wJ,Nat.not_lt_zero,decide_false,Bool.false_eq_true,if_false];exact ih
    rw [h0]
    exact hI.more fun i hi=>.inl hi)
  rw [hops] at hs
  exact wp_region (by simpa using hs)
 ·split at h
  case h_2=>cases h
  rename_i hbf hap
  simp only [Option.some.injEq,Prod.mk.injEq] at h
  obtain ⟨rfl,rfl⟩:=h
  have hs:=any_ops (E:=E) (l:=ops.toList) (g0:=get l) (tab:=fun i=>outs.getD i jQ) (n0:=n0) hbf hap (hstep rfl) (Q:=Q) (fun c a h=>hfin rfl h)
   ops.toList.length (Array.replicate ops.toList.length false) ⟨{ c.w with drawn:=c.w.drawn+1 },c.S,c.own⟩ a (by simp) (by
    rw [YL (g:=fun _=>false) fun i _=>jz _ _]
    exact qar _) (fun j o _ hj=>by
    have hj':(Array.replicate ops.toList.length false).getD j false=true:=hj
    rw [jz] at hj'
    cases hj') (by
    have h0:wJ (get l) (Wt ops.toList.toArray fun i=>outs.getD i jQ) (fun j=>(Array.replicate ops.toList.length false).getD j false) ops.toList.length=get l:=by
     have e:(fun j=>(Array.replicate ops.toList.length false).getD j false)=fun _=>false:=funext fun j=>jz _ j
     rw [e]
     have:∀ m,wJ (get l) (Wt ops.toList.toArray fun i=>outs.getD i jQ) (fun _=>false) m=get l:=fun m=>by
      induction m with
      | zero=>rfl
      | succ m ih=>simp only [wJ,Bool.false_eq_true,if_false];exact ih
     exact this _
    rw [h0]
    exact (hI.drawn _).more fun i hi=>.inl hi)
  rw [hops] at hs
  refine wp_region_any (hm rfl) ?_
  rw [hlen] at hs
  exact hs
inductive Item where
 | code (c:Code)
 | blk (id:Nat)
abbrev Post:=Exit→Cx→Act→Prop
def WS (E:Env) (Q:Post):List Item→Post
 | []=>Q
 | .code c :: rs=>fun e cx a=>match e with
  | .normal=>c.wp E.P (fun e a' w'=>∃ cx',cx'.w=w'∧WS E Q rs e cx' a') a cx.w
  | e=>WS E Q rs e cx a
 | .blk id :: rs=>fun e cx a=>match e with
  | .exit j=>if j=id then WS E Q rs .normal cx a else WS E Q rs (.exit j) cx a
  | e=>WS E Q rs e cx a
def T (P:Program) (n:Nat) (c0:Cx) (Bor:BorD) (Q:Post) (n0:Nat) (l:L) (rs:List Item):Prop :=
 ∀ cx a,Inv ⟨P,n,c0,Bor⟩ (· < n0) cx (get l) a→WS ⟨P,n,c0,Bor⟩ Q rs .normal cx a

section
variable {P:Program} {n:Nat} {c0:Cx} {Bor:BorD} {Q:Post} {n0:Nat} {l:L} {rs:List Item}
theorem zF {id:Nat} (h:T P n c0 Bor Q n0 l rs):T P n c0 Bor Q n0 l (.blk id :: rs):=fun cx a hI=>h cx a hI
theorem qA {x y:Code} (h:T P n c0 Bor Q n0 l (.code x :: .code y :: rs)):T P n c0 Bor Q n0 l (.code (.seq x y) :: rs):=fun cx a hI=>by
 refine wp_seq (wp_mono (h cx a hI) fun e a' w' h1=>?_)
 obtain ⟨cx',rfl,h2⟩:=h1
 cases e <;> first|exact h2|exact ⟨cx',rfl,h2⟩
theorem qF (h:T P n c0 Bor Q n0 l rs):T P n c0 Bor Q n0 l (.code .skip :: rs):=fun cx a hI=>wp_skip ⟨cx,rfl,h cx a hI⟩
theorem qV {id:Nat} {c:Code} (h:T P n c0 Bor Q n0 l (.code c :: .blk id :: rs)):T P n c0 Bor Q n0 l (.code (.block id c) :: rs):=fun cx a hI=>by
 refine wp_block (wp_mono (h cx a hI) fun e a' w' h1=>?_)
 obtain ⟨cx',rfl,h2⟩:=h1
 cases e with
 | exit j =>
  simp only [WS,Exit.inBlock] at h2 ⊢
  split at h2
  ·rename_i e;rw [if_pos e];exact ⟨cx',rfl,h2⟩
  ·rename_i e;rw [if_neg e];exact ⟨cx',rfl,h2⟩
 | normal=>exact ⟨cx',rfl,h2⟩
 | goto l=>exact ⟨cx',rfl,h2⟩
 | ret=>exact ⟨cx',rfl,h2⟩
 | panic c=>exact ⟨cx',rfl,h2⟩
 | outgrown=>exact ⟨cx',rfl,h2⟩
def out (id:Nat):List Item→Option (List Item)
 | []=>none
 | .code _ :: rs=>out id rs
 | .blk j :: rs=>match Nat.beq id j with | true=>some rs | false=>out id rs
theorem qik {E:Env} {id:Nat} {cx:Cx} {a:Act}:∀ {rs rs':List Item},out id rs=some rs'→WS E Q rs' .normal cx a→WS E Q rs (.exit id) cx a
 | .code _ :: rs,rs',h,k=>by
  simp only [out] at h
  exact qik (rs:=rs) h k
 | .blk j :: rs,rs',h,k=>by
  simp only [out] at h
  show if id=j then _ else _
  split at h
  ·rename_i e
   cases h
   rw [if_pos (Nat.eq_of_beq_eq_true e)]
   exact k
  ·rename_i e
   rw [if_neg fun h=>by rw [h,Nat.beq_refl] at e;cases e]
   exact qik (rs:=rs) h k
theorem T_exit {id:Nat} {rs':List Item} (ho:out id rs=some rs') (h:T P n c0 Bor Q n0 l rs'):T P n c0 Bor Q n0 l (.code (.exit id) :: rs):=fun cx a hI =>
 wp_exit ⟨cx,rfl,qik ho (h cx a hI)⟩
theorem VE {E:Env} {id:Nat} {cx:Cx} {a:Act}:∀ {rs:List Item},out id rs=none→Q (.exit id) cx a→WS E Q rs (.exit id) cx a
 | [],_,k=>k
 | .code _ :: rs,h,k=>by
  simp only [out] at h
  exact VE (rs:=rs) h k
 | .blk j :: rs,h,k=>by
  simp only [out] at h
  show if id=j then _ else _
  split at h
  ·cases h
  ·rename_i e
   rw [if_neg fun h=>by rw [h,Nat.beq_refl] at e;cases e]
   exact VE (rs:=rs) h k
theorem T_leave {id:Nat} (ho:out id rs=none) (h:∀ cx a,Inv ⟨P,n,c0,Bor⟩ (· < n0) cx (get l) a→Q (.exit id) cx a):T P n c0 Bor Q n0 l (.code (.exit id) :: rs):=fun cx a hI =>
 wp_exit ⟨cx,rfl,VE ho (h cx a hI)⟩
theorem qij {E:Env} {cx:Cx} {a:Act}:∀ {rs:List Item},Q .ret cx a→WS E Q rs .ret cx a
 | [],k=>k
 | .code _ :: rs,k=>qij (rs:=rs) k
 | .blk _ :: rs,k=>qij (rs:=rs) k
theorem zj (h:∀ cx a,Inv ⟨P,n,c0,Bor⟩ (· < n0) cx (get l) a→Q .ret cx a):T P n c0 Bor Q n0 l (.code .ret :: rs):=fun cx a hI=>wp_ret ⟨cx,rfl,qij (h cx a hI)⟩
theorem T_cond {t:Nat} {x y:Code} {b:Bool} (hb:get l (Pm.ks t)=some (.pv (.av (.bool b)))) (h1:b=true→T P n c0 Bor Q n0 l (.code x :: rs)) (h2:b=false→T P n c0 Bor Q n0 l (.code y :: rs)) :
  T P n c0 Bor Q n0 l (.code (.cond (.tmp t) x y) :: rs):=fun cx a hI=>by
 have hv:=zH (hI.slot t _ hb)
 cases b with
 | true=>exact wp_cond_true hv (h1 rfl cx a hI)
 | false=>exact wp_cond_false hv (h2 rfl cx a hI)
theorem T_region {id:Nat} {ops:Array Oper} {draw:Bool} (ans:List (Nat × Ans)) (live:List Nat) {l':L} {obs:List Prop} (hm:draw=true→P.follows .mixedOrders=true) (h:evr P n ops.toList n0 ans draw live l=some (l',obs)) (hob:∀ p∈obs,p)
  (hT:T P n c0 Bor Q (n0+8*ops.size) l' rs):T P n c0 Bor Q n0 l (.code (.region id ops draw) :: rs):=fun _ _ hI =>
 region_ok (E:=⟨P,n,c0,Bor⟩) hm h hob (fun c a h=>⟨c,rfl,hT c a h⟩) hI

/-! ### states said anew -/
def Wk (P:Program) (n:Nat) (c0:Cx) (Bor:BorD) (n0:Nat) (l:L) (n1:Nat) (l':L):Prop:=∀ cx a,Inv ⟨P,n,c0,Bor⟩ (· < n0) cx (get l) a→∃ cx',cx'.w=cx.w∧Inv ⟨P,n,c0,Bor⟩ (· < n1) cx' (get l') a
theorem ws_world {E:Env} {cx cx':Cx} {a:Act} {c:Code} (hw:cx'.w=cx.w) (h:WS E Q (.code c :: rs) .normal cx' a):WS E Q (.code c :: rs) .normal cx a:=by
 show c.wp E.P _ a cx.w
 rw [← hw]
 exact h
theorem qY {c:Code} {n1:Nat} {l':L} (hw:Wk P n c0 Bor n0 l n1 l') (h:T P n c0 Bor Q n1 l' (.code c :: rs)):T P n c0 Bor Q n0 l (.code c :: rs):=fun cx a hI=>by
 obtain ⟨cx',h1,h2⟩:=hw cx a hI
 exact ws_world h1 (h cx' a h2)
theorem Wk.refl:Wk P n c0 Bor n0 l n0 l:=fun cx _ h=>⟨cx,rfl,h⟩
theorem Wk.trans {n1 n2:Nat} {l1 l2:L} (h:Wk P n c0 Bor n0 l n1 l1) (k:Wk P n c0 Bor n1 l1 n2 l2):Wk P n c0 Bor n0 l n2 l2:=fun cx a hI=>by
 obtain ⟨c1,e1,h1⟩:=h cx a hI
 obtain ⟨c2,e2,h2⟩:=k c1 a h1
 exact ⟨c2,e2.trans e1,h2⟩
theorem Wk.less {l':L} (n1:Nat) (hn:Nat.ble n0 n1=true) (h:l'.map (fun x=>get l x.1)=l'.map (·.2)):Wk P n c0 Bor n0 l n1 l':=fun cx a hI=>by
 refine ⟨cx,rfl,(hI.more fun i hi=>Nat.lt_of_lt_of_le hi (Nat.le_of_ble_eq_true hn)).less fun k v hk=>?_⟩
 have:∀ (m:L),m.map (fun x=>get l x.1)=m.map (·.2)→∀ k v,get m k=some v→get l k=some v:=by
  intro m
  induction m with
  | nil=>intro _ k v hk;simp [get,lk] at hk
  | cons x m ih =>
   intro hm k v hk
   simp only [List.map_cons,List.cons.injEq] at hm
   simp only [get,lk] at hk ih
   by_cases e:Nat.beq k x.1=true
   ·rw [if_pos e] at hk
    rw [Nat.eq_of_beq_eq_true e,hm.1]
    simpa using hk
   ·rw [if_neg e] at hk
    exact ih hm.2 k v hk
 exact this l' h k v hk
def reSt (σ:Nat→Nat) (n1:Nat) (l':L) (g:St):List Prop:=l'.map fun x=>match x.2 with
 | some (.pv p)=>g x.1=some (.pv (ren σ p))
 | some (.blk T cs)=>x.1 % 2=1∧x.1 / 2<n1∧g (kb (σ (x.1 / 2)))=some (.blk T (qN σ cs))
 | none=>True
theorem qcm {σ:Nat→Nat} {n1:Nat} {g:St}:∀ {l':L},(∀ p∈reSt σ n1 l' g,p)→∀ k v,get l' k=some v→match v with
  | .pv p=>g k=some (.pv (ren σ p))
  | .blk T cs=>k % 2=1∧k / 2<n1∧g (kb (σ (k / 2)))=some (.blk T (qN σ cs))
 | [],_,k,v,h=>by simp [get,lk] at h
 | x :: l',hp,k,v,h=>by
  simp only [reSt,List.map_cons,List.mem_cons,forall_eq_or_imp] at hp
  simp only [get,lk] at h
  by_cases e:Nat.beq k x.1=true
  ·rw [if_pos e] at h
   have e':=Nat.eq_of_beq_eq_true e
   subst e'
   have h2:x.2=some v:=by simpa using h
   have h1:=hp.1
   rw [h2] at h1
   cases v <;> exact h1
  ·rw [if_neg e] at h
   exact qcm (l':=l') hp.2 k v h
theorem renL_nil {σ:Nat→Nat} {cs:List PV} (h:qN σ cs=[]):cs=[]:=by
 have:=congrArg List.length h
 rw [zA] at this
 exact List.eq_nil_of_length_eq_zero this
def sgm (n0:Nat) (σl:List Nat) (i:Nat):Nat:=match Nat.blt i σl.length with|true=>σl.getD i 0|false=>n0+i
theorem Wk.ren {l':L} (m:Nat) (hc0:∀ i x,c0.own i=some x→i<m) (σl:List Nat) (hσ:σl.take m=List.range m) (hnd:vS σl=true) (h:∀ p∈reSt (sgm n0 σl) σl.length l' (get l),p):Wk P n c0 Bor n0 l σl.length l':=fun cx a hI=>by
 have hsp:=qcm h
 have hs1:∀ i,i<σl.length→sgm n0 σl i=σl.getD i 0:=fun i hi=>by
  unfold sgm
  rw [show Nat.blt i σl.length=true from by simpa [Nat.blt_eq] using hi]
 have hs2:∀ i,σl.length≤i→cx.own (sgm n0 σl i)=none:=fun i hi=>by
  unfold sgm
  rw [show Nat.blt i σl.length=false from by rw [Bool.eq_false_iff,Ne,Nat.blt_eq];omega]
  cases ho:cx.own (n0+i) with
  | none=>rfl
  | some x=>have:n0+i<n0:=hI.ids _ x ho;omega
 have hlv:∀ i,vC (get l') i→i<σl.length∧vC (get l) (sgm n0 σl i):=fun i ⟨T,cs,hx⟩=>by
  have h1:=hsp _ _ hx
  simp only at h1
  rw [show kb i / 2=i by simp only [kb];omega] at h1
  exact ⟨h1.2.1,T,_,h1.2.2⟩
 refine ⟨cx.via (sgm n0 σl),rfl,{ ids:=fun i x hx=>?_,blk:=fun i T cs hx=>?_,inj:=fun i j b T T' l1 l2 h3 h4=>?_,apart:=fun i b T l1 h2=>hI.apart _ b T (hlv i l1).2 h2,bnd:=fun i b T h1=>hI.bnd _ b T h1,sok:=hI.sok,os:=hI.os,tape:=hI.tape,output:=hI.output,size:=hI.size,same:=hI.same,laid:=hI.laid,s0:=hI.s0,s1:=hI.s1,keep:=⟨hI.keep.S,fun i x hx=>?_,hI.keep.shape⟩,tmps:=hI.tmps,dfr:=hI.dfr,slot:=fun s p hp=>?_,isv:=fun s x hx=>?_ }⟩
 ·show i<σl.length
  rcases Nat.lt_or_ge i σl.length with h1|h1
  ·exact h1
  ·have:cx.own (sgm n0 σl i)=some x:=hx
   rw [hs2 i h1] at this
   cases this
 ·have h1:=hsp _ _ hx
  simp only at h1
  rw [show kb i / 2=i by simp only [kb];omega] at h1
  obtain ⟨ob,h5,h6,h7⟩:=hI.blk _ _ _ h1.2.2
  refine ⟨ob,h5,ones_renL.1 h6,?_⟩
  rcases h7 with ⟨h7,h8⟩|⟨b,arr,h7,h8,h9,h10⟩
  ·exact .inl ⟨h7,renL_nil h8⟩
  ·rw [zA] at h9 h10
   exact .inr ⟨b,arr,h7,h8,h9,fun j hj=>WH (h10 j hj) _ (yk _ _ j hj)⟩
 ·obtain ⟨e1,l1'⟩:=hlv i l1
  obtain ⟨e2,l2'⟩:=hlv j l2
  have:=hI.inj _ _ b T T' l1' l2' h3 h4
  rw [hs1 i e1,hs1 j e2] at this
  exact WL hnd i j e1 e2 this
 ·have h1:=hc0 i x hx
  have h2:i<σl.length:=by
   have:=congrArg List.length hσ
   simp at this
   omega
  have h3:σl.getD i 0=i:=by
   have h4:=List.getElem?_take_of_lt (l:=σl) h1
   rw [hσ] at h4
   rw [List.getD_eq_getElem?_getD,← h4]
   simp [h1]
  show cx.own (sgm n0 σl i)=some x
  rw [hs1 i h2,h3]
  exact hI.keep.own i x hx
 ·have h1:=hsp _ _ hp
  exact WH (hI.slot s _ h1) _ rfl
 ·cases x with
  | pv p=>exact ⟨p,rfl⟩
  | blk T cs =>
   have h1:=hsp _ _ hx
   simp only [Pm.ks] at h1
   omega
theorem Wk.nil {s:Nat} (T:TypeId) (hs:get l (Pm.ks s)=some (.pv (.av (.slice none 0 0)))):Wk P n c0 Bor n0 l (n0+1) ([(ks s,some (.pv (.osl n0 0 0))),(kb n0,some (.blk T []))]++l):=fun cx a hI=>by
 obtain ⟨hk,hh⟩:=YO hI.toHeap (id:=n0) (fun h=>absurd h (Nat.lt_irrefl _)) T
 refine ⟨⟨cx.w,cx.S,yN cx.own n0 (none,T)⟩,rfl,?_⟩
 have hge:∀ k,get ([(ks s,some (.pv (.osl n0 0 0))),(kb n0,some (.blk T []))]++l) k=if Nat.beq k (Pm.ks s) then some (.pv (.osl n0 0 0)) else over [(kb n0,some (.blk T []))] (get l) k:=fun k=>by
  rw [jL]
  simp only [over,lk]
  by_cases h1:Nat.beq k (Pm.ks s)=true
  ·simp [h1]
  ·simp only [h1];rfl
 have hb:∀ i,get ([(ks s,some (.pv (.osl n0 0 0))),(kb n0,some (.blk T []))]++l) (kb i)=over [(kb n0,some (.blk T []))] (get l) (kb i):=fun i=>by
  rw [hge,qko];rfl
 have hl:∀ i,vC (get ([(ks s,some (.pv (.osl n0 0 0))),(kb n0,some (.blk T []))]++l)) i→vC (over [(kb n0,some (.blk T []))] (get l)) i:=fun i ⟨T',cs,hx⟩=>⟨T',cs,by rw [← hb];exact hx⟩
 exact { ids:=fun i x hx=>by
           rcases hh.ids i x hx with h|h
           · exact Nat.lt_succ_of_lt h
           · subst h;exact Nat.lt_succ_self _
         blk:=fun i T' cs hx=>hh.blk i T' cs (by rw [← hb];exact hx),inj:=fun i j b T T' l1 l2=>hh.inj i j b T T' (hl i l1) (hl j l2),apart:=fun i b T l1=>hh.apart i b T (hl i l1),bnd:=hh.bnd,sok:=hh.sok,
         os:=hh.os,tape:=hh.tape,output:=hh.output,size:=hh.size,same:=hh.same,laid:=hh.laid,s0:=hh.s0,s1:=hh.s1,keep:=hh.keep,tmps:=hI.tmps,dfr:=hI.dfr
         slot:=fun s' p hp=>by
           rw [hge,Vv] at hp
           by_cases e:s'=s
           · subst e
             rw [decide_eq_true rfl,if_pos rfl] at hp
             cases hp
             have:=zH (hI.slot s' _ hs)
             rw [this]
             exact .osl yB (.inl ⟨_,rfl,rfl⟩)
           · rw [decide_eq_false e,if_neg (by simp),qcr] at hp
             exact (hI.slot s' p hp).mono hk
         isv:=fun s' x hx=>by
           rw [hge,Vv] at hx
           by_cases e:s'=s
           · subst e
             rw [decide_eq_true rfl,if_pos rfl] at hx
             cases hx
             exact ⟨_,rfl⟩
           · rw [decide_eq_false e,if_neg (by simp),qcr] at hx
             exact hI.isv s' x hx }
end
end Go.Proofs.YtmlnilkbolcknaaGreatDoor.Pm
