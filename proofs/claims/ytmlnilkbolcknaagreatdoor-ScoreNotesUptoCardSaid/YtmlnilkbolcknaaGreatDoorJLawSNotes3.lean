/-
  SCORE: plain: a bar's items,told one by one. No program in sight. | SPANS: a leaf: a walk. (Printed by wip/pm/sp.py.) | SPANS: sharing out: a walk. (Printed by wip/pm/sp.py.) | SPANS: plain: leaves first,then where they stand: the same. | SCORE: plain: what is right with items that are counted;so many qF they take. No program in sight. | SCORE: plain: a bar's shares: as many qF as its items take;a bar told. No program in sight. | SCORE: plain: what is right with a piece that nothing is wrong with;what stays from bar to bar. No program in sight. | SCORE: plain: the notes of a bar,leaf by leaf (the document's way). No program in sight. | SCORE: plain: leaves as cells;what the document's bar needs. No program in sight. | THE WALKS of pitches,on: Between,Key,within,Sum,floor,Move,Mirror of the package. | MOVES: plain. | THE WALKS of pitches: of the reference: Abs,Right,Up,White,Steps,Halves,At,Within,Key. | THE WALKS of pitches: of the reference: At,Between,Sum,Move,Mirror. | TEXTS: small functions of pitches: the kit's kind of contracts,as contracts by values. | TEXTS: pitches moved: the kit's kind of contracts,as contracts by values. | PITCHES MOVED: walks. (Printed by wip/pm.) | THE VALUE MACHINE (PX): calls and operations that panic;functions that hand back or panic. No program in sight. | THE VALUE MACHINE: trailing dead numbers dropped where the result is a struct of values that nobody writes. No program in sight. | FROM THE ROW's LIST OF VARIABLES to what the walks ask of the world. | What every law's row of this seat needs: the arguments read qax the call as before it,whatever their types,if the call has turned nothing that was there. | THE VALUE MACHINE (Row): a law's arguments,opened to values. | SCORE: a text read: gaps and signs: walks. (Printed by wip/pm.) | SCORE: a text read: words: walks. (Printed by wip/pm.) | SCORE: the document's reader: signs and words: walks. (Printed by wip/pm.) | PITCHES AS TEXTS: signs,numbers: walks. (Printed by wip/pm.) | THE DOCUMENT's TEXTS: digits,pitches printed: walks. (Printed by wip/pm.) | THE DOCUMENT's TEXTS: numbers,intervals written: walks. (Printed by wip/pm.) | THE DOCUMENT's TEXTS: pitches read: walk. (Printed by wip/pm.) | PITCHES AS TEXTS: printed,read: walks. (Printed by wip/pm.) | SCORE: a text read: numbers and pitches: walks. (Printed by wip/pm.) | SCORE: how many ZW a text has: the kit's contract,by values. | SCORE: names,ZW: walks. (Printed by wip/pm.) | SCORE: a text read: lyrics: walk. (Printed by wip/pm.) | SCORE: the document's reader: numbers,pitches,lyrics: walks. (Printed by wip/pm.) | SCORE: plain: what the document's reader holds in its hands where a text is wrong: an item,items,pitches. No program in sight. | THE DOCUMENT's TEXTS: intervals read: walk. (Printed by wip/pm.) | CHORDS: plain,for the walks of their notes. No program in sight. | SCORE: the document's reader: items: walk. (Printed by wip/pm.) | THE VALUE MACHINE (DF): a function that puts off one call of a literal that recovers,with its two result cells lent to it. No program in sight. | SCORE: plain: what is read ends in no place,or in no piece;endings that hand on what is known. No program in sight. | SCORE: plain,for the document's reader: bars,voices,pieces: its loops;names. No program in sight. | SCORE: the document's reader: pieces: walk. (Printed by wip/pm.) | SCORE: may a text be sung: walk. (Printed by wip/pm.) | INTERVALS AS TEXTS: written: walks. (Printed by wip/pm.)
-/
import Derived.Test.YtmlnilkbolcknaaGreatDoorJLawSNotes2
import Derived.Test.YtmlnilkbolcknaaGreatDoorJLawSNotes1
import Derived.Test.YtmlnilkbolcknaaGreatDoorRows
import Derived.Lib.LaidU8T
import Derived.Lib.LaidTab
import Derived.PinnedBridge
import Derived.Lay
import Derived.WalkKit
import Derived.ProofKit
import Derived.OpenShut
import Derived.Lib.SmallJoins
import Derived.Below
import Derived.ChangeSame
import Derived.SizedLaws
import Derived.Deep.Matrix
import Derived.Shelf.Utf8.RuneCount
import Derived.Recover
set_option linter.unusedVariables false
set_option linter.unusedSimpArgs false
set_option linter.deprecated false
namespace Go.Proofs.YtmlnilkbolcknaaGreatDoor.Pm
open Go Fr
mutual
def WW (v a b:Int) (S:List Sp):It→List Iv→TsS→Int × TsS
 | .mk k s ps by_ ly ks,g,t=>if k=4 then zD v a b S ks g t else if k=5 then zD v a b S ks (by_ :: g) t else zJ v a b S (.mk k s ps by_ ly ks) g t
def zD (v a b:Int) (S:List Sp):List It→List Iv→TsS→Int × TsS
 | [],_,t=>(0,t)
 | x :: l,g,t=>if (WW v a b S x g t).1=0 then zD v a b S l g (WW v a b S x g t).2 else WW v a b S x g t
end
theorem telI_eq {v a b:Int} {S:List Sp} (x:It) (g:List Iv) (t:TsS):WW v a b S x g t=if iK x=4 then zD v a b S (iC x) g t else if iK x=5 then zD v a b S (iC x) (iB x :: g) t else zJ v a b S x g t:=by
 cases x with|mk k s ps by_ ly ks=>rw [WW];rfl
theorem telL_at {v a b:Int} {S:List Sp} {l:List It} {i:Nat} {g:List Iv} {t:TsS} (h:i<l.length):zD v a b S (l.drop i) g t=if (WW v a b S (l.getD i qB) g t).1=0 then zD v a b S (l.drop (i+1)) g (WW v a b S (l.getD i qB) g t).2 else WW v a b S (l.getD i qB) g t:=by
 rw [List.drop_eq_getElem_cons h,List.getD_eq_getElem?_getD,List.getElem?_eq_getElem h,zD];rfl
mutual
def lvs:It→Nat
 | .mk k _ _ _ _ ks=>if k=4∨k=5 then wk ks else 1
def wk:List It→Nat
 | []=>0
 | x :: l=>lvs x+wk l
end
theorem lvs_eq (x:It):lvs x=if iK x=4∨iK x=5 then wk (iC x) else 1:=by cases x with|mk k s ps by_ ly ks=>rw [lvs];rfl
theorem lvsL_at {l:List It} {i:Nat} (h:i<l.length):wk (l.drop i)=lvs (l.getD i qB)+wk (l.drop (i+1)):=by
 rw [List.drop_eq_getElem_cons h,List.getD_eq_getElem?_getD,List.getElem?_eq_getElem h,wk];rfl
mutual
def hgt:It→Nat
 | .mk _ _ _ _ _ ks=>hgtL ks+1
def hgtL:List It→Nat
 | []=>0
 | x :: l=>max (hgt x) (hgtL l)
end
theorem hgt_eq (x:It):hgt x=hgtL (iC x)+1:=by cases x with|mk k s ps by_ ly ks=>rw [hgt];rfl
theorem hgt_at:∀ {l:List It} {i:Nat},i<l.length→hgt (l.getD i qB)≤hgtL l
 | [],i,h=>absurd h (Nat.not_lt_zero i)
 | x :: l,0,_=>by rw [hgtL];exact Nat.le_max_left _ _
 | x :: l,i+1,h=>by
  rw [hgtL]
  have:=hgt_at (l:=l) (i:=i) (by simpa using h)
  refine Nat.le_trans ?_ (Nat.le_max_right _ _)
  simpa using this
mutual
def okI:It→Prop
 | .mk k _ ps _ _ ks=>(k=4∨k=5∨ps.length≤16)∧okL ks
def okL:List It→Prop
 | []=>True
 | x :: l=>okI x∧okL l
end
theorem okI_eq (x:It):okI x↔(iK x=4∨iK x=5∨(iP x).length≤16)∧okL (iC x):=by cases x with|mk k s ps by_ ly ks=>rw [okI];rfl
theorem ok_at:∀ {l:List It} {i:Nat},okL l→i<l.length→okI (l.getD i qB)
 | [],i,_,h=>absurd h (Nat.not_lt_zero i)
 | x :: l,0,h,_=>by rw [okL] at h;exact h.1
 | x :: l,i+1,h,hi=>by
  rw [okL] at h
  have:=ok_at (i:=i) h.2 (by simpa using hi)
  simpa using this

theorem qjx (g:List Iv):(zZ g).length=g.length*2:=QG (fun i:Iv=>[iv i.1,iv i.2]) 2 (fun _=>rfl) g
theorem ivs_src (g:List Iv):0+g.length*2≤(zZ g).length∧((zZ g).drop 0).take (g.length*2)=zZ g:=by
 rw [List.drop_zero,List.take_of_length_le (by rw [qjx];omega),qjx]
 exact ⟨by omega,rfl⟩
theorem ivs_cons (i:Iv) (g:List Iv):[iv i.1,iv i.2]++zZ g=zZ (i :: g):=by unfold zZ;rw [List.flatMap_cons]
/-! ### what stays -/
def lgI (n:Nt):Prop:=I64 n.2.2.1.1∧I64 n.2.2.1.2
def ZQ (t:TsS):Prop:=t.2.1≤t.1.length∧∀ n∈t.1,lgI n
theorem okTs_at {t:TsS} (h:ZQ t):∀ i,i<t.1.length→I64 (t.1.getD i yD).2.2.1.1∧I64 (t.1.getD i yD).2.2.1.2:=fun i hi=>by
 rw [List.getD_eq_getElem?_getD,List.getElem?_eq_getElem hi]
 exact h.2 _ (List.getElem_mem hi)
theorem tieL_ok {u d:Int}:∀ l:List Nt,(tieL u d l).1.length=l.length∧((tieL u d l).2=0→(∀ n∈l,lgI n)→∀ n∈(tieL u d l).1,lgI n)
 | []=>⟨rfl,fun _ h=>h⟩
 | n :: l=>by
  have ih:=tieL_ok (u:=u) (d:=d) l
  rw [tieL]
  split
  ·rename_i h0
   refine ⟨by simp [ih.1],fun h1 h2 m hm=>?_⟩
   rcases List.mem_cons.1 hm with rfl|hm
   ·exact jM (qak h0)
   ·exact ih.2 h1 (fun n hn=>h2 n (by simp [hn])) m hm
  ·rename_i h0
   exact ⟨by simp,fun h1=>absurd h1 h0⟩
theorem tieF_ok {u d:Int} {N:List Nt} {i:Nat}:(WV u d N i).1.length=N.length∧((WV u d N i).2=0→(∀ n∈N,lgI n)→∀ n∈(WV u d N i).1,lgI n):=by
 have h:=tieL_ok (u:=u) (d:=d) (N.drop i)
 unfold WV
 refine ⟨by simp only [List.length_append,h.1,List.length_take,List.length_drop];omega,fun h1 h2 n hn=>?_⟩
 rcases List.mem_append.1 hn with hn|hn
 ·exact h2 n (List.mem_of_mem_take hn)
 ·exact h.2 h1 (fun m hm=>h2 m (List.mem_of_mem_drop hm)) n hn
theorem chord_ok {v:Int} {s gg:Int × Int} {ly:qP} {by_:List Iv} (hg:I64 gg.1∧I64 gg.2):∀ (ps:List Pt) (N:List Nt),(wO v s gg ly by_ ps N).2=0→(∀ n∈N,lgI n) →
  (wO v s gg ly by_ ps N).1.length=N.length+ps.length∧∀ n∈(wO v s gg ly by_ ps N).1,lgI n
 | [],N,_,h2=>⟨rfl,h2⟩
 | p :: ps,N,h1,h2=>by
  rw [wO] at h1 ⊢
  split at h1
  ·rename_i h0
   rw [if_pos h0]
   have ih:=chord_ok (v:=v) (s:=s) (ly:=ly) (by_:=by_) hg ps (N++[(v,s,gg,(QD p by_).1,ly)]) h1 (fun n hn=>by
    rcases List.mem_append.1 hn with hn|hn
    ·exact h2 n hn
    ·rw [List.mem_singleton.1 hn];exact hg)
   exact ⟨by rw [ih.1];simp only [List.length_append,List.length_cons,List.length_nil];omega,ih.2⟩
  ·rename_i h0
   exact absurd h1 h0
theorem WM {v a b:Int} {S:List Sp} {x:It} {g:List Iv} {t:TsS} (hg:I64 (S.getD t.2.2 dS).2.2.1∧I64 (S.getD t.2.2 dS).2.2.2.1) (ht:ZQ t) (h0:(zJ v a b S x g t).1=0) :
  ZQ (zJ v a b S x g t).2∧(zJ v a b S x g t).2.1.length≤t.1.length+(iP x).length∧(zJ v a b S x g t).2.2.2=t.2.2+1:=by
 unfold zJ at h0 ⊢
 split at h0
 ·rename_i c1
  rw [if_pos c1]
  split at h0
  ·rename_i c2
   rw [if_pos c2]
   exact ⟨⟨Nat.zero_le _,ht.2⟩,Nat.le_add_right _ _,rfl⟩
  ·rename_i c2
   rw [if_neg c2]
   split at h0
   ·rename_i c3
    rw [if_pos c3]
    have h:=tieF_ok (u:=(S.getD t.2.2 dS).2.2.1) (d:=(S.getD t.2.2 dS).2.2.2.1) (N:=t.1) (i:=t.1.length-t.2.1)
    exact ⟨⟨by show t.2.1≤_;rw [h.1];exact ht.1,h.2 h0 ht.2⟩,by show (WV _ _ _ _).1.length≤_;rw [h.1];omega,rfl⟩
   ·rename_i c3
    rw [if_neg c3]
    have h:=chord_ok (v:=v) (s:=((plus a b (S.getD t.2.2 dS).1 (S.getD t.2.2 dS).2.1).1,(plus a b (S.getD t.2.2 dS).1 (S.getD t.2.2 dS).2.1).2.1)) (gg:=((S.getD t.2.2 dS).2.2.1,(S.getD t.2.2 dS).2.2.2.1)) (ly:=iL x) (by_:=g) hg (iP x) t.1 h0 ht.2
    refine ⟨⟨?_,h.2⟩,by show (wO _ _ _ _ _ _ _).1.length≤_;rw [h.1];omega,rfl⟩
    show (if _ then (iP x).length else t.2.1)≤(wO _ _ _ _ _ _ _).1.length
    rw [if_pos h0,h.1]
    omega
 ·rename_i c1
  exact absurd h0 c1
mutual
theorem qgx {v a b:Int} {S:List Sp} (hS:∀ i,i<S.length→I64 (S.getD i dS).2.2.1∧I64 (S.getD i dS).2.2.2.1):∀ (x:It) (g:List Iv) (t:TsS),okI x→ZQ t→t.2.2+lvs x≤S.length→(WW v a b S x g t).1=0 →
  ZQ (WW v a b S x g t).2∧(WW v a b S x g t).2.1.length≤t.1.length+16*lvs x∧(WW v a b S x g t).2.2.2=t.2.2+lvs x
 | .mk k s ps by_ ly ks,g,t,ho,ht,hk,h0=>by
  rw [okI] at ho
  rw [lvs] at hk ⊢
  rw [WW] at h0 ⊢
  by_cases c4:k=4
  ·rw [if_pos c4] at h0 ⊢
   rw [if_pos (.inl c4)] at hk ⊢
   exact WC hS ks g t ho.2 ht hk h0
  rw [if_neg c4] at h0 ⊢
  by_cases c5:k=5
  ·rw [if_pos c5] at h0 ⊢
   rw [if_pos (.inr c5)] at hk ⊢
   exact WC hS ks _ t ho.2 ht hk h0
  rw [if_neg c5] at h0 ⊢
  rw [if_neg (by omega)] at hk ⊢
  have h:=WM (hS t.2.2 (by omega)) ht h0
  refine ⟨h.1,?_,h.2.2⟩
  have hp:ps.length≤16:=by omega
  have h2:=h.2.1
  simp only [iP] at h2
  omega
theorem WC {v a b:Int} {S:List Sp} (hS:∀ i,i<S.length→I64 (S.getD i dS).2.2.1∧I64 (S.getD i dS).2.2.2.1):∀ (l:List It) (g:List Iv) (t:TsS),okL l→ZQ t→t.2.2+wk l≤S.length→(zD v a b S l g t).1=0 →
  ZQ (zD v a b S l g t).2∧(zD v a b S l g t).2.1.length≤t.1.length+16*wk l∧(zD v a b S l g t).2.2.2=t.2.2+wk l
 | [],g,t,_,ht,_,_=>by rw [zD];exact ⟨ht,Nat.le_add_right _ _,rfl⟩
 | x :: l,g,t,ho,ht,hk,h0=>by
  rw [okL] at ho
  rw [wk] at hk ⊢
  rw [zD] at h0 ⊢
  split at h0
  ·rename_i c
   rw [if_pos c]
   have h1:=qgx hS x g t ho.1 ht (by omega) c
   have h2:=WC hS l g (WW v a b S x g t).2 ho.2 h1.1 (by omega) h0
   exact ⟨h2.1,by have:=h1.2.1;have:=h2.2.1;omega,by have:=h1.2.2;have:=h2.2.2;omega⟩
  ·rename_i c
   exact absurd h0 c
end
set_option maxRecDepth 100000
set_option maxHeartbeats 4000000
theorem snoc_len {α:Type} (L:List α) (x:α):(L++[x]).length=L.length+1:=by simp
theorem leaf_pc (k u d:Int) (L:List Sp) (a b:Int) (hr:rightB u d=true) (hs:Yx L a b) (hl:L.length≤100000):PC Tryz.prog 132 [(.opt 0 0),(iv k),(.agg [(iv u),(iv d)])] [some (159,[(.osl 1 0 L.length),(iv a),(iv b)]),some (187,(qF L))] (iv ((zk k u d L a b).1)) [some (159,[(.osl 2 0 ((zk k u d L a b).2.1.length)),(iv ((zk k u d L a b).2.2.1)),(iv ((zk k u d L a b).2.2.2))]),none,some (187,(qF ((zk k u d L a b).2.1)))]:=by
 obtain ⟨hu,hd⟩:=jM hr
 obtain ⟨ha,hb⟩:=jM hs.1
 refine zH Tryz.func132 rfl (by kernel_rfl) (Nat.le_of_ble_eq_true rfl) (by kernel_rfl) (l0:=[ps 0 (.opt 0 0),ps 1 (iv k),ps 2 (.agg [(iv u),(iv d)]),pb 0 159 [(.osl 1 0 L.length),(iv a),(iv b)],pb 1 187 (qF L)]) rfl (fun c0 Bor hc0=>?_)
 refine qA<|qK mxd [.k2,.d,.n,.k2,.n] [ps 5 (.opt 2 0),pb 2 56 [(iv u),(iv d)]]<|qA<|QJ mxd [(5,.call [] [(.agg [(iv a),(iv b)]),(.agg [(iv u),(iv d)])] [] (.tup [(.agg [(iv ((Fr.plus a b u d).1)),(iv ((Fr.plus a b u d).2.1))]),(iv ((Fr.plus a b u d).2.2))]) [])] (bfm [[],[(0,1)],[(0,2)],[(0,3)],[],[(0,5)],[(0,6)],[(0,7)],[(0,7)],[],[(0,8),(9,1)],[(0,11)]]) [([24],[0]),([26],[24]),([28],[26]),([30],[1,28]),([32],[5,10]),([34],[30,32]),([22],[34]),([36],[22]),([38],[22]),([14,181],[]),([181],[14,36,181]),([16],[38])] [.k3,.n,.n,.k3,.n] [ps 7 (.opt 90 0),ps 8 (iv ((Fr.plus a b u d).2.2)),pb 90 56 [(iv ((Fr.plus a b u d).1)),(iv ((Fr.plus a b u d).2.1))]] (yC 58 (WJ a b u d (by assumption) (by assumption) (by assumption) (by assumption)) oz)<|qA<|qA<|qK mxd [.k5,.n,.r] [ps 21 (bv (!(decide (((Fr.plus a b u d).2.2)=0))))] ?_
 by_cases h1:((Fr.plus a b u d).2.2)=0
 ·refine qT (bt h1)<|qE<|qA<|qA<|qK mxd [.k4,.d,.n,.d,.r] [ps 9 (nv L.length)]<|qA ?_
  by_cases h2:k=3
  ·refine zX mxd (gy 3 2++[(5,.yes true)]) [.k5,.n,.r] [ps 33 (bv (decide (0<(L.length:Int))))] (oc (decide_eq_true h2) (oc (decide_eq_true h2) (oc (decide_eq_true h2) oz))) ?_
   by_cases h3:0<(L.length:Int)
   ·refine qQ (decide_eq_true h3)<|qA<|zX mxd [(6,.nat ((L.length-1)*5))] [.k1,.d,.k2,.d,.n,.d,.r] [ps 10 (.opt 1 ((L.length-1)*5))] (oi (((L.length:Nat):Int)-1) (by omega) (oc (by omega:(0:Int)≤(((L.length:Nat):Int)-1)∧(((L.length:Nat):Int)-1)<(L.length:Int)) (oc (by omega:0+(((L.length:Int)-1):Int).toNat*5=((L.length-1)*5)) oz)))<|qA ?_
    have hx:=jM (hs.2 (L.length-1) (by omega))
    obtain ⟨hx1,hx2⟩:=hx
    refine QJ mxd [(4,.cells [(iv ((L.getD (L.length-1) dS).2.2.1)),(iv ((L.getD (L.length-1) dS).2.2.2.1))]),(6,.call [] [(.agg [(iv ((L.getD (L.length-1) dS).2.2.1)),(iv ((L.getD (L.length-1) dS).2.2.2.1))]),(.agg [(iv u),(iv d)])] [] (.tup [(.agg [(iv ((Fr.plus ((L.getD (L.length-1) dS).2.2.1) ((L.getD (L.length-1) dS).2.2.2.1) u d).1)),(iv ((Fr.plus ((L.getD (L.length-1) dS).2.2.1) ((L.getD (L.length-1) dS).2.2.2.1) u d).2.1))]),(iv ((Fr.plus ((L.getD (L.length-1) dS).2.2.1) ((L.getD (L.length-1) dS).2.2.2.1) u d).2.2))]) []),(12,.cells (qF (yy L (Fr.plus (L.getD (L.length-1) dS).2.2.1 (L.getD (L.length-1) dS).2.2.2.1 u d).1 (Fr.plus (L.getD (L.length-1) dS).2.2.1 (L.getD (L.length-1) dS).2.2.2.1 u d).2.1)))] (bfm [[],[],[(1,1)],[(1,2)],[(1,3)],[],[(1,5)],[(1,6)],[(1,7)],[(1,7)],[(0,9)],[(0,9),(10,1)],[(0,9),(10,2)],[(0,13)]]) [([84],[20]),([86],[20]),([88],[86]),([90],[88]),([92],[3,90]),([94],[5,10]),([96],[92,94]),([82],[96]),([98],[82]),([100],[82]),([102],[84]),([104],[102]),([3],[3,98,104]),([16],[100])] [.k1,.d,.k1,.n,.d,.k1,.d,.n,.d,.r] [ps 8 (iv ((Fr.plus ((L.getD (L.length-1) dS).2.2.1) ((L.getD (L.length-1) dS).2.2.2.1) u d).2.2)),pb 1 187 (qF (yy L (Fr.plus (L.getD (L.length-1) dS).2.2.1 (L.getD (L.length-1) dS).2.2.2.1 u d).1 (Fr.plus (L.getD (L.length-1) dS).2.2.1 (L.getD (L.length-1) dS).2.2.2.1 u d).2.1))] (oc (yF spC 5 (fun _=>rfl) dS L (L.length-1) 2 2 (by omega) (by decide):((L.length-1)*5+2)+2≤((qF L)).length∧(((qF L)).drop ((L.length-1)*5+2)).take 2=[(iv ((L.getD (L.length-1) dS).2.2.1)),(iv ((L.getD (L.length-1) dS).2.2.2.1))]) (yC 338 (WJ ((L.getD (L.length-1) dS).2.2.1) ((L.getD (L.length-1) dS).2.2.2.1) u d (by assumption) (by assumption) (by assumption) (by assumption)) (oc (qgs L _ _ (by omega):((L.length-1)*5+2)+2≤((qF L)).length∧vH (qF L) ((L.length-1)*5+2) [(iv ((Fr.plus ((L.getD (L.length-1) dS).2.2.1) ((L.getD (L.length-1) dS).2.2.2.1) u d).1)),(iv ((Fr.plus ((L.getD (L.length-1) dS).2.2.1) ((L.getD (L.length-1) dS).2.2.2.1) u d).2.1))]=(qF (yy L (Fr.plus (L.getD (L.length-1) dS).2.2.1 (L.getD (L.length-1) dS).2.2.2.1 u d).1 (Fr.plus (L.getD (L.length-1) dS).2.2.1 (L.getD (L.length-1) dS).2.2.2.1 u d).2.1))) oz))) ?_
    refine qA<|qK mxd [.k3,.n,.r] [ps 54 (bv (!(decide (((Fr.plus ((L.getD (L.length-1) dS).2.2.1) ((L.getD (L.length-1) dS).2.2.2.1) u d).2.2)=0))))] ?_
    by_cases h4:((Fr.plus ((L.getD (L.length-1) dS).2.2.1) ((L.getD (L.length-1) dS).2.2.2.1) u d).2.2)=0
    ·refine qT (bt h4)<|qE<|qA<|qK mxd [.d,.d,.d,.d,.d,.n,.k1,.d] [pb 0 159 [(.osl 1 0 L.length),(iv ((Fr.plus a b u d).1)),(iv ((Fr.plus a b u d).2.1))]]<|qA<|qK mxd [.n,.r] [ps 6 (iv 0)] ?_
     rw [show zk k u d L a b=(0,yy L (Fr.plus (L.getD (L.length-1) dS).2.2.1 (L.getD (L.length-1) dS).2.2.2.1 u d).1 (Fr.plus (L.getD (L.length-1) dS).2.2.1 (L.getD (L.length-1) dS).2.2.2.1 u d).2.1,(Fr.plus a b u d).1,(Fr.plus a b u d).2.1) from by unfold zk;repeat (first|rw [if_pos (by assumption)]|rw [if_neg (by assumption)]|rw [if_pos (by omega)]|rw [if_neg (by omega)])]
     refine qX (Wk.eq (show _=[ps 6 (iv 0),pb 0 159 [(.osl 1 0 ((yy L (Fr.plus (L.getD (L.length-1) dS).2.2.1 (L.getD (L.length-1) dS).2.2.2.1 u d).1 (Fr.plus (L.getD (L.length-1) dS).2.2.1 (L.getD (L.length-1) dS).2.2.2.1 u d).2.1).length)),(iv ((Fr.plus a b u d).1)),(iv ((Fr.plus a b u d).2.1))],pb 1 187 (qF (yy L (Fr.plus (L.getD (L.length-1) dS).2.2.1 (L.getD (L.length-1) dS).2.2.2.1 u d).1 (Fr.plus (L.getD (L.length-1) dS).2.2.1 (L.getD (L.length-1) dS).2.2.2.1 u d).2.1))] from by rw [YI])) ?_
     exact zz fun cx_ a_ hI_=>zU (H':=[some (159,[(.osl 2 0 ((yy L (Fr.plus (L.getD (L.length-1) dS).2.2.1 (L.getD (L.length-1) dS).2.2.2.1 u d).1 (Fr.plus (L.getD (L.length-1) dS).2.2.1 (L.getD (L.length-1) dS).2.2.2.1 u d).2.1).length)),(iv ((Fr.plus a b u d).1)),(iv ((Fr.plus a b u d).2.1))]),none,some (187,(qF (yy L (Fr.plus (L.getD (L.length-1) dS).2.2.1 (L.getD (L.length-1) dS).2.2.2.1 u d).1 (Fr.plus (L.getD (L.length-1) dS).2.2.1 (L.getD (L.length-1) dS).2.2.2.1 u d).2.1)))]) (.inr rfl) (Wk.ren3D [ps 6 (iv 0),pb 0 159 [(.osl 2 0 ((yy L (Fr.plus (L.getD (L.length-1) dS).2.2.1 (L.getD (L.length-1) dS).2.2.2.1 u d).1 (Fr.plus (L.getD (L.length-1) dS).2.2.1 (L.getD (L.length-1) dS).2.2.2.1 u d).2.1).length)),(iv ((Fr.plus a b u d).1)),(iv ((Fr.plus a b u d).2.1))],pb 2 187 (qF (yy L (Fr.plus (L.getD (L.length-1) dS).2.2.1 (L.getD (L.length-1) dS).2.2.2.1 u d).1 (Fr.plus (L.getD (L.length-1) dS).2.2.1 (L.getD (L.length-1) dS).2.2.2.1 u d).2.1))] 2 hc0 [0,1,1] [(kb 2,(qF (yy L (Fr.plus (L.getD (L.length-1) dS).2.2.1 (L.getD (L.length-1) dS).2.2.2.1 u d).1 (Fr.plus (L.getD (L.length-1) dS).2.2.1 (L.getD (L.length-1) dS).2.2.2.1 u d).2.1)))] (oc (yW _) (oz)) (by kernel_rfl) rfl (by kernel_rfl) (by kernel_rfl) (by kernel_rfl)) rfl (oc rfl (oc rfl (oz))) (fun cx_ a_ hI_=>zK (l':=[ps 6 (iv 0),pb 0 159 [(.osl 2 0 ((yy L (Fr.plus (L.getD (L.length-1) dS).2.2.1 (L.getD (L.length-1) dS).2.2.2.1 u d).1 (Fr.plus (L.getD (L.length-1) dS).2.2.1 (L.getD (L.length-1) dS).2.2.2.1 u d).2.1).length)),(iv ((Fr.plus a b u d).1)),(iv ((Fr.plus a b u d).2.1))],pb 2 187 (qF (yy L (Fr.plus (L.getD (L.length-1) dS).2.2.1 (L.getD (L.length-1) dS).2.2.2.1 u d).1 (Fr.plus (L.getD (L.length-1) dS).2.2.1 (L.getD (L.length-1) dS).2.2.2.1 u d).2.1))]) (by kernel_rfl) cx_ a_ hI_) hI_
    refine qQ (bf h4)<|qA<|qK mxd [.d,.n,.d,.d,.d,.k2,.d] [ps 6 (iv ((Fr.plus ((L.getD (L.length-1) dS).2.2.1) ((L.getD (L.length-1) dS).2.2.2.1) u d).2.2))] ?_
    rw [show zk k u d L a b=((Fr.plus ((L.getD (L.length-1) dS).2.2.1) ((L.getD (L.length-1) dS).2.2.2.1) u d).2.2,yy L (Fr.plus (L.getD (L.length-1) dS).2.2.1 (L.getD (L.length-1) dS).2.2.2.1 u d).1 (Fr.plus (L.getD (L.length-1) dS).2.2.1 (L.getD (L.length-1) dS).2.2.2.1 u d).2.1,a,b) from by unfold zk;repeat (first|rw [if_pos (by assumption)]|rw [if_neg (by assumption)]|rw [if_pos (by omega)]|rw [if_neg (by omega)])]
    refine qX (Wk.eq (show _=[ps 6 (iv ((Fr.plus ((L.getD (L.length-1) dS).2.2.1) ((L.getD (L.length-1) dS).2.2.2.1) u d).2.2)),pb 0 159 [(.osl 1 0 ((yy L (Fr.plus (L.getD (L.length-1) dS).2.2.1 (L.getD (L.length-1) dS).2.2.2.1 u d).1 (Fr.plus (L.getD (L.length-1) dS).2.2.1 (L.getD (L.length-1) dS).2.2.2.1 u d).2.1).length)),(iv a),(iv b)],pb 1 187 (qF (yy L (Fr.plus (L.getD (L.length-1) dS).2.2.1 (L.getD (L.length-1) dS).2.2.2.1 u d).1 (Fr.plus (L.getD (L.length-1) dS).2.2.1 (L.getD (L.length-1) dS).2.2.2.1 u d).2.1))] from by rw [YI])) ?_
    exact zz fun cx_ a_ hI_=>zU (H':=[some (159,[(.osl 2 0 ((yy L (Fr.plus (L.getD (L.length-1) dS).2.2.1 (L.getD (L.length-1) dS).2.2.2.1 u d).1 (Fr.plus (L.getD (L.length-1) dS).2.2.1 (L.getD (L.length-1) dS).2.2.2.1 u d).2.1).length)),(iv a),(iv b)]),none,some (187,(qF (yy L (Fr.plus (L.getD (L.length-1) dS).2.2.1 (L.getD (L.length-1) dS).2.2.2.1 u d).1 (Fr.plus (L.getD (L.length-1) dS).2.2.1 (L.getD (L.length-1) dS).2.2.2.1 u d).2.1)))]) (.inr rfl) (Wk.ren3D [ps 6 (iv ((Fr.plus ((L.getD (L.length-1) dS).2.2.1) ((L.getD (L.length-1) dS).2.2.2.1) u d).2.2)),pb 0 159 [(.osl 2 0 ((yy L (Fr.plus (L.getD (L.length-1) dS).2.2.1 (L.getD (L.length-1) dS).2.2.2.1 u d).1 (Fr.plus (L.getD (L.length-1) dS).2.2.1 (L.getD (L.length-1) dS).2.2.2.1 u d).2.1).length)),(iv a),(iv b)],pb 2 187 (qF (yy L (Fr.plus (L.getD (L.length-1) dS).2.2.1 (L.getD (L.length-1) dS).2.2.2.1 u d).1 (Fr.plus (L.getD (L.length-1) dS).2.2.1 (L.getD (L.length-1) dS).2.2.2.1 u d).2.1))] 2 hc0 [0,1,1] [(kb 2,(qF (yy L (Fr.plus (L.getD (L.length-1) dS).2.2.1 (L.getD (L.length-1) dS).2.2.2.1 u d).1 (Fr.plus (L.getD (L.length-1) dS).2.2.1 (L.getD (L.length-1) dS).2.2.2.1 u d).2.1)))] (oc (yW _) (oz)) (by kernel_rfl) rfl (by kernel_rfl) (by kernel_rfl) (by kernel_rfl)) rfl (oc rfl (oc rfl (oz))) (fun cx_ a_ hI_=>zK (l':=[ps 6 (iv ((Fr.plus ((L.getD (L.length-1) dS).2.2.1) ((L.getD (L.length-1) dS).2.2.2.1) u d).2.2)),pb 0 159 [(.osl 2 0 ((yy L (Fr.plus (L.getD (L.length-1) dS).2.2.1 (L.getD (L.length-1) dS).2.2.2.1 u d).1 (Fr.plus (L.getD (L.length-1) dS).2.2.1 (L.getD (L.length-1) dS).2.2.2.1 u d).2.1).length)),(iv a),(iv b)],pb 2 187 (qF (yy L (Fr.plus (L.getD (L.length-1) dS).2.2.1 (L.getD (L.length-1) dS).2.2.2.1 u d).1 (Fr.plus (L.getD (L.length-1) dS).2.2.1 (L.getD (L.length-1) dS).2.2.2.1 u d).2.1))]) (by kernel_rfl) cx_ a_ hI_) hI_
   refine qT (decide_eq_false h3)<|QJ mxd [(14,.app none (some (qF (L++[(a,b,u,d,(decide (k=1)))]))))] (bfr [(0,0),(0,0),(1,1),(1,2),(1,3),(0,0),(5,1),(5,2),(5,3),(0,0),(0,0),(10,1),(5,7),(5,8),(1,13),(0,15),(0,16),(0,17)]) [([112],[0]),([114],[0]),([116],[114]),([118],[116]),([120],[1,118]),([122],[0]),([124],[122]),([126],[124]),([128],[1,126]),([130],[5,10]),([132],[2]),([134],[132]),([136],[128,130,134]),([138,661],[136]),([140,3,677],[3,120,138,661]),([142],[112]),([144],[142]),([1],[1,140,144])] [.k1,.d,.d,.k1,.d,.d,.d,.n,.d,.d,.k1,.n] [pb 0 159 [(.osl 338 0 (L.length+1)),(iv a),(iv b)],pb 338 187 (qF (L++[(a,b,u,d,(decide (k=1)))]))] (oc (qgz _:((qF L)).length=L.length*5) (oc (by omega:(L.length+1)*40≤140737488355328∧L.length+1≤9223372036854775807) (oc ((wq spC L [(a,b,u,d,(decide (k=1)))]).symm:(qF L)++[(iv a),(iv b),(iv u),(iv d),(bv (decide (k=1)))]=(qF (L++[(a,b,u,d,(decide (k=1)))]))) oz)))<|qA<|qK mxd [.d,.d,.d,.n,.d,.r] [pb 0 159 [(.osl 338 0 (L.length+1)),(iv ((Fr.plus a b u d).1)),(iv ((Fr.plus a b u d).2.1))]]<|qA<|qK mxd [.n,.r] [ps 6 (iv 0)] ?_
   rw [show zk k u d L a b=(0,L++[(a,b,u,d,(decide (k=1)))],(Fr.plus a b u d).1,(Fr.plus a b u d).2.1) from by unfold zk;repeat (first|rw [if_pos (by assumption)]|rw [if_neg (by assumption)]|rw [if_pos (by omega)]|rw [if_neg (by omega)])]
   refine qX (Wk.eq (show _=[ps 6 (iv 0),pb 0 159 [(.osl 338 0 ((L++[(a,b,u,d,(decide (k=1)))]).length)),(iv ((Fr.plus a b u d).1)),(iv ((Fr.plus a b u d).2.1))],pb 338 187 (qF (L++[(a,b,u,d,(decide (k=1)))]))] from by rw [snoc_len])) ?_
   exact zz fun cx_ a_ hI_=>zU (H':=[some (159,[(.osl 2 0 ((L++[(a,b,u,d,(decide (k=1)))]).length)),(iv ((Fr.plus a b u d).1)),(iv ((Fr.plus a b u d).2.1))]),none,some (187,(qF (L++[(a,b,u,d,(decide (k=1)))])))]) (.inr rfl) (Wk.ren3 [ps 6 (iv 0),pb 0 159 [(.osl 2 0 ((L++[(a,b,u,d,(decide (k=1)))]).length)),(iv ((Fr.plus a b u d).1)),(iv ((Fr.plus a b u d).2.1))],pb 2 187 (qF (L++[(a,b,u,d,(decide (k=1)))]))] 2 hc0 [0,1,338] [(kb 2,(qF (L++[(a,b,u,d,(decide (k=1)))])))] (oc (yW _) (oz)) (by kernel_rfl) rfl rfl (by kernel_rfl) (by kernel_rfl)) rfl (oc rfl (oc rfl (oz))) (fun cx_ a_ hI_=>zK (l':=[ps 6 (iv 0),pb 0 159 [(.osl 2 0 ((L++[(a,b,u,d,(decide (k=1)))]).length)),(iv ((Fr.plus a b u d).1)),(iv ((Fr.plus a b u d).2.1))],pb 2 187 (qF (L++[(a,b,u,d,(decide (k=1)))]))]) (by kernel_rfl) cx_ a_ hI_) hI_
  refine zX mxd (gn 3 2++[(5,.yes false)]) [.k5,.n,.r] [ps 33 (bv false)] (oc (decide_eq_false h2) (oc (decide_eq_false h2) (oc (decide_eq_false h2) oz)))<|zj (b:=false) rfl rfl<|QJ mxd [(14,.app none (some (qF (L++[(a,b,u,d,(decide (k=1)))]))))] (bfr [(0,0),(0,0),(1,1),(1,2),(1,3),(0,0),(5,1),(5,2),(5,3),(0,0),(0,0),(10,1),(5,7),(5,8),(1,13),(0,15),(0,16),(0,17)]) [([112],[0]),([114],[0]),([116],[114]),([118],[116]),([120],[1,118]),([122],[0]),([124],[122]),([126],[124]),([128],[1,126]),([130],[5,10]),([132],[2]),([134],[132]),([136],[128,130,134]),([138,661],[136]),([140,3,677],[3,120,138,661]),([142],[112]),([144],[142]),([1],[1,140,144])] [.k1,.d,.d,.k1,.d,.d,.d,.n,.d,.d,.k1,.n] [pb 0 159 [(.osl 338 0 (L.length+1)),(iv a),(iv b)],pb 338 187 (qF (L++[(a,b,u,d,(decide (k=1)))]))] (oc (qgz _:((qF L)).length=L.length*5) (oc (by omega:(L.length+1)*40≤140737488355328∧L.length+1≤9223372036854775807) (oc ((wq spC L [(a,b,u,d,(decide (k=1)))]).symm:(qF L)++[(iv a),(iv b),(iv u),(iv d),(bv (decide (k=1)))]=(qF (L++[(a,b,u,d,(decide (k=1)))]))) oz)))<|qA<|qK mxd [.d,.d,.d,.n,.d,.r] [pb 0 159 [(.osl 338 0 (L.length+1)),(iv ((Fr.plus a b u d).1)),(iv ((Fr.plus a b u d).2.1))]]<|qA<|qK mxd [.n,.r] [ps 6 (iv 0)] ?_
  rw [show zk k u d L a b=(0,L++[(a,b,u,d,(decide (k=1)))],(Fr.plus a b u d).1,(Fr.plus a b u d).2.1) from by unfold zk;repeat (first|rw [if_pos (by assumption)]|rw [if_neg (by assumption)]|rw [if_pos (by omega)]|rw [if_neg (by omega)])]
  refine qX (Wk.eq (show _=[ps 6 (iv 0),pb 0 159 [(.osl 338 0 ((L++[(a,b,u,d,(decide (k=1)))]).length)),(iv ((Fr.plus a b u d).1)),(iv ((Fr.plus a b u d).2.1))],pb 338 187 (qF (L++[(a,b,u,d,(decide (k=1)))]))] from by rw [snoc_len])) ?_
  exact zz fun cx_ a_ hI_=>zU (H':=[some (159,[(.osl 2 0 ((L++[(a,b,u,d,(decide (k=1)))]).length)),(iv ((Fr.plus a b u d).1)),(iv ((Fr.plus a b u d).2.1))]),none,some (187,(qF (L++[(a,b,u,d,(decide (k=1)))])))]) (.inr rfl) (Wk.ren3 [ps 6 (iv 0),pb 0 159 [(.osl 2 0 ((L++[(a,b,u,d,(decide (k=1)))]).length)),(iv ((Fr.plus a b u d).1)),(iv ((Fr.plus a b u d).2.1))],pb 2 187 (qF (L++[(a,b,u,d,(decide (k=1)))]))] 2 hc0 [0,1,338] [(kb 2,(qF (L++[(a,b,u,d,(decide (k=1)))])))] (oc (yW _) (oz)) (by kernel_rfl) rfl rfl (by kernel_rfl) (by kernel_rfl)) rfl (oc rfl (oc rfl (oz))) (fun cx_ a_ hI_=>zK (l':=[ps 6 (iv 0),pb 0 159 [(.osl 2 0 ((L++[(a,b,u,d,(decide (k=1)))]).length)),(iv ((Fr.plus a b u d).1)),(iv ((Fr.plus a b u d).2.1))],pb 2 187 (qF (L++[(a,b,u,d,(decide (k=1)))]))]) (by kernel_rfl) cx_ a_ hI_) hI_
 refine qQ (bf h1)<|qA<|qK mxd [.d,.d,.d,.n,.d,.d,.d,.k2,.d,.d] [ps 6 (iv ((Fr.plus a b u d).2.2))] ?_
 rw [show zk k u d L a b=((Fr.plus a b u d).2.2,L,a,b) from by unfold zk;repeat (first|rw [if_pos (by assumption)]|rw [if_neg (by assumption)]|rw [if_pos (by omega)]|rw [if_neg (by omega)])]
 exact zz fun cx_ a_ hI_=>zU (H':=[some (159,[(.osl 2 0 ((L).length)),(iv a),(iv b)]),none,some (187,(qF L))]) (.inr rfl) (Wk.ren3D [ps 6 (iv ((Fr.plus a b u d).2.2)),pb 0 159 [(.osl 2 0 L.length),(iv a),(iv b)],pb 2 187 (qF L)] 2 hc0 [0,1,1] [(kb 2,(qF L))] (oc (yW _) (oz)) (by kernel_rfl) rfl (by kernel_rfl) (by kernel_rfl) (by kernel_rfl)) rfl (oc rfl (oc rfl (oz))) (fun cx_ a_ hI_=>zK (l':=[ps 6 (iv ((Fr.plus a b u d).2.2)),pb 0 159 [(.osl 2 0 L.length),(iv a),(iv b)],pb 2 187 (qF L)]) (by kernel_rfl) cx_ a_ hI_) hI_
abbrev aD1 (b:Beat) (i:Nat):=Fr.make (sh ((qL b).getD i dB)) (vO (qL b))
abbrev vN (b:Beat) (i:Nat) (u d:Int):=Fr.times ((aD1 b i).1) ((aD1 b i).2.1) u d
theorem WE {l:List Beat} {i:Nat} {all u d:Int} {st:StS} (h:i<l.length):yL (l.drop i) all u d st =
  if (make (sh (l.getD i dB)) all).2.2=0 then
   if (times (make (sh (l.getD i dB)) all).1 (make (sh (l.getD i dB)) all).2.1 u d).2.2=0 then
    if (qO (l.getD i dB) (times (make (sh (l.getD i dB)) all).1 (make (sh (l.getD i dB)) all).2.1 u d).1 (times (make (sh (l.getD i dB)) all).1 (make (sh (l.getD i dB)) all).2.1 u d).2.1 st).1=0
    then yL (l.drop (i+1)) all u d (qO (l.getD i dB) (times (make (sh (l.getD i dB)) all).1 (make (sh (l.getD i dB)) all).2.1 u d).1 (times (make (sh (l.getD i dB)) all).1 (make (sh (l.getD i dB)) all).2.1 u d).2.1 st).2
    else qO (l.getD i dB) (times (make (sh (l.getD i dB)) all).1 (make (sh (l.getD i dB)) all).2.1 u d).1 (times (make (sh (l.getD i dB)) all).1 (make (sh (l.getD i dB)) all).2.1 u d).2.1 st
   else ((times (make (sh (l.getD i dB)) all).1 (make (sh (l.getD i dB)) all).2.1 u d).2.2,st)
  else ((make (sh (l.getD i dB)) all).2.2,st):=by rw [WQ h,yL]
theorem share_step (b:Beat) (ih:∀ c:Beat,SizeOf.sizeOf c<SizeOf.sizeOf b→∀ (u d:Int) (L:List Sp) (a b3:Int),rightB u d=true→Yx L a b3→WZ c→cnt c≤4096→L.length+cnt c≤90000→PC Tryz.prog 102 [.opt 0 0,.agg (gB c),Yj u d] [some (159,[(.osl 1 0 L.length),(iv a),(iv b3)]),some (187,(qF L))] (iv (qO c u d (L,a,b3)).1) [some (159,[(.osl 2 0 ((qO c u d (L,a,b3)).2.1.length)),(iv ((qO c u d (L,a,b3)).2.2.1)),(iv ((qO c u d (L,a,b3)).2.2.2))]),none,some (187,(qF ((qO c u d (L,a,b3)).2.1)))]) (u d:Int) (L:List Sp) (a b3:Int) (hr:rightB u d=true) (hs:Yx L a b3) (hgood:WZ b) (hc:L.length+cnt b≤90000) (hc2:cnt b≤4096):PC Tryz.prog 102 [(.opt 0 0),(.agg [(iv (kd b)),(iv (sh b)),(.ssl (kc b) 0 ((qL b).length))]),(.agg [(iv u),(iv d)])] [some (159,[(.osl 1 0 L.length),(iv a),(iv b3)]),some (187,(qF L))] (iv ((qO b u d (L,a,b3)).1)) [some (159,[(.osl 2 0 ((qO b u d (L,a,b3)).2.1.length)),(iv ((qO b u d (L,a,b3)).2.2.1)),(iv ((qO b u d (L,a,b3)).2.2.2))]),none,some (187,(qF ((qO b u d (L,a,b3)).2.1)))]:=by
 obtain ⟨hu,hd⟩:=jM hr
 refine zH Tryz.func102 rfl (by kernel_rfl) (Nat.le_of_ble_eq_true rfl) (by kernel_rfl) (l0:=[ps 0 (.opt 0 0),ps 1 (.agg [(iv (kd b)),(iv (sh b)),(.ssl (kc b) 0 ((qL b).length))]),ps 2 (.agg [(iv u),(iv d)]),pb 0 159 [(.osl 1 0 L.length),(iv a),(iv b3)],pb 1 187 (qF L)]) rfl (fun c0 Bor hc0=>?_)
 refine qA<|qK mxd [.k1,.d,.d,.n,.n,.k2,.n,.n] [ps 4 (.opt 2 0),ps 5 (.opt 10 0),pb 2 125 [(iv (kd b)),(iv (sh b)),(.ssl (kc b) 0 ((qL b).length))],pb 10 56 [(iv u),(iv d)]]<|qA<|qA<|qK mxd [.k3,.n,.r] [ps 16 (bv (!(decide ((kd b)=4))))] ?_
 by_cases h1:(kd b)=4
 ·refine qT (bt h1)<|qE<|qA<|qK mxd [.k3,.n,.d,.r] [ps 7 (iv 0)]<|qA<|qA<|qK mxd [.k4,.n,.n,.n,.r] [ps 23 (.ssl (kc b) 0 ((qL b).length)),ps 24 (nv ((qL b).length)),ps 25 (iv 0)]<|qU ?_
  have hk4:kd b=4:=h1
  obtain ⟨hg1,hg2,hg3,hg⟩:=(qka b).1 hgood
  have hcn:=cnt_eq b
  have hkl:=qgd (qL b)
  have hsum:=qct hg
  have hne:0<(qL b).length:=List.length_pos_iff.2 (hg3 hk4)
  refine qX (Wk.eq (show _=[ps 0 (.opt 0 0),ps 4 (.opt 2 0),ps 5 (.opt 10 0),ps 7 (iv (vO ((qL b).take 0))),ps 23 (.ssl (kc b) 0 ((qL b).length)),ps 24 (nv ((qL b).length)),ps 25 (iv 0),pb 0 159 [(.osl 1 0 L.length),(iv a),(iv b3)],pb 1 187 (qF L),pb 2 125 [(iv (kd b)),(iv (sh b)),(.ssl (kc b) 0 ((qL b).length))],pb 10 56 [(iv u),(iv d)]] from by rfl)) ?_
  refine yB (α:={x:Nat // x≤(qL b).length}) (fun x=>[ps 0 (.opt 0 0),ps 4 (.opt 2 0),ps 5 (.opt 3 0),ps 7 (iv (vO ((qL b).take x.1))),ps 23 (.ssl (kc b) 0 ((qL b).length)),ps 24 (nv ((qL b).length)),ps 25 (nv x.1),pb 0 159 [(.osl 1 0 L.length),(iv a),(iv b3)],pb 1 187 (qF L),pb 2 125 [(iv (kd b)),(iv (sh b)),(.ssl (kc b) 0 ((qL b).length))],pb 3 56 [(iv u),(iv d)]]) (fun x=>(qL b).length-x.1) 4 ⟨0,Nat.zero_le _⟩ (Wk.ren3 _ 2 hc0 [0,1,2,10] [(kb 1,(qF L))] (oc (yW _) (oz)) (by kernel_rfl) rfl rfl (by kernel_rfl) (by kernel_rfl)) ?_
  rintro ⟨i,hi⟩
  refine qA<|qj mxd [] [ps 0 (.opt 0 0),ps 4 (.opt 2 0),ps 5 (.opt 3 0),ps 7 (iv (vO ((qL b).take i))),ps 23 (.ssl (kc b) 0 ((qL b).length)),ps 24 (nv ((qL b).length)),ps 25 (nv i),ps 26 (bv (decide (((i:Nat):Int)<(((qL b).length:Nat):Int)))),pb 0 159 [(.osl 1 0 L.length),(iv a),(iv b3)],pb 1 187 (qF L),pb 2 125 [(iv (kd b)),(iv (sh b)),(.ssl (kc b) 0 ((qL b).length))],pb 3 56 [(iv u),(iv d)]] (oz)<|qA ?_
  by_cases h2:(i:Int)<(((qL b).length:Nat):Int)
  ·refine qQ (decide_eq_true h2)<|qE<|qA<|qU<|qA<|zX mxd [(0,.nat (i*3)),(1,.cells [(iv (kd ((qL b).getD i dB))),(iv (sh ((qL b).getD i dB))),(.ssl (kc ((qL b).getD i dB)) 0 ((qL ((qL b).getD i dB)).length))])] [.k4,.n,.k3,.d,.k4,.n] [ps 9 (.opt 28 0),pb 28 125 [(iv (kd ((qL b).getD i dB))),(iv (sh ((qL b).getD i dB))),(.ssl (kc ((qL b).getD i dB)) 0 ((qL ((qL b).getD i dB)).length))]] (oc (by omega:(0:Int)≤(i:Int)∧(i:Int)<(((qL b).length:Nat):Int)) (oc (by omega:0+(((i:Nat):Int):Int).toNat*3=(i*3)) (oc (kc_at b i 0 3 (by omega) (by decide):(i*3)+3≤((kc b)).length∧(((kc b)).drop (i*3)).take 3=[(iv (kd ((qL b).getD i dB))),(iv (sh ((qL b).getD i dB))),(.ssl (kc ((qL b).getD i dB)) 0 ((qL ((qL b).getD i dB)).length))]) oz))) ?_
   have hsb:=sumSh_bd hg (i+1) (by omega)
   rw [qej (by omega)] at hsb
   refine zX mxd [] [.k3,.d,.n,.d,.k7,.d] [ps 7 (iv ((vO ((qL b).take i))+(sh ((qL b).getD i dB))))] (oi ((vO ((qL b).take i))+(sh ((qL b).getD i dB))) (by omega) oz)<|zE<|zX mxd [] [.k6,.d,.n,.r] [ps 25 (iv (((i:Nat):Int)+1))] (oi (((i:Nat):Int)+1) (by omega) oz) ?_
   exact zQ ⟨i+1,by omega⟩ (Wk.trans (Wk.eq (show _=[ps 0 (.opt 0 0),ps 4 (.opt 2 0),ps 5 (.opt 3 0),ps 7 (iv (vO ((qL b).take (i+1)))),ps 23 (.ssl (kc b) 0 ((qL b).length)),ps 24 (nv ((qL b).length)),ps 25 (iv (((i:Nat):Int)+1)),pb 0 159 [(.osl 1 0 L.length),(iv a),(iv b3)],pb 1 187 (qF L),pb 2 125 [(iv (kd b)),(iv (sh b)),(.ssl (kc b) 0 ((qL b).length))],pb 3 56 [(iv u),(iv d)]] from by rw [qej (by omega)])) (Wk.ren3 _ 2 hc0 [0,1,2,3] [(kb 1,(qF L))] (oc (yW _) (oz)) (by kernel_rfl) rfl rfl (by kernel_rfl) (by kernel_rfl))) (show (qL b).length-(i+1)<(qL b).length-i from by omega)
  refine qT (decide_eq_false h2)<|zR rfl rfl<|qA<|qA ?_
  obtain rfl:i=(qL b).length:=by omega
  refine qX (Wk.eq (show _=[ps 0 (.opt 0 0),ps 4 (.opt 2 0),ps 5 (.opt 3 0),ps 7 (iv (vO (qL b))),ps 23 (.ssl (kc b) 0 ((qL b).length)),ps 24 (nv ((qL b).length)),ps 25 (nv ((qL b).length)),ps 26 (bv (decide (((((qL b).length):Nat):Int)<(((qL b).length:Nat):Int)))),pb 0 159 [(.osl 1 0 L.length),(iv a),(iv b3)],pb 1 187 (qF L),pb 2 125 [(iv (kd b)),(iv (sh b)),(.ssl (kc b) 0 ((qL b).length))],pb 3 56 [(iv u),(iv d)]] from by rw [List.take_length])) ?_
  refine qK mxd [.k1,.d,.k2,.d,.d,.d,.d,.n,.n,.n,.k2,.d,.r] [ps 35 (.ssl (kc b) 0 ((qL b).length)),ps 36 (nv ((qL b).length)),ps 37 (iv 0)]<|qU<|yB (α:={x:Nat × List Sp × Int × Int // x.1≤(qL b).length∧yL ((qL b).drop x.1) (vO (qL b)) u d (x.2.1,x.2.2.1,x.2.2.2)=yL (qL b) (vO (qL b)) u d (L,a,b3)∧Yx x.2.1 x.2.2.1 x.2.2.2∧x.2.1.length+ZG ((qL b).drop x.1)≤L.length+ZG (qL b)∧ZG ((qL b).drop x.1)≤ZG (qL b)}) (fun x=>[ps 0 (.opt 0 0),ps 5 (.opt 3 0),ps 7 (iv (vO (qL b))),ps 35 (.ssl (kc b) 0 ((qL b).length)),ps 36 (nv ((qL b).length)),ps 37 (nv x.1.1),pb 0 159 [(.osl 2 0 x.1.2.1.length),(iv x.1.2.2.1),(iv x.1.2.2.2)],pb 2 187 (qF x.1.2.1),pb 3 56 [(iv u),(iv d)]]) (fun x=>(qL b).length-x.1.1) 4 ⟨(0,L,a,b3),⟨Nat.zero_le _,rfl,hs,Nat.le_refl _,Nat.le_refl _⟩⟩ (Wk.ren3D _ 2 hc0 [0,1,1,3] [(kb 2,(qF L))] (oc (yW _) (oz)) (by kernel_rfl) rfl (by kernel_rfl) (by kernel_rfl) (by kernel_rfl)) ?_
  rintro ⟨⟨i,L2,a2,b2⟩,⟨hi,hL,hs2,hn,hcd⟩⟩
  dsimp only at hi hL hs2 hn hcd
  refine qA<|qj mxd [] [ps 0 (.opt 0 0),ps 5 (.opt 3 0),ps 7 (iv (vO (qL b))),ps 35 (.ssl (kc b) 0 ((qL b).length)),ps 36 (nv ((qL b).length)),ps 37 (nv i),ps 38 (bv (decide (((i:Nat):Int)<(((qL b).length:Nat):Int)))),pb 0 159 [(.osl 2 0 L2.length),(iv a2),(iv b2)],pb 2 187 (qF L2),pb 3 56 [(iv u),(iv d)]] (oz)<|qA ?_
  by_cases h3:(i:Int)<(((qL b).length:Nat):Int)
  ·refine qQ (decide_eq_true h3)<|qE<|qA<|qU<|qA<|zX mxd [(0,.nat (i*3)),(1,.cells [(iv (kd ((qL b).getD i dB))),(iv (sh ((qL b).getD i dB))),(.ssl (kc ((qL b).getD i dB)) 0 ((qL ((qL b).getD i dB)).length))])] [.k3,.n,.k3,.d,.k3,.n] [ps 11 (.opt 28 0),pb 28 125 [(iv (kd ((qL b).getD i dB))),(iv (sh ((qL b).getD i dB))),(.ssl (kc ((qL b).getD i dB)) 0 ((qL ((qL b).getD i dB)).length))]] (oc (by omega:(0:Int)≤(i:Int)∧(i:Int)<(((qL b).length:Nat):Int)) (oc (by omega:0+(((i:Nat):Int):Int).toNat*3=(i*3)) (oc (kc_at b i 0 3 (by omega) (by decide):(i*3)+3≤((kc b)).length∧(((kc b)).drop (i*3)).take 3=[(iv (kd ((qL b).getD i dB))),(iv (sh ((qL b).getD i dB))),(.ssl (kc ((qL b).getD i dB)) 0 ((qL ((qL b).getD i dB)).length))]) oz)))<|qA ?_
   have hgx:=goodL_at hg (show i<(qL b).length by omega)
   have hgx2:=(qka _).1 hgx
   have hca:=qki (l:=qL b) (i:=i) (by omega)
   have hmr:(-1073741824≤(aD1 b i).1∧(aD1 b i).1≤1073741824)∧(-1073741824≤(aD1 b i).2.1∧(aD1 b i).2.1≤1073741824)∧(0≤(aD1 b i).2.2∧(aD1 b i).2.2≤4):=make_range _ _
   refine vJ mxd 3 [.k4,.n,.n,.k7,.n] [ps 12 (.opt 100 0),ps 13 (iv ((aD1 b i).2.2)),pb 100 56 [(iv ((aD1 b i).1)),(iv ((aD1 b i).2.1))]] (yC 68 (qjq (sh ((qL b).getD i dB)) (vO (qL b)) (by unfold Fr.I64;omega) (by unfold Fr.I64;omega)) oz)<|qA<|qA<|qK mxd [.k8,.k1,.n,.r] [ps 49 (bv (decide (((aD1 b i).2.2)=0)))] ?_
   by_cases h4:((aD1 b i).2.2)=0
   ·refine qQ (decide_eq_true h4)<|vJ mxd 2 [.k5,.d,.n,.k3,.d,.k4,.d,.n] [ps 13 (iv ((vN b i u d).2.2)),pb 100 56 [(iv ((vN b i u d).1)),(iv ((vN b i u d).2.1))]] (yC 156 (times_pc ((aD1 b i).1) ((aD1 b i).2.1) u d (by unfold Fr.I64;omega) (by unfold Fr.I64;omega) (by assumption) (by assumption)) oz)<|qA<|qA<|qK mxd [.k8,.k1,.n,.r] [ps 57 (bv (decide (((vN b i u d).2.2)=0)))] ?_
    by_cases h5:((vN b i u d).2.2)=0
    ·refine qQ (decide_eq_true h5)<|zX mxd [(3,.call [0,2] [(.opt 0 0),(.agg [(iv (kd ((qL b).getD i dB))),(iv (sh ((qL b).getD i dB))),(.ssl (kc ((qL b).getD i dB)) 0 ((qL ((qL b).getD i dB)).length))]),(.agg [(iv ((vN b i u d).1)),(iv ((vN b i u d).2.1))])] [some (159,[(.osl 1 0 L2.length),(iv a2),(iv b2)]),some (187,(qF L2))] (iv ((qO ((qL b).getD i dB) ((vN b i u d).1) ((vN b i u d).2.1) (L2,a2,b2)).1)) [some (159,[(.osl 2 0 ((qO ((qL b).getD i dB) ((vN b i u d).1) ((vN b i u d).2.1) (L2,a2,b2)).2.1.length)),(iv ((qO ((qL b).getD i dB) ((vN b i u d).1) ((vN b i u d).2.1) (L2,a2,b2)).2.2.1)),(iv ((qO ((qL b).getD i dB) ((vN b i u d).1) ((vN b i u d).2.1) (L2,a2,b2)).2.2.2))]),none,some (187,(qF ((qO ((qL b).getD i dB) ((vN b i u d).1) ((vN b i u d).2.1) (L2,a2,b2)).2.1)))])] [.k3,.d,.d,.d,.n,.k3,.d,.d,.n,.d,.k1,.d,.d,.n] [ps 13 (iv ((qO ((qL b).getD i dB) ((vN b i u d).1) ((vN b i u d).2.1) (L2,a2,b2)).1)),pb 0 159 [(.osl 244 0 ((qO ((qL b).getD i dB) ((vN b i u d).1) ((vN b i u d).2.1) (L2,a2,b2)).2.1.length)),(iv ((qO ((qL b).getD i dB) ((vN b i u d).1) ((vN b i u d).2.1) (L2,a2,b2)).2.2.1)),(iv ((qO ((qL b).getD i dB) ((vN b i u d).1) ((vN b i u d).2.1) (L2,a2,b2)).2.2.2))],pb 244 187 (qM (yH [0,2] 244) (qF ((qO ((qL b).getD i dB) ((vN b i u d).1) ((vN b i u d).2.1) (L2,a2,b2)).2.1)))] (oc (ih ((qL b).getD i dB) (kids_lt (by omega)) _ _ L2 a2 b2 (QX h5) hs2 hgx (by omega) (by omega):PC Tryz.prog 102 [(.opt 0 0),(.agg [(iv (kd ((qL b).getD i dB))),(iv (sh ((qL b).getD i dB))),(.ssl (kc ((qL b).getD i dB)) 0 ((qL ((qL b).getD i dB)).length))]),(.agg [(iv ((vN b i u d).1)),(iv ((vN b i u d).2.1))])] [some (159,[(.osl 1 0 L2.length),(iv a2),(iv b2)]),some (187,(qF L2))] (iv ((qO ((qL b).getD i dB) ((vN b i u d).1) ((vN b i u d).2.1) (L2,a2,b2)).1)) [some (159,[(.osl 2 0 ((qO ((qL b).getD i dB) ((vN b i u d).1) ((vN b i u d).2.1) (L2,a2,b2)).2.1.length)),(iv ((qO ((qL b).getD i dB) ((vN b i u d).1) ((vN b i u d).2.1) (L2,a2,b2)).2.2.1)),(iv ((qO ((qL b).getD i dB) ((vN b i u d).1) ((vN b i u d).2.1) (L2,a2,b2)).2.2.2))]),none,some (187,(qF ((qO ((qL b).getD i dB) ((vN b i u d).1) ((vN b i u d).2.1) (L2,a2,b2)).2.1)))]) (oc (rfl:[(.opt 0 0),(.agg [(iv (kd ((qL b).getD i dB))),(iv (sh ((qL b).getD i dB))),(.ssl (kc ((qL b).getD i dB)) 0 ((qL ((qL b).getD i dB)).length))]),(.agg [(iv ((vN b i u d).1)),(iv ((vN b i u d).2.1))])]=qM (qY [0,2] 244) [(.opt 0 0),(.agg [(iv (kd ((qL b).getD i dB))),(iv (sh ((qL b).getD i dB))),(.ssl (kc ((qL b).getD i dB)) 0 ((qL ((qL b).getD i dB)).length))]),(.agg [(iv ((vN b i u d).1)),(iv ((vN b i u d).2.1))])]) (oc (rfl:[(.osl 2 0 L2.length),(iv a2),(iv b2)]=qM (qY [0,2] 244) [(.osl 1 0 L2.length),(iv a2),(iv b2)]) (oc ((qG (yW _)).symm:(qF L2)=qM (qY [0,2] 244) (qF L2)) oz))))<|qX (Wk.eq (show _=[ps 0 (.opt 0 0),ps 5 (.opt 3 0),ps 7 (iv (vO (qL b))),ps 13 (iv ((qO ((qL b).getD i dB) ((vN b i u d).1) ((vN b i u d).2.1) (L2,a2,b2)).1)),ps 35 (.ssl (kc b) 0 ((qL b).length)),ps 36 (nv ((qL b).length)),ps 37 (nv i),pb 0 159 [(.osl 244 0 ((qO ((qL b).getD i dB) ((vN b i u d).1) ((vN b i u d).2.1) (L2,a2,b2)).2.1.length)),(iv ((qO ((qL b).getD i dB) ((vN b i u d).1) ((vN b i u d).2.1) (L2,a2,b2)).2.2.1)),(iv ((qO ((qL b).getD i dB) ((vN b i u d).1) ((vN b i u d).2.1) (L2,a2,b2)).2.2.2))],pb 3 56 [(iv u),(iv d)],pb 244 187 (qF ((qO ((qL b).getD i dB) ((vN b i u d).1) ((vN b i u d).2.1) (L2,a2,b2)).2.1))] from by simp only [qG (yW _)])) ?_
     refine qA<|qK mxd [.k7,.n,.r] [ps 63 (bv (!(decide (((qO ((qL b).getD i dB) ((vN b i u d).1) ((vN b i u d).2.1) (L2,a2,b2)).1)=0))))] ?_
     by_cases h6:((qO ((qL b).getD i dB) ((vN b i u d).1) ((vN b i u d).2.1) (L2,a2,b2)).1)=0
     ·refine qT (bt h6)<|qE<|zE<|zX mxd [] [.k3,.d,.k2,.d,.n,.d,.r] [ps 37 (iv (((i:Nat):Int)+1))] (oi (((i:Nat):Int)+1) (by omega) oz) ?_
      exact zQ ⟨(i+1,(qO ((qL b).getD i dB) (vN b i u d).1 (vN b i u d).2.1 (L2,a2,b2)).2),⟨by omega,by rw [WE (by omega),if_pos (by assumption),if_pos (by assumption),if_pos (by assumption)] at hL;exact hL,qbc _ _ _ _ (QX (by assumption)) hs2 (by assumption),by have h1:=qhc ((qL b).getD i dB) (vN b i u d).1 (vN b i u d).2.1 (L2,a2,b2);have h2:=qki (l:=qL b) (i:=i) (by omega);dsimp only at h1;show (qO ((qL b).getD i dB) (vN b i u d).1 (vN b i u d).2.1 (L2,a2,b2)).2.1.length+ZG ((qL b).drop (i+1))≤_;omega,by have h2:=qki (l:=qL b) (i:=i) (by omega);show ZG ((qL b).drop (i+1))≤_;omega⟩⟩ (Wk.ren3 _ 2 hc0 [0,1,244,3] [(kb 2,(qF ((qO ((qL b).getD i dB) (vN b i u d).1 (vN b i u d).2.1 (L2,a2,b2)).2.1)))] (oc (yW _) (oz)) (by kernel_rfl) rfl rfl (by kernel_rfl) (by kernel_rfl)) (show (qL b).length-(i+1)<(qL b).length-i from by show (qL b).length-(i+1)<(qL b).length-i;omega)
     refine qQ (bf h6)<|qA<|qK mxd [.d,.d,.n,.d,.d,.d,.d,.d,.d,.k1,.d,.r] [ps 6 (iv ((qO ((qL b).getD i dB) ((vN b i u d).1) ((vN b i u d).2.1) (L2,a2,b2)).1))] ?_
     have hT:qO b u d (L,a,b3)=yL (qL b) (vO (qL b)) u d (L,a,b3):=by rw [ZV,if_pos hk4]
     rw [WE (by omega)] at hL
     repeat (first|rw [if_pos (by assumption)] at hL|rw [if_neg (by assumption)] at hL)
     rw [show qO b u d (L,a,b3)=qO ((qL b).getD i dB) (vN b i u d).1 (vN b i u d).2.1 (L2,a2,b2) from hT.trans hL.symm]
     exact zz fun cx_ a_ hI_=>qx (zU (H':=[some (159,[(.osl 2 0 ((qO ((qL b).getD i dB) (vN b i u d).1 (vN b i u d).2.1 (L2,a2,b2)).2.1.length)),(iv ((qO ((qL b).getD i dB) (vN b i u d).1 (vN b i u d).2.1 (L2,a2,b2)).2.2.1)),(iv ((qO ((qL b).getD i dB) (vN b i u d).1 (vN b i u d).2.1 (L2,a2,b2)).2.2.2))]),none,some (187,(qF ((qO ((qL b).getD i dB) (vN b i u d).1 (vN b i u d).2.1 (L2,a2,b2)).2.1)))]) (.inr rfl) (Wk.ren3 [ps 6 (iv ((qO ((qL b).getD i dB) ((vN b i u d).1) ((vN b i u d).2.1) (L2,a2,b2)).1)),pb 0 159 [(.osl 2 0 ((qO ((qL b).getD i dB) ((vN b i u d).1) ((vN b i u d).2.1) (L2,a2,b2)).2.1.length)),(iv ((qO ((qL b).getD i dB) ((vN b i u d).1) ((vN b i u d).2.1) (L2,a2,b2)).2.2.1)),(iv ((qO ((qL b).getD i dB) ((vN b i u d).1) ((vN b i u d).2.1) (L2,a2,b2)).2.2.2))],pb 2 187 (qF ((qO ((qL b).getD i dB) ((vN b i u d).1) ((vN b i u d).2.1) (L2,a2,b2)).2.1))] 2 hc0 [0,1,244] [(kb 2,(qF ((qO ((qL b).getD i dB) ((vN b i u d).1) ((vN b i u d).2.1) (L2,a2,b2)).2.1)))] (oc (yW _) (oz)) (by kernel_rfl) rfl rfl (by kernel_rfl) (by kernel_rfl)) rfl (oc rfl (oc rfl (oz))) (fun cx_ a_ hI_=>zK (l':=[ps 6 (iv ((qO ((qL b).getD i dB) ((vN b i u d).1) ((vN b i u d).2.1) (L2,a2,b2)).1)),pb 0 159 [(.osl 2 0 ((qO ((qL b).getD i dB) ((vN b i u d).1) ((vN b i u d).2.1) (L2,a2,b2)).2.1.length)),(iv ((qO ((qL b).getD i dB) ((vN b i u d).1) ((vN b i u d).2.1) (L2,a2,b2)).2.2.1)),(iv ((qO ((qL b).getD i dB) ((vN b i u d).1) ((vN b i u d).2.1) (L2,a2,b2)).2.2.2))],pb 2 187 (qF ((qO ((qL b).getD i dB) ((vN b i u d).1) ((vN b i u d).2.1) (L2,a2,b2)).2.1))]) (by kernel_rfl) cx_ a_ hI_) hI_)
    refine qT (decide_eq_false h5)<|qE<|qA<|qK mxd [.k3,.d,.d,.k4,.d,.n,.k3,.d,.d] [ps 63 (bv (!(decide (((vN b i u d).2.2)=0))))]<|qQ (bf h5)<|qA<|qK mxd [.d,.d,.n,.d,.d,.d,.d,.d,.d,.k2,.d] [ps 6 (iv ((vN b i u d).2.2))] ?_
    have hT:qO b u d (L,a,b3)=yL (qL b) (vO (qL b)) u d (L,a,b3):=by rw [ZV,if_pos hk4]
    rw [WE (by omega)] at hL
    repeat (first|rw [if_pos (by assumption)] at hL|rw [if_neg (by assumption)] at hL)
    rw [show qO b u d (L,a,b3)=((vN b i u d).2.2,L2,a2,b2) from hT.trans hL.symm]
    exact zz fun cx_ a_ hI_=>qx (zU (H':=[some (159,[(.osl 2 0 L2.length),(iv a2),(iv b2)]),none,some (187,(qF L2))]) (.inr rfl) (Wk.ren3 [ps 6 (iv ((vN b i u d).2.2)),pb 0 159 [(.osl 2 0 L2.length),(iv a2),(iv b2)],pb 2 187 (qF L2)] 2 hc0 [0,1,2] [(kb 2,(qF L2))] (oc (yW _) (oz)) (by kernel_rfl) rfl rfl (by kernel_rfl) (by kernel_rfl)) rfl (oc rfl (oc rfl (oz))) (fun cx_ a_ hI_=>zK (l':=[ps 6 (iv ((vN b i u d).2.2)),pb 0 159 [(.osl 2 0 L2.length),(iv a2),(iv b2)],pb 2 187 (qF L2)]) (by kernel_rfl) cx_ a_ hI_) hI_)
   refine qT (decide_eq_false h4)<|qE<|qA<|qA<|qK mxd [.k8,.k1,.d,.n,.r] [ps 57 (bv (decide (((aD1 b i).2.2)=0)))]<|qT (decide_eq_false h4)<|qE<|qA<|qK mxd [.k3,.d,.d,.k4,.d,.n,.k3,.d,.d] [ps 63 (bv (!(decide (((aD1 b i).2.2)=0))))]<|qQ (bf h4)<|qA<|qK mxd [.d,.d,.n,.d,.d,.d,.d,.d,.d,.k2,.d] [ps 6 (iv ((aD1 b i).2.2))] ?_
   have hT:qO b u d (L,a,b3)=yL (qL b) (vO (qL b)) u d (L,a,b3):=by rw [ZV,if_pos hk4]
   rw [WE (by omega)] at hL
   repeat (first|rw [if_pos (by assumption)] at hL|rw [if_neg (by assumption)] at hL)
   rw [show qO b u d (L,a,b3)=((aD1 b i).2.2,L2,a2,b2) from hT.trans hL.symm]
   exact zz fun cx_ a_ hI_=>qx (zU (H':=[some (159,[(.osl 2 0 L2.length),(iv a2),(iv b2)]),none,some (187,(qF L2))]) (.inr rfl) (Wk.ren3 [ps 6 (iv ((aD1 b i).2.2)),pb 0 159 [(.osl 2 0 L2.length),(iv a2),(iv b2)],pb 2 187 (qF L2)] 2 hc0 [0,1,2] [(kb 2,(qF L2))] (oc (yW _) (oz)) (by kernel_rfl) rfl rfl (by kernel_rfl) (by kernel_rfl)) rfl (oc rfl (oc rfl (oz))) (fun cx_ a_ hI_=>zK (l':=[ps 6 (iv ((aD1 b i).2.2)),pb 0 159 [(.osl 2 0 L2.length),(iv a2),(iv b2)],pb 2 187 (qF L2)]) (by kernel_rfl) cx_ a_ hI_) hI_)
  refine qT (decide_eq_false h3)<|zR rfl rfl<|qA<|qK mxd [.d,.d,.n,.d,.d,.d,.d,.d,.k2,.d] [ps 6 (iv 0)] ?_
  have hT:qO b u d (L,a,b3)=yL (qL b) (vO (qL b)) u d (L,a,b3):=by rw [ZV,if_pos hk4]
  obtain rfl:i=(qL b).length:=by omega
  rw [List.drop_length,yL] at hL
  rw [show qO b u d (L,a,b3)=(0,L2,a2,b2) from hT.trans hL.symm]
  exact zz fun cx_ a_ hI_=>zU (H':=[some (159,[(.osl 2 0 L2.length),(iv a2),(iv b2)]),none,some (187,(qF L2))]) (.inr rfl) (Wk.ren3 [ps 6 (iv 0),pb 0 159 [(.osl 2 0 L2.length),(iv a2),(iv b2)],pb 2 187 (qF L2)] 2 hc0 [0,1,2] [(kb 2,(qF L2))] (oc (yW _) (oz)) (by kernel_rfl) rfl rfl (by kernel_rfl) (by kernel_rfl)) rfl (oc rfl (oc rfl (oz))) (fun cx_ a_ hI_=>zK (l':=[ps 6 (iv 0),pb 0 159 [(.osl 2 0 L2.length),(iv a2),(iv b2)],pb 2 187 (qF L2)]) (by kernel_rfl) cx_ a_ hI_) hI_
 refine qQ (bf h1)<|qA<|qj mxd [(4,.call [0,1] [(.opt 0 0),(iv (kd b)),(.agg [(iv u),(iv d)])] [some (159,[(.osl 1 0 L.length),(iv a),(iv b3)]),some (187,(qF L))] (iv ((zk (kd b) u d L a b3).1)) [some (159,[(.osl 2 0 ((zk (kd b) u d L a b3).2.1.length)),(iv ((zk (kd b) u d L a b3).2.2.1)),(iv ((zk (kd b) u d L a b3).2.2.2))]),none,some (187,(qF ((zk (kd b) u d L a b3).2.1)))])] [ps 6 (iv ((zk (kd b) u d L a b3).1)),pb 0 159 [(.osl 82 0 ((zk (kd b) u d L a b3).2.1.length)),(iv ((zk (kd b) u d L a b3).2.2.1)),(iv ((zk (kd b) u d L a b3).2.2.2))],pb 82 187 (qM (yH [0,1] 82) (qF ((zk (kd b) u d L a b3).2.1)))] (oc (leaf_pc (kd b) u d L a b3 hr hs (by omega)) (oc (rfl:[(.opt 0 0),(iv (kd b)),(.agg [(iv u),(iv d)])]=qM (qY [0,1] 82) [(.opt 0 0),(iv (kd b)),(.agg [(iv u),(iv d)])]) (oc (rfl:[(.osl 1 0 L.length),(iv a),(iv b3)]=qM (qY [0,1] 82) [(.osl 1 0 L.length),(iv a),(iv b3)]) (oc ((qG (yW _)).symm:(qF L)=qM (qY [0,1] 82) (qF L)) oz))))<|qX (Wk.eq (show _=[ps 6 (iv ((zk (kd b) u d L a b3).1)),pb 0 159 [(.osl 82 0 ((zk (kd b) u d L a b3).2.1.length)),(iv ((zk (kd b) u d L a b3).2.2.1)),(iv ((zk (kd b) u d L a b3).2.2.2))],pb 82 187 (qF ((zk (kd b) u d L a b3).2.1))] from by simp only [qG (yW _)])) ?_
 rw [show qO b u d (L,a,b3)=zk (kd b) u d L a b3 from by rw [ZV,if_neg (by assumption)]]
 exact zz fun cx_ a_ hI_=>zU (H':=[some (159,[(.osl 2 0 ((zk (kd b) u d L a b3).2.1.length)),(iv ((zk (kd b) u d L a b3).2.2.1)),(iv ((zk (kd b) u d L a b3).2.2.2))]),none,some (187,(qF ((zk (kd b) u d L a b3).2.1)))]) (.inr rfl) (Wk.ren3 [ps 6 (iv ((zk (kd b) u d L a b3).1)),pb 0 159 [(.osl 2 0 ((zk (kd b) u d L a b3).2.1.length)),(iv ((zk (kd b) u d L a b3).2.2.1)),(iv ((zk (kd b) u d L a b3).2.2.2))],pb 2 187 (qF ((zk (kd b) u d L a b3).2.1))] 2 hc0 [0,1,82] [(kb 2,(qF ((zk (kd b) u d L a b3).2.1)))] (oc (yW _) (oz)) (by kernel_rfl) rfl rfl (by kernel_rfl) (by kernel_rfl)) rfl (oc rfl (oc rfl (oz))) (fun cx_ a_ hI_=>zK (l':=[ps 6 (iv ((zk (kd b) u d L a b3).1)),pb 0 159 [(.osl 2 0 ((zk (kd b) u d L a b3).2.1.length)),(iv ((zk (kd b) u d L a b3).2.2.1)),(iv ((zk (kd b) u d L a b3).2.2.2))],pb 2 187 (qF ((zk (kd b) u d L a b3).2.1))]) (by kernel_rfl) cx_ a_ hI_) hI_
theorem qhd:∀ (m:Nat) (b:Beat),SizeOf.sizeOf b<m→∀ (u d:Int) (L:List Sp) (a b3:Int),rightB u d=true→Yx L a b3→WZ b→cnt b≤4096→L.length+cnt b≤90000→PC Tryz.prog 102 [.opt 0 0,.agg (gB b),Yj u d] [some (159,[(.osl 1 0 L.length),(iv a),(iv b3)]),some (187,(qF L))] (iv (qO b u d (L,a,b3)).1) [some (159,[(.osl 2 0 ((qO b u d (L,a,b3)).2.1.length)),(iv ((qO b u d (L,a,b3)).2.2.1)),(iv ((qO b u d (L,a,b3)).2.2.2))]),none,some (187,(qF ((qO b u d (L,a,b3)).2.1)))]
 | 0,_,h=>absurd h (Nat.not_lt_zero _)
 | m+1,b,h=>fun u d L a b3 h1 h2 h3 h4 h5=>share_step b (fun c hb=>qhd m c (by omega)) u d L a b3 h1 h2 h3 h5 h4
theorem share_pc (b:Beat) (u d:Int) (L:List Sp) (a b3:Int) (h1:rightB u d=true) (h2:Yx L a b3) (h3:WZ b) (h4:cnt b≤4096) (h5:L.length+cnt b≤90000):PC Tryz.prog 102 [.opt 0 0,.agg (gB b),Yj u d] [some (159,[(.osl 1 0 L.length),(iv a),(iv b3)]),some (187,(qF L))] (iv (qO b u d (L,a,b3)).1) [some (159,[(.osl 2 0 ((qO b u d (L,a,b3)).2.1.length)),(iv ((qO b u d (L,a,b3)).2.2.1)),(iv ((qO b u d (L,a,b3)).2.2.2))]),none,some (187,(qF ((qO b u d (L,a,b3)).2.1)))]:=qhd _ b (Nat.lt_succ_self _) u d L a b3 h1 h2 h3 h4 h5
open Gcd
def yQ (b:Beat) (u d:Int):Int:=if Qw b=0 then if rightB u d=true then if u<1 then 3 else (qO b u d ([],0,1)).1 else 2 else Qw b
def ww (b:Beat) (u d:Int):List Sp:=(qO b u d ([],0,1)).2.1
def qem (b:Beat) (u d:Int):PV:=if yQ b u d=0 then .tup [.ssl (qF (ww b u d)) 0 (ww b u d).length,iv 0] else .tup [.ssl [] 0 0,iv (yQ b u d)]
theorem Qz {b:Beat} {u d e:Int} (he:yQ b u d=e) (h:e≠0):qem b u d = .tup [.ssl [] 0 0,iv e]:=by unfold qem;rw [he,if_neg h]
theorem qag {b:Beat} {u d:Int} (h:yQ b u d=0):qem b u d = .tup [.ssl (qF (ww b u d)) 0 (ww b u d).length,iv 0]:=by unfold qem;rw [if_pos h]
theorem st0_ok:Yx [] 0 1:=⟨by decide +kernel,fun i h=>absurd h (Nat.not_lt_zero _)⟩
theorem qac {b:Beat} (h:Qw b=0):WZ b∧cnt b≤4096:=by
 obtain ⟨h1,h2,h3⟩:=qjt b 1 0 (by decide) (by decide)
 obtain ⟨h4,h5,h6⟩:=h3 h
 exact ⟨h6,by omega⟩
mutual
def gdI:It→Prop
 | .mk k _ _ _ _ ks=>((k=4∨k=5)↔ks.length≠0)∧gdL ks
def gdL:List It→Prop
 | []=>True
 | x :: l=>gdI x∧gdL l
end
theorem noteOk_kids {x:It} (h:vQ x=true):(iC x).length=0∧(iP x).length≤16:=by
 unfold vQ at h
 by_cases c1:(iP x).length=0
 ·rw [if_pos c1] at h;cases h
 rw [if_neg c1] at h
 by_cases c2:16<(iP x).length
 ·rw [if_pos c2] at h;cases h
 rw [if_neg c2] at h
 by_cases c3:0<(iC x).length
 ·rw [if_pos c3] at h;cases h
 omega
theorem restOk_kids {x:It} (h:vI x=true):(iC x).length=0∧(iP x).length=0:=by
 unfold vI at h
 by_cases c1:(iP x).length=0
 ·rw [if_pos c1] at h
  by_cases c2:(iC x).length=0
  ·exact ⟨c2,c1⟩
  ·rw [if_neg c2] at h;cases h
 ·rw [if_neg c1] at h;cases h
theorem qjz {x:It} (h:yK x=true):(iC x).length≠0:=by
 unfold yK at h
 by_cases c1:(iC x).length=0
 ·rw [if_pos c1] at h;cases h
 ·exact c1
mutual
theorem itS_good:∀ (x:It) (lv n:Int),0≤n→(vq x lv n).1=true→gdI x∧okI x∧(hgt x:Int)≤32-lv∧(lvs x:Int)≤n-(vq x lv n).2
 | .mk k s ps b ly ks,lv,n,hn,h=>by
  rw [vq] at h ⊢
  rw [gdI,okI,hgt,lvs]
  by_cases c0:n-1<0∨31<lv∨s<1∨65536<s
  ·rw [if_pos c0] at h;cases h
  rw [if_neg c0] at h ⊢
  by_cases c1:k=1
  ·rw [if_pos c1] at h ⊢
   have hk:=noteOk_kids h
   simp only [iC,iP] at hk
   have hnil:ks=[]:=List.length_eq_zero_iff.1 hk.1
   subst hnil
   refine ⟨⟨by simp;omega,by rw [gdL];trivial⟩,⟨.inr (.inr hk.2),by rw [okL];trivial⟩,by rw [hgtL];omega,by rw [if_neg (by omega)];dsimp only;omega⟩
  rw [if_neg c1] at h ⊢
  by_cases c2:k=2∨k=3
  ·rw [if_pos c2] at h ⊢
   have hk:=restOk_kids h
   simp only [iC,iP] at hk
   have hnil:ks=[]:=List.length_eq_zero_iff.1 hk.1
   subst hnil
   refine ⟨⟨by simp;omega,by rw [gdL];trivial⟩,⟨.inr (.inr (by omega)),by rw [okL];trivial⟩,by rw [hgtL];omega,by rw [if_neg (by omega)];dsimp only;omega⟩
  rw [if_neg c2] at h ⊢
  by_cases c4:k=4∨k=5
  ·rw [if_pos c4] at h ⊢
   by_cases cg:yK (.mk k s ps b ly ks)=true
   ·rw [if_pos cg] at h ⊢
    have hk:=qjz cg
    simp only [iC] at hk
    have ih:=Qy ks (lv+1) (n-1) (by omega) h
    refine ⟨⟨⟨fun _=>hk,fun _=>c4⟩,ih.1⟩,⟨by omega,ih.2.1⟩,by have:=ih.2.2.1 hk;omega,by rw [if_pos c4];have:=ih.2.2.2;omega⟩
   ·rw [if_neg cg] at h;cases h
  ·rw [if_neg c4] at h;cases h
theorem Qy:∀ (l:List It) (lv n:Int),0≤n→(wE l lv n).1=true→gdL l∧okL l∧(l.length≠0→(hgtL l:Int)≤32-lv)∧(wk l:Int)≤n-(wE l lv n).2
 | [],lv,n,hn,h=>by rw [gdL,okL,wE,wk];exact ⟨trivial,trivial,fun c=>absurd rfl c,by dsimp only;omega⟩
 | x :: l,lv,n,hn,h=>by
  rw [wE] at h ⊢
  by_cases c:(vq x lv n).1=true
  ·rw [if_pos c] at h ⊢
   have h1:=itS_good x lv n hn c
   have hr:=qdv x lv n hn
   have h2:=Qy l lv (vq x lv n).2 (hr.2.2 c) h
   rw [gdL,okL,hgtL,wk]
   refine ⟨⟨h1.1,h2.1⟩,⟨h1.2.1,h2.2.1⟩,fun _=>?_,by have:=h1.2.2.2;have:=h2.2.2.2;omega⟩
   by_cases cl:l.length=0
   ·have:l=[]:=List.length_eq_zero_iff.1 cl
    subst this
    rw [hgtL]
    have:=h1.2.2.1
    omega
   ·have:=h1.2.2.1;have:=h2.2.2.1 cl
    omega
  ·rw [if_neg c] at h;cases h
end
theorem leaf1_len {u d:Int} {L:List Sp} {a b:Int} (h:(zk 1 u d L a b).1=0):(zk 1 u d L a b).2.1.length=L.length+1:=by
 unfold zk at h ⊢
 split at h
 ·rename_i c
  rw [if_pos c,if_neg (by omega)]
  simp
 ·rename_i c
  exact absurd h c
mutual
theorem share_lvs:∀ (x:It) (u d:Int) (t:StS),gdI x→(qO (yV x) u d t).1=0→(qO (yV x) u d t).2.1.length=t.1.length+lvs x
 | .mk k s ps b ly ks,u,d,t,hg,h=>by
  rw [gdI] at hg
  rw [yV,qO] at h ⊢
  rw [lvs]
  by_cases c:ks.length=0
  ·have hk:¬ (k=4∨k=5):=fun q=>hg.1.1 q c
   rw [if_pos c,if_neg (by decide)] at h ⊢
   rw [if_neg hk]
   exact leaf1_len h
  ·rw [if_neg c,if_pos rfl] at h ⊢
   rw [if_pos (hg.1.2 c)]
   exact qah ks _ u d t hg.2 h
theorem qah:∀ (l:List It) (al u d:Int) (t:StS),gdL l→(yL (jN l) al u d t).1=0→(yL (jN l) al u d t).2.1.length=t.1.length+wk l
 | [],al,u,d,t,_,h=>by rw [jN,yL,wk];rfl
 | x :: l,al,u,d,t,hg,h=>by
  rw [gdL] at hg
  rw [jN,yL] at h ⊢
  rw [wk]
  dsimp only at h ⊢
  split at h
  ·rename_i c1
   rw [if_pos c1]
   split at h
   ·rename_i c2
    rw [if_pos c2]
    split at h
    ·rename_i c3
     rw [if_pos c3]
     rw [qah l _ _ _ _ hg.2 h,share_lvs x _ _ t hg.1 c3]
     omega
    ·rename_i c3
     exact absurd h c3
   ·rename_i c2
    exact absurd h c2
  ·rename_i c1
   exact absurd h c1
end
def all4 (L:List Sp):Prop:=∀ n∈L,I64 n.1∧I64 n.2.1∧I64 n.2.2.1∧I64 n.2.2.2.1
theorem leaf1_all {u d:Int} {L:List Sp} {a b:Int} (hr:rightB u d=true) (hs:Yx L a b) (h4:all4 L) (h:(zk 1 u d L a b).1=0):all4 (zk 1 u d L a b).2.1:=by
 unfold zk at h ⊢
 split at h
 ·rename_i c
  rw [if_pos c,if_neg (by omega)]
  intro n hn
  rcases List.mem_append.1 hn with hn|hn
  ·exact h4 n hn
  ·rw [List.mem_singleton.1 hn]
   exact ⟨(jM hs.1).1,(jM hs.1).2,(jM hr).1,(jM hr).2⟩
 ·rename_i c
  exact absurd h c
mutual
theorem qep:∀ (x:It) (u d:Int) (t:StS),rightB u d=true→Yx t.1 t.2.1 t.2.2→all4 t.1→(qO (yV x) u d t).1=0→all4 (qO (yV x) u d t).2.1
 | .mk k s ps b ly ks,u,d,t,hr,hs,h4,h=>by
  rw [yV,qO] at h ⊢
  by_cases c:ks.length=0
  ·rw [if_pos c,if_neg (by decide)] at h ⊢
   exact leaf1_all hr hs h4 h
  ·rw [if_neg c,if_pos rfl] at h ⊢
   exact qdb ks _ u d t hr hs h4 h
theorem qdb:∀ (l:List It) (al u d:Int) (t:StS),rightB u d=true→Yx t.1 t.2.1 t.2.2→all4 t.1→(yL (jN l) al u d t).1=0→all4 (yL (jN l) al u d t).2.1
 | [],al,u,d,t,_,_,h4,h=>by rw [jN,yL];exact h4
 | x :: l,al,u,d,t,hr,hs,h4,h=>by
  rw [jN,yL] at h ⊢
  dsimp only at h ⊢
  split at h
  ·rename_i c1
   rw [if_pos c1]
   split at h
   ·rename_i c2
    rw [if_pos c2]
    split at h
    ·rename_i c3
     rw [if_pos c3]
     exact qdb l _ u d _ hr (qbc _ _ _ _ (QX c2) hs c3) (qep x _ _ t (QX c2) hs h4 c3) h
    ·rename_i c3
     exact absurd h c3
   ·rename_i c2
    exact absurd h c2
  ·rename_i c1
   exact absurd h c1
end
def zY (l:List It):It:=.mk 0 1 [] (0,0) [] l
theorem spans_share {b:Beat} {u d:Int} (h:yQ b u d=0):(qO b u d ([],0,1)).1=0:=by
 unfold yQ at h
 split at h
 ·split at h
  ·split at h
   ·cases h
   ·exact h
  ·cases h
 ·rename_i c;exact absurd h c
theorem qcj {l:List It} {u d:Int} (hl:l.length≠0) (hg:gdL l) (h:yQ (yV (zY l)) u d=0):(ww (yV (zY l)) u d).length=wk l:=by
 have h1:(qO (yV (zY l)) u d ([],0,1)).1=0:=by
  unfold yQ at h
  split at h
  ·split at h
   ·split at h
    ·cases h
    ·exact h
   ·cases h
  ·rename_i c;exact absurd h c
 unfold ww
 unfold zY at h1 ⊢
 rw [yV,qO,if_neg hl,if_pos rfl] at h1 ⊢
 rw [qah l _ u d _ hg h1]
 exact Nat.zero_add _
theorem qaf {l:List It} {u d:Int} (hr:rightB u d=true) (h:yQ (yV (zY l)) u d=0):all4 (ww (yV (zY l)) u d):=by
 have h1:(qO (yV (zY l)) u d ([],0,1)).1=0:=spans_share h
 unfold ww
 exact qep _ u d _ hr st0_ok (fun n hn=>by cases hn) h1
theorem all4_at {L:List Sp} (h:all4 L):∀ i,i<L.length→I64 (L.getD i dS).1∧I64 (L.getD i dS).2.1∧I64 (L.getD i dS).2.2.1∧I64 (L.getD i dS).2.2.2.1:=fun i hi=>by
 rw [List.getD_eq_getElem?_getD,List.getElem?_eq_getElem hi]
 exact h _ (List.getElem_mem hi)
def vV (v:Int) (b:Br) (s:(Int × Int) × List Nt × Nat):Int × (Int × Int) × List Nt × Nat :=
 if (make b.1 b.2.1).2.2=0 then
  if yQ (yV (zY b.2.2)) (make b.1 b.2.1).1 (make b.1 b.2.1).2.1=0 then
   if (zD v s.1.1 s.1.2 (ww (yV (zY b.2.2)) (make b.1 b.2.1).1 (make b.1 b.2.1).2.1) b.2.2 [] (s.2.1,s.2.2,0)).1=0 then
    ((plus s.1.1 s.1.2 (make b.1 b.2.1).1 (make b.1 b.2.1).2.1).2.2,((plus s.1.1 s.1.2 (make b.1 b.2.1).1 (make b.1 b.2.1).2.1).1,(plus s.1.1 s.1.2 (make b.1 b.2.1).1 (make b.1 b.2.1).2.1).2.1),
     (zD v s.1.1 s.1.2 (ww (yV (zY b.2.2)) (make b.1 b.2.1).1 (make b.1 b.2.1).2.1) b.2.2 [] (s.2.1,s.2.2,0)).2.1,
     (zD v s.1.1 s.1.2 (ww (yV (zY b.2.2)) (make b.1 b.2.1).1 (make b.1 b.2.1).2.1) b.2.2 [] (s.2.1,s.2.2,0)).2.2.1)
   else ((zD v s.1.1 s.1.2 (ww (yV (zY b.2.2)) (make b.1 b.2.1).1 (make b.1 b.2.1).2.1) b.2.2 [] (s.2.1,s.2.2,0)).1,s)
  else (yQ (yV (zY b.2.2)) (make b.1 b.2.1).1 (make b.1 b.2.1).2.1,s)
 else ((make b.1 b.2.1).2.2,s)
def vj (v:Int):List Br→(Int × Int) × List Nt × Nat→Int × (Int × Int) × List Nt × Nat
 | [],s=>(0,s)
 | b :: l,s=>if (vV v b s).1=0 then vj v l (vV v b s).2 else vV v b s
def wT:List Vo→Int→List Nt→Int × List Nt
 | [],_,N=>(0,N)
 | x :: l,i,N=>if (vj i x.2 ((0,1),[],0)).1=0 then wT l (i+1) (N++(vj i x.2 ((0,1),[],0)).2.2.1) else ((vj i x.2 ((0,1),[],0)).1,[])
def zS (l:List Vo):Int × List Nt:=if qv l=0 then wT l 0 [] else (qv l,[])
theorem barE_ok {b:Br} (h:wJ b=0):(wE b.2.2 1 4095).1=true∧b.2.2.length≠0:=by
 unfold wJ at h
 split at h
 ·cases h
 ·split at h
  ·rename_i c;exact ⟨c.1,by omega⟩
  ·cases h
theorem qgh:∀ {l:List Br},QW l=0→∀ i,i<l.length→wJ (l.getD i zA)=0
 | [],_,i,hi=>absurd hi (Nat.not_lt_zero i)
 | b :: l,h,i,hi=>by
  rw [QW] at h
  split at h
  ·rename_i c
   cases i with
   | zero=>exact c
   | succ i=>simpa using qgh h i (by simpa using hi)
  ·rename_i c;exact absurd h c
theorem qcg {v:Vo} (h:zw v=0):v.2.length≤1024∧QW v.2=0:=by
 unfold zw at h
 split at h
 ·split at h
  ·cases h
  ·rename_i c;exact ⟨by omega,h⟩
 ·cases h
theorem Zv:∀ {l:List Vo},wM l=0→∀ i,i<l.length→zw (l.getD i qC)=0
 | [],_,i,hi=>absurd hi (Nat.not_lt_zero i)
 | b :: l,h,i,hi=>by
  rw [wM] at h
  split at h
  ·rename_i c
   cases i with
   | zero=>exact c
   | succ i=>simpa using Zv h i (by simpa using hi)
  ·rename_i c;exact absurd h c
theorem WB {l:List Vo} (h:qv l=0):l.length≤64∧∀ i,i<l.length→(l.getD i qC).2.length≤1024∧∀ j,j<(l.getD i qC).2.length→(wE ((l.getD i qC).2.getD j zA).2.2 1 4095).1=true∧((l.getD i qC).2.getD j zA).2.2.length≠0:=by
 unfold qv at h
 split at h
 ·cases h
 ·exact ⟨by omega,fun i hi=>⟨(qcg (Zv h i hi)).1,fun j hj=>barE_ok (qgh (qcg (Zv h i hi)).2 j hj)⟩⟩
theorem qcd {v:Int} {y:Br} {a b:Int} {N:List Nt} {z:Nat} (hw:(wE y.2.2 1 4095).1=true) (hne:y.2.2.length≠0) (hok:ZQ (N,z,0)) (h:(vV v y ((a,b),N,z)).1=0) :
  ZQ ((vV v y ((a,b),N,z)).2.2.1,(vV v y ((a,b),N,z)).2.2.2,0)∧(vV v y ((a,b),N,z)).2.2.1.length≤N.length+65536∧I64 (vV v y ((a,b),N,z)).2.1.1∧I64 (vV v y ((a,b),N,z)).2.1.2:=by
 have hg:=Qy y.2.2 1 4095 (by decide) hw
 have hr:=WP y.2.2 1 4095 (by decide)
 have h0:=hr.2.2 hw
 unfold vV at h ⊢
 dsimp only at h ⊢
 split at h
 ·rename_i c1
  rw [if_pos c1]
  split at h
  ·rename_i c2
   rw [if_pos c2]
   split at h
   ·rename_i c3
    rw [if_pos c3]
    have hl:=qcj hne hg.1 c2
    have hk:=WC (fun i hi=>(all4_at (qaf (qan c1) c2) i hi).2.2) y.2.2 [] (N,z,0) hg.2.1 hok (by show 0+wk y.2.2≤_;omega) c3
    have hp:=jM (qak h)
    have h2:=hk.2.1
    dsimp only at h2
    exact ⟨hk.1,by show (zD _ _ _ _ _ _ _).2.1.length≤_;omega,hp.1,hp.2⟩
   ·rename_i c3;exact absurd h c3
  ·rename_i c2;exact absurd h c2
 ·rename_i c1;exact absurd h c1
theorem ZD {v:Int} {l:List Br} {i:Nat} {s:(Int × Int) × List Nt × Nat} (h:i<l.length):vj v (l.drop i) s=if (vV v (l.getD i zA) s).1=0 then vj v (l.drop (i+1)) (vV v (l.getD i zA) s).2 else vV v (l.getD i zA) s:=by
 rw [List.drop_eq_getElem_cons h,List.getD_eq_getElem?_getD,List.getElem?_eq_getElem h,vj];rfl
theorem jj {l:List Vo} {i:Nat} {k:Int} {N:List Nt} (h:i<l.length):wT (l.drop i) k N=if (vj k (l.getD i qC).2 ((0,1),[],0)).1=0 then wT (l.drop (i+1)) (k+1) (N++(vj k (l.getD i qC).2 ((0,1),[],0)).2.2.1) else ((vj k (l.getD i qC).2 ((0,1),[],0)).1,[]):=by
 rw [List.drop_eq_getElem_cons h,List.getD_eq_getElem?_getD,List.getElem?_eq_getElem h,wT];rfl
abbrev Zk:=It × (Int × Int) × List Iv
abbrev yq:Zk:=(qB,(0,0),[])
def yz (l:List It):Int:=(l.map iS).sum
mutual
def Yy:It→Int→Int→Int→List Iv→List Zk × Bool
 | .mk k s ps b ly ks,al,u,d,g =>
  if (make s al).2.2=0 then
   if (times (make s al).1 (make s al).2.1 u d).2.2=0 then
    if ks.length=0 then ([(.mk k s ps b ly ks,((times (make s al).1 (make s al).2.1 u d).1,(times (make s al).1 (make s al).2.1 u d).2.1),g)],true)
    else YZ ks (yz ks) (times (make s al).1 (make s al).2.1 u d).1 (times (make s al).1 (make s al).2.1 u d).2.1 (if k=5 then b :: g else g)
   else ([],false)
  else ([],false)
def YZ:List It→Int→Int→Int→List Iv→List Zk × Bool
 | [],_,_,_,_=>([],true)
 | x :: l,al,u,d,g=>if (Yy x al u d g).2=true then (if (YZ l al u d g).2=true then ((Yy x al u d g).1++(YZ l al u d g).1,true) else ([],false)) else ([],false)
end
def Yq (l:List It) (u d:Int) (g:List Iv):List Zk × Bool:=YZ l (yz l) u d g
theorem YH (x:It) (al u d:Int) (g:List Iv):Yy x al u d g =
  if (make (iS x) al).2.2=0 then
   if (times (make (iS x) al).1 (make (iS x) al).2.1 u d).2.2=0 then
    if (iC x).length=0 then ([(x,((times (make (iS x) al).1 (make (iS x) al).2.1 u d).1,(times (make (iS x) al).1 (make (iS x) al).2.1 u d).2.1),g)],true)
    else Yq (iC x) (times (make (iS x) al).1 (make (iS x) al).2.1 u d).1 (times (make (iS x) al).1 (make (iS x) al).2.1 u d).2.1 (if iK x=5 then iB x :: g else g)
   else ([],false)
  else ([],false):=by
 cases x with|mk k s ps b ly ks=>rw [Yy];rfl
def lvA (A:List Zk) (l:List It) (al u d:Int) (g:List Iv):List Zk × Bool:=if (YZ l al u d g).2=true then (A++(YZ l al u d g).1,true) else ([],false)
theorem lvA_nil (l:List It) (al u d:Int) (g:List Iv) (h:(YZ l al u d g).2=false→(YZ l al u d g).1=[]):lvA [] l al u d g=YZ l al u d g:=by
 unfold lvA
 split
 ·rename_i c
  rw [List.nil_append,← c]
 ·rename_i c
  have c':(YZ l al u d g).2=false:=by simpa using c
  rw [← h c',← c']
mutual
theorem lvI_no:∀ (x:It) (al u d:Int) (g:List Iv),(Yy x al u d g).2=false→(Yy x al u d g).1=[]
 | .mk k s ps b ly ks,al,u,d,g,h=>by
  rw [Yy] at h ⊢
  split at h
  ·rename_i c1
   rw [if_pos c1]
   split at h
   ·rename_i c2
    rw [if_pos c2]
    split at h
    ·cases h
    ·rename_i c3
     rw [if_neg c3]
     exact lvG_no ks _ _ _ _ h
   ·rename_i c2
    rw [if_neg c2]
  ·rename_i c1
   rw [if_neg c1]
theorem lvG_no:∀ (l:List It) (al u d:Int) (g:List Iv),(YZ l al u d g).2=false→(YZ l al u d g).1=[]
 | [],al,u,d,g,h=>by rw [YZ]
 | x :: l,al,u,d,g,h=>by
  rw [YZ] at h ⊢
  split at h
  ·rename_i c1
   rw [if_pos c1]
   split at h
   ·cases h
   ·rename_i c2
    rw [if_neg c2]
  ·rename_i c1
   rw [if_neg c1]
end
theorem lvA_0 (l:List It) (al u d:Int) (g:List Iv):lvA [] l al u d g=YZ l al u d g:=lvA_nil _ _ _ _ _ (lvG_no _ _ _ _ _)
theorem qao {A:List Zk} {l:List It} {i:Nat} {al u d:Int} {g:List Iv} (h:i<l.length):lvA A (l.drop i) al u d g =
  if (Yy (l.getD i qB) al u d g).2=true then lvA (A++(Yy (l.getD i qB) al u d g).1) (l.drop (i+1)) al u d g else ([],false):=by
 unfold lvA
 rw [List.drop_eq_getElem_cons h,List.getD_eq_getElem?_getD,List.getElem?_eq_getElem h,YZ]
 show (if (if (Yy l[i] al u d g).2=true then _ else _:List Zk × Bool).2=true then _ else _)=(if (Yy l[i] al u d g).2=true then _ else _)
 by_cases c1:(Yy l[i] al u d g).2=true
 ·simp only [if_pos c1]
  by_cases c2:(YZ (l.drop (i+1)) al u d g).2=true
  ·simp only [if_pos c2,if_true,List.append_assoc]
   rfl
  ·simp only [if_neg c2]
   rfl
 ·simp only [if_neg c1]
  rfl
def QZ:List Zk→Int→Int→List (Int × Int) × Bool
 | [],_,_=>([],true)
 | x :: l,a,b=>if (plus a b x.2.1.1 x.2.1.2).2.2=0 then ((a,b) :: (QZ l (plus a b x.2.1.1 x.2.1.2).1 (plus a b x.2.1.1 x.2.1.2).2.1).1,(QZ l (plus a b x.2.1.1 x.2.1.2).1 (plus a b x.2.1.1 x.2.1.2).2.1).2) else ([(a,b)],false)
def spZ:List (Int × Int)→List Zk→List Sp
 | p :: P,x :: l=>(p.1,p.2,x.2.1.1,x.2.1.2,true) :: spZ P l
 | _,_=>[]
def shF:List Zk→StS→Int × StS
 | [],st=>(0,st)
 | x :: l,st=>if (zk 1 x.2.1.1 x.2.1.2 st.1 st.2.1 st.2.2).1=0 then shF l (zk 1 x.2.1.1 x.2.1.2 st.1 st.2.1 st.2.2).2 else zk 1 x.2.1.1 x.2.1.2 st.1 st.2.1 st.2.2
theorem qiw:∀ (A B:List Zk) (st:StS),shF (A++B) st=if (shF A st).1=0 then shF B (shF A st).2 else shF A st
 | [],B,st=>by rw [List.nil_append,shF,if_pos rfl]
 | x :: A,B,st=>by
  rw [List.cons_append,shF,shF]
  split
  ·exact qiw A B _
  ·rfl
theorem leaf_1 (u d:Int) (L:List Sp) (a b:Int):zk 1 u d L a b=if (plus a b u d).2.2=0 then (0,L++[(a,b,u,d,true)],(plus a b u d).1,(plus a b u d).2.1) else ((plus a b u d).2.2,L,a,b):=by
 unfold zk
 split
 ·rw [if_neg (by omega)];rfl
 ·rfl
theorem shF_plcs:∀ (LV:List Zk) (L:List Sp) (a b:Int),((shF LV (L,a,b)).1=0↔(QZ LV a b).2=true)∧((shF LV (L,a,b)).1=0→(shF LV (L,a,b)).2.1=L++spZ (QZ LV a b).1 LV)
 | [],L,a,b=>⟨⟨fun _=>rfl,fun _=>rfl⟩,fun _=>(List.append_nil L).symm⟩
 | x :: l,L,a,b=>by
  rw [shF,QZ]
  dsimp only
  rw [leaf_1]
  by_cases c:(plus a b x.2.1.1 x.2.1.2).2.2=0
  ·simp only [if_pos c,if_true]
   obtain ⟨h1,h2⟩:=shF_plcs l (L++[(a,b,x.2.1.1,x.2.1.2,true)]) (plus a b x.2.1.1 x.2.1.2).1 (plus a b x.2.1.1 x.2.1.2).2.1
   exact ⟨h1,fun h=>by rw [h2 h,List.append_assoc];rfl⟩
  ·simp only [if_neg c]
   exact ⟨⟨fun h=>absurd h c,fun h=>by cases h⟩,fun h=>absurd h c⟩
theorem qiq (l:List It):vO (jN l)=yz l:=by
 unfold vO yz
 rw [VG,List.map_map]
 congr 1
 exact List.map_congr_left fun x _=>qin x
mutual
theorem shareS_f:∀ (x:It) (al u d:Int) (g:List Iv) (st:StS),(make (iS x) al).2.2=0→(times (make (iS x) al).1 (make (iS x) al).2.1 u d).2.2=0 →
  ((Yy x al u d g).2=true→qO (yV x) (times (make (iS x) al).1 (make (iS x) al).2.1 u d).1 (times (make (iS x) al).1 (make (iS x) al).2.1 u d).2.1 st=shF (Yy x al u d g).1 st) ∧
  ((Yy x al u d g).2=false→(qO (yV x) (times (make (iS x) al).1 (make (iS x) al).2.1 u d).1 (times (make (iS x) al).1 (make (iS x) al).2.1 u d).2.1 st).1≠0)
 | .mk k s ps b ly ks,al,u,d,g,st,c1,c2=>by
  have c1':(make s al).2.2=0:=c1
  have c2':(times (make s al).1 (make s al).2.1 u d).2.2=0:=c2
  rw [Yy,if_pos c1',if_pos c2',yV,qO]
  by_cases c:ks.length=0
  ·rw [if_pos c,if_pos c,if_neg (by decide)]
   refine ⟨fun _=>?_,fun h=>by cases h⟩
   show zk 1 (times (make s al).1 (make s al).2.1 u d).1 (times (make s al).1 (make s al).2.1 u d).2.1 st.1 st.2.1 st.2.2=_
   rw [shF]
   dsimp only
   split
   ·rename_i e;rw [shF];rw [← e]
   ·rfl
  ·rw [if_neg c,if_neg c,if_pos rfl,qiq]
   exact qeq ks (yz ks) _ _ _ st
theorem qeq:∀ (l:List It) (al u d:Int) (g:List Iv) (st:StS),((YZ l al u d g).2=true→yL (jN l) al u d st=shF (YZ l al u d g).1 st)∧((YZ l al u d g).2=false→(yL (jN l) al u d st).1≠0)
 | [],al,u,d,g,st=>by
  rw [jN,yL,YZ]
  exact ⟨fun _=>rfl,fun h=>by cases h⟩
 | x :: l,al,u,d,g,st=>by
  rw [jN,yL,YZ,qin]
  dsimp only
  by_cases c1:(make (iS x) al).2.2=0
  ·rw [if_pos c1]
   by_cases c2:(times (make (iS x) al).1 (make (iS x) al).2.1 u d).2.2=0
   ·rw [if_pos c2]
    obtain ⟨h1,h2⟩:=shareS_f x al u d g st c1 c2
    by_cases c3:(Yy x al u d g).2=true
    ·rw [if_pos c3,h1 c3]
     by_cases c4:(shF (Yy x al u d g).1 st).1=0
     ·rw [if_pos c4]
      obtain ⟨k1,k2⟩:=qeq l al u d g (shF (Yy x al u d g).1 st).2
      by_cases c5:(YZ l al u d g).2=true
      ·rw [if_pos c5,k1 c5]
       refine ⟨fun _=>?_,fun h=>by cases h⟩
       rw [qiw,if_pos c4]
      ·rw [if_neg c5]
       exact ⟨fun h=>(by cases h),fun _=>k2 (by simpa using c5)⟩
     ·rw [if_neg c4]
      by_cases c5:(YZ l al u d g).2=true
      ·rw [if_pos c5]
       refine ⟨fun _=>?_,fun h=>by cases h⟩
       rw [qiw,if_neg c4]
      ·rw [if_neg c5]
       exact ⟨fun h=>(by cases h),fun _=>c4⟩
    ·have c3':(Yy x al u d g).2=false:=by simpa using c3
     have h3:=h2 c3'
     rw [if_neg c3,if_neg h3]
     exact ⟨fun h=>(by cases h),fun _=>h3⟩
   ·rw [if_neg c2]
    have e:(Yy x al u d g).2=false:=by rw [YH,if_pos c1,if_neg c2]
    rw [if_neg (by rw [e];decide)]
    exact ⟨fun h=>(by cases h),fun _=>c2⟩
  ·rw [if_neg c1]
   have e:(Yy x al u d g).2=false:=by rw [YH,if_neg c1]
   rw [if_neg (by rw [e];decide)]
   exact ⟨fun h=>(by cases h),fun _=>c1⟩
end
/-! ### what goes wrong is too much -/
theorem mkE4 {u d:Int} (h:1≤d):(make u d).2.2=0∨(make u d).2.2=4:=by
 unfold make
 rw [if_neg (by omega)]
 split
 ·exact .inl rfl
 ·exact .inr rfl
theorem tmE4 {a b c d:Int} (h1:rightB a b=true) (h2:rightB c d=true):(times a b c d).2.2=0∨(times a b c d).2.2=4:=by
 unfold times
 rw [h1,h2,Bool.and_self,if_pos rfl]
 have h1':=rightB_iff.1 h1
 have h2':=rightB_iff.1 h2
 exact mkE4 (by have:=Int.mul_pos h1'.1 h2'.1;omega)
theorem plE4 {a b c d:Int} (h1:rightB a b=true) (h2:rightB c d=true):(plus a b c d).2.2=0∨(plus a b c d).2.2=4:=by
 unfold plus
 rw [h1,h2,Bool.and_self,if_pos rfl]
 have h1':=rightB_iff.1 h1
 have h2':=rightB_iff.1 h2
 exact mkE4 (by have:=Int.mul_pos h1'.1 h2'.1;omega)
mutual
def s1I:It→Prop
 | .mk _ s _ _ _ ks=>1≤s∧s1L ks
def s1L:List It→Prop
 | []=>True
 | x :: l=>s1I x∧s1L l
end
theorem qir:∀ {l:List It},s1L l→(l=[]∨1≤yz l)∧0≤yz l
 | [],_=>⟨.inl rfl,Int.le_refl _⟩
 | .mk k s ps b ly ks :: l,h=>by
  rw [s1L,s1I] at h
  have:=(qir h.2).2
  have e:yz (.mk k s ps b ly ks :: l)=s+yz l:=by unfold yz;rw [List.map_cons,List.sum_cons];rfl
  rw [e]
  have:=h.1.1
  exact ⟨.inr (by omega),by omega⟩
mutual
theorem shareS_e:∀ (x:It) (u d:Int) (st:StS),s1I x→rightB u d=true→Yx st.1 st.2.1 st.2.2→(qO (yV x) u d st).1=0∨(qO (yV x) u d st).1=4
 | .mk k s ps b ly ks,u,d,st,h,hr,hs=>by
  rw [s1I] at h
  rw [yV,qO]
  by_cases c:ks.length=0
  ·rw [if_pos c,if_neg (by decide),leaf_1]
   split
   ·exact .inl rfl
   ·rename_i c2
    exact .inr ((plE4 hs.1 hr).resolve_left c2)
  ·rw [if_neg c,if_pos rfl,qiq]
   exact qer ks _ u d st h.2 (((qir h.2).1).resolve_left (fun e=>c (by rw [e];rfl))) hr hs
theorem qer:∀ (l:List It) (al u d:Int) (st:StS),s1L l→1≤al→rightB u d=true→Yx st.1 st.2.1 st.2.2→(yL (jN l) al u d st).1=0∨(yL (jN l) al u d st).1=4
 | [],al,u,d,st,_,_,_,_=>by rw [jN,yL];exact .inl rfl
 | x :: l,al,u,d,st,h,ha,hr,hs=>by
  rw [s1L] at h
  rw [jN,yL]
  dsimp only
  by_cases c1:(make (sh (yV x)) al).2.2=0
  ·rw [if_pos c1]
   by_cases c2:(times (make (sh (yV x)) al).1 (make (sh (yV x)) al).2.1 u d).2.2=0
   ·rw [if_pos c2]
    by_cases c3:(qO (yV x) (times (make (sh (yV x)) al).1 (make (sh (yV x)) al).2.1 u d).1 (times (make (sh (yV x)) al).1 (make (sh (yV x)) al).2.1 u d).2.1 st).1=0
    ·rw [if_pos c3]
     exact qer l al u d _ h.2 ha hr (qbc _ _ _ _ (QX c2) hs c3)
    ·rw [if_neg c3]
     exact shareS_e x _ _ st h.1 (QX c2) hs
   ·rw [if_neg c2]
    exact tmE4 (qan c1) hr
  ·rw [if_neg c1]
   exact mkE4 ha
end
/-! ### a bar's shares are right -/
mutual
theorem look_S:∀ (x:It) (lv n:Int),1≤lv→n≤4095→(vq x lv n).1=true→yP (yV x) (lv+1) (4096-n)=(0,4096-(vq x lv n).2)
 | .mk k s ps b ly ks,lv,n,h0,h1,h=>by
  obtain ⟨k1,hlv,s1,s2,hk⟩:=YL h
  have s1:1≤s:=s1
  have s2:s≤65536:=s2
  rw [yV,yP,if_neg (by omega),if_neg (by omega),if_neg (by omega)]
  rcases hk with ⟨c,q,e⟩|⟨c,q,e⟩|⟨c,q,e⟩
  ·obtain rfl:ks=[]:=(YE q).2.2.1
   rw [e,if_pos (show ([]:List It).length=0 from rfl),if_pos (.inl rfl),jN,if_pos (show ([]:List Beat).length=0 from rfl)]
   exact Prod.ext rfl (by show 4096-n+1=4096-(n-1);omega)
  ·obtain rfl:ks=[]:=(Zy q).2.1
   rw [e,if_pos (show ([]:List It).length=0 from rfl),if_pos (.inl rfl),jN,if_pos (show ([]:List Beat).length=0 from rfl)]
   exact Prod.ext rfl (by show 4096-n+1=4096-(n-1);omega)
  ·have hne:ks≠[]:=(Zz q).1
   have hz:¬ ks.length=0:=fun z=>hne (List.length_eq_zero_iff.1 z)
   rw [e] at h ⊢
   rw [if_neg hz,if_neg (by decide),if_pos rfl,if_neg (by rw [VG,List.length_map];exact hz)]
   have:=look_L ks (lv+1) (n-1) (by omega) (by omega) h
   rw [show (4096:Int)-(n-1)=4096-n+1 by omega] at this
   exact this
theorem look_L:∀ (l:List It) (lv n:Int),1≤lv→n≤4095→(wE l lv n).1=true→jC (jN l) (lv+1) (4096-n)=(0,4096-(wE l lv n).2)
 | [],lv,n,_,_,_=>by rw [jN,jC,wE]
 | x :: l,lv,n,h0,h1,h=>by
  obtain ⟨g1,g2,g3⟩:=ZZ h
  have e:=look_S x lv n h0 h1 g1
  have hr:=qdv x lv n (by have:=(YL g1).k1;omega)
  rw [jN,jC,e,if_pos rfl,g3]
  exact look_L l lv (vq x lv n).2 h0 (by omega) g2
end
theorem root_right {l:List It} (h:(wE l 1 4095).1=true) (hne:l≠[]):Qw (yV (zY l))=0:=by
 have hz:¬ l.length=0:=fun z=>hne (List.length_eq_zero_iff.1 z)
 unfold Qw zY
 rw [yV,yP,if_neg (by decide),if_neg (by decide),if_neg (by decide),if_neg hz,if_neg (by decide),if_pos rfl,if_neg (by rw [VG,List.length_map];exact hz)]
 have:=look_L l 1 4095 (by decide) (by decide) h
 rw [show ((1:Int)+1)=2 from rfl] at this
 rw [show (0:Int)+1=4096-4095 from rfl,show ((1:Int)+1)=2 from rfl,this]
mutual
theorem s1_S:∀ (x:It) (lv n:Int),(vq x lv n).1=true→s1I x
 | .mk k s ps b ly ks,lv,n,h=>by
  obtain ⟨k1,hlv,s1,s2,hk⟩:=YL h
  rw [s1I]
  refine ⟨s1,?_⟩
  rcases hk with ⟨c,q,e⟩|⟨c,q,e⟩|⟨c,q,e⟩
  ·obtain rfl:ks=[]:=(YE q).2.2.1
   rw [s1L];trivial
  ·obtain rfl:ks=[]:=(Zy q).2.1
   rw [s1L];trivial
  ·rw [e] at h
   exact s1_L ks _ _ h
theorem s1_L:∀ (l:List It) (lv n:Int),(wE l lv n).1=true→s1L l
 | [],_,_,_=>by rw [s1L];trivial
 | x :: l,lv,n,h=>by
  obtain ⟨g1,g2,_⟩:=ZZ h
  rw [s1L]
  exact ⟨s1_S x lv n g1,s1_L l _ _ g2⟩
end
/-! ### notes,leaf by leaf -/
def noF (v a b:Int) (S:List Sp):List Zk→TsS→Int × TsS
 | [],t=>(0,t)
 | x :: l,t=>if (zJ v a b S x.1 x.2.2 t).1=0 then noF v a b S l (zJ v a b S x.1 x.2.2 t).2 else zJ v a b S x.1 x.2.2 t
theorem noF_app {v a b:Int} {S:List Sp}:∀ (A B:List Zk) (t:TsS),noF v a b S (A++B) t=if (noF v a b S A t).1=0 then noF v a b S B (noF v a b S A t).2 else noF v a b S A t
 | [],B,t=>by rw [List.nil_append,noF,if_pos rfl]
 | x :: A,B,t=>by
  rw [List.cons_append,noF,noF]
  split
  ·exact noF_app A B _
  ·rfl
theorem qcs {v a b:Int} {S:List Sp} {l:List Zk} {i:Nat} {t:TsS} (h:i<l.length):noF v a b S (l.drop i) t=if (zJ v a b S (l.getD i yq).1 (l.getD i yq).2.2 t).1=0 then noF v a b S (l.drop (i+1)) (zJ v a b S (l.getD i yq).1 (l.getD i yq).2.2 t).2 else zJ v a b S (l.getD i yq).1 (l.getD i yq).2.2 t:=by
 rw [List.drop_eq_getElem_cons h,List.getD_eq_getElem?_getD,List.getElem?_eq_getElem h,noF];rfl
mutual
theorem telI_f {v a b:Int} {S:List Sp}:∀ (x:It) (al u d:Int) (g:List Iv) (t:TsS),gdI x→(Yy x al u d g).2=true→WW v a b S x g t=noF v a b S (Yy x al u d g).1 t
 | .mk k s ps by_ ly ks,al,u,d,g,t,hg,h=>by
  rw [gdI] at hg
  rw [Yy] at h ⊢
  split at h
  ·rename_i c1
   rw [if_pos c1]
   split at h
   ·rename_i c2
    rw [if_pos c2]
    rw [WW]
    by_cases c:ks.length=0
    ·have hk:¬ (k=4∨k=5):=fun q=>hg.1.1 q c
     rw [if_neg (by omega),if_neg (by omega),if_pos c,noF]
     dsimp only
     split
     ·rename_i e;rw [noF];rw [← e]
     ·rfl
    ·have hk:=hg.1.2 c
     rw [if_neg c] at h ⊢
     by_cases c4:k=4
     ·rw [if_pos c4,if_neg (by omega)] 
      rw [if_neg (by omega)] at h
      exact qip ks _ _ _ g t hg.2 h
     ·rw [if_neg c4,if_pos (by omega),if_pos (by omega)]
      rw [if_pos (by omega)] at h
      exact qip ks _ _ _ (by_ :: g) t hg.2 h
   ·cases h
  ·cases h
theorem qip {v a b:Int} {S:List Sp}:∀ (l:List It) (al u d:Int) (g:List Iv) (t:TsS),gdL l→(YZ l al u d g).2=true→zD v a b S l g t=noF v a b S (YZ l al u d g).1 t
 | [],al,u,d,g,t,_,_=>by rw [zD,YZ,noF]
 | x :: l,al,u,d,g,t,hg,h=>by
  rw [gdL] at hg
  rw [YZ] at h ⊢
  split at h
  ·rename_i c1
   rw [if_pos c1]
   split at h
   ·rename_i c2
    rw [if_pos c2,zD,telI_f x al u d g t hg.1 c1,noF_app]
    split
    ·exact qip l al u d g _ hg.2 c2
    ·rfl
   ·cases h
  ·cases h
end
def nbT (v:Int) (y:Br) (s:(Int × Int) × List Nt × Nat):Int × List Nt × Nat :=
 if (make y.1 y.2.1).2.2=0 then
  if (Yq y.2.2 (make y.1 y.2.1).1 (make y.1 y.2.1).2.1 []).2=true∧(QZ (Yq y.2.2 (make y.1 y.2.1).1 (make y.1 y.2.1).2.1 []).1 0 1).2=true then
   ((noF v s.1.1 s.1.2 (spZ (QZ (Yq y.2.2 (make y.1 y.2.1).1 (make y.1 y.2.1).2.1 []).1 0 1).1 (Yq y.2.2 (make y.1 y.2.1).1 (make y.1 y.2.1).2.1 []).1) (Yq y.2.2 (make y.1 y.2.1).1 (make y.1 y.2.1).2.1 []).1 (s.2.1,s.2.2,0)).1,
    (noF v s.1.1 s.1.2 (spZ (QZ (Yq y.2.2 (make y.1 y.2.1).1 (make y.1 y.2.1).2.1 []).1 0 1).1 (Yq y.2.2 (make y.1 y.2.1).1 (make y.1 y.2.1).2.1 []).1) (Yq y.2.2 (make y.1 y.2.1).1 (make y.1 y.2.1).2.1 []).1 (s.2.1,s.2.2,0)).2.1,
    (noF v s.1.1 s.1.2 (spZ (QZ (Yq y.2.2 (make y.1 y.2.1).1 (make y.1 y.2.1).2.1 []).1 0 1).1 (Yq y.2.2 (make y.1 y.2.1).1 (make y.1 y.2.1).2.1 []).1) (Yq y.2.2 (make y.1 y.2.1).1 (make y.1 y.2.1).2.1 []).1 (s.2.1,s.2.2,0)).2.2.1)
  else (4,s.2.1,s.2.2)
 else ((make y.1 y.2.1).2.2,s.2.1,s.2.2)
theorem qkp {v:Int} {y:Br} {s:(Int × Int) × List Nt × Nat} (hy:wJ y=0):vV v y s =
  if (nbT v y s).1=0 then ((plus s.1.1 s.1.2 (make y.1 y.2.1).1 (make y.1 y.2.1).2.1).2.2,((plus s.1.1 s.1.2 (make y.1 y.2.1).1 (make y.1 y.2.1).2.1).1,(plus s.1.1 s.1.2 (make y.1 y.2.1).1 (make y.1 y.2.1).2.1).2.1),(nbT v y s).2.1,(nbT v y s).2.2)
  else ((nbT v y s).1,s):=by
 obtain ⟨⟨b1,b2⟩,⟨b3,b4⟩,b5,b6⟩:=qko hy
 have hg:=Qy y.2.2 1 4095 (by decide) b5
 have hw:=root_right b5 b6
 have hs1:=s1_L _ _ _ b5
 have hz:¬ y.2.2.length=0:=fun z=>b6 (List.length_eq_zero_iff.1 z)
 unfold vV nbT
 by_cases c1:(make y.1 y.2.1).2.2=0
 ·rw [if_pos c1,if_pos c1]
  have hr:=qan c1
  have hmk:=qds (show make y.1 y.2.1=((make y.1 y.2.1).1,(make y.1 y.2.1).2.1,0) from by rw [← c1])
  have hup:¬ (make y.1 y.2.1).1<1:=fun q=>by
   have hd:=(rightB_iff.1 hr).1
   have h1:=hmk.2.2
   have h2:0<y.1*(make y.1 y.2.1).2.1:=Int.mul_pos (by omega) hd
   have h3:(make y.1 y.2.1).1*y.2.1≤0:=Int.mul_nonpos_of_nonpos_of_nonneg (by omega) (by omega)
   omega
  have hE:yQ (yV (zY y.2.2)) (make y.1 y.2.1).1 (make y.1 y.2.1).2.1=(yL (jN y.2.2) (yz y.2.2) (make y.1 y.2.1).1 (make y.1 y.2.1).2.1 ([],0,1)).1:=by
   unfold yQ
   rw [if_pos hw,if_pos hr,if_neg hup]
   unfold zY
   rw [yV,qO,if_neg hz,if_pos rfl,qiq]
  have hL:ww (yV (zY y.2.2)) (make y.1 y.2.1).1 (make y.1 y.2.1).2.1=(yL (jN y.2.2) (yz y.2.2) (make y.1 y.2.1).1 (make y.1 y.2.1).2.1 ([],0,1)).2.1:=by
   unfold ww zY
   rw [yV,qO,if_neg hz,if_pos rfl,qiq]
  obtain ⟨f1,f2⟩:=qeq y.2.2 (yz y.2.2) (make y.1 y.2.1).1 (make y.1 y.2.1).2.1 [] ([],0,1)
  have he:=qer y.2.2 (yz y.2.2) (make y.1 y.2.1).1 (make y.1 y.2.1).2.1 ([],0,1) hs1 ((qir hs1).1.resolve_left b6) hr st0_ok
  by_cases c2:(Yq y.2.2 (make y.1 y.2.1).1 (make y.1 y.2.1).2.1 []).2=true
  ·have c2':(YZ y.2.2 (yz y.2.2) (make y.1 y.2.1).1 (make y.1 y.2.1).2.1 []).2=true:=c2
   have e1:=f1 c2'
   obtain ⟨p1,p2⟩:=shF_plcs (YZ y.2.2 (yz y.2.2) (make y.1 y.2.1).1 (make y.1 y.2.1).2.1 []).1 [] 0 1
   by_cases c3:(QZ (Yq y.2.2 (make y.1 y.2.1).1 (make y.1 y.2.1).2.1 []).1 0 1).2=true
   ·have c3':=p1.2 c3
    rw [e1] at hE hL
    rw [if_pos (show _∧_ from ⟨c2,c3⟩),if_pos (show yQ (yV (zY y.2.2)) (make y.1 y.2.1).1 (make y.1 y.2.1).2.1=0 from by rw [hE];exact c3'),hL,p2 c3',List.nil_append,qip y.2.2 (yz y.2.2) (make y.1 y.2.1).1 (make y.1 y.2.1).2.1 [] _ hg.1 c2']
    rfl
   ·have c4:¬ (yL (jN y.2.2) (yz y.2.2) (make y.1 y.2.1).1 (make y.1 y.2.1).2.1 ([],0,1)).1=0:=by rw [e1];exact fun q=>c3 (p1.1 q)
    have c5:¬ ((Yq y.2.2 (make y.1 y.2.1).1 (make y.1 y.2.1).2.1 []).2=true∧(QZ (Yq y.2.2 (make y.1 y.2.1).1 (make y.1 y.2.1).2.1 []).1 0 1).2=true):=fun q=>c3 q.2
    rw [if_neg (show ¬ yQ (yV (zY y.2.2)) (make y.1 y.2.1).1 (make y.1 y.2.1).2.1=0 from by rw [hE];exact c4),if_neg c5,hE,he.resolve_left c4]
    exact (if_neg (by decide:¬ (4:Int)=0)).symm
  ·have c4:=f2 (show (Yq y.2.2 (make y.1 y.2.1).1 (make y.1 y.2.1).2.1 []).2=false from by simpa using c2)
   have c5:¬ ((Yq y.2.2 (make y.1 y.2.1).1 (make y.1 y.2.1).2.1 []).2=true∧(QZ (Yq y.2.2 (make y.1 y.2.1).1 (make y.1 y.2.1).2.1 []).1 0 1).2=true):=fun q=>c2 q.1
   rw [if_neg (show ¬ yQ (yV (zY y.2.2)) (make y.1 y.2.1).1 (make y.1 y.2.1).2.1=0 from by rw [hE];exact c4),if_neg c5,hE,he.resolve_left c4]
   exact (if_neg (by decide:¬ (4:Int)=0)).symm
 ·rw [if_neg c1,if_neg c1,if_neg c1]
def lfvC (x:Zk):List PV:=[iv (iK x.1),iv (iS x.1),.ssl (zF (iP x.1)) 0 (iP x.1).length,iv (iB x.1).1,iv (iB x.1).2,sv (st (iL x.1)),.ssl (qN (iC x.1)) 0 (iC x.1).length,iv x.2.1.1,iv x.2.1.2,.ssl (zZ x.2.2) 0 x.2.2.length]
def zN (l:List Zk):List PV:=l.flatMap lfvC
theorem VV (l:List Zk):jV (zN l):=jF lfvC (fun _=>rfl) l
theorem VW (l:List Zk):(zN l).length=l.length*10:=QG lfvC 10 (fun _=>rfl) l
theorem lfvs_src (l:List Zk):0+l.length*10≤(zN l).length∧((zN l).drop 0).take (l.length*10)=zN l:=by
 rw [List.drop_zero,List.take_of_length_le (by rw [VW];omega),VW]
 exact ⟨by omega,rfl⟩
/-! ### shares -/
mutual
def shI:It→Prop
 | .mk _ s _ _ _ ks=>(1≤s∧s≤65536)∧shL ks
def shL:List It→Prop
 | []=>True
 | x :: l=>shI x∧shL l
end
theorem qiv (x:It):shI x↔(1≤iS x∧iS x≤65536)∧shL (iC x):=by cases x with|mk k s ps b ly ks=>rw [shI];rfl
theorem sh_at:∀ {l:List It} {i:Nat},shL l→i<l.length→shI (l.getD i qB)
 | [],i,_,h=>absurd h (Nat.not_lt_zero i)
 | x :: l,0,h,_=>by rw [shL] at h;exact h.1
 | x :: l,i+1,h,hi=>by
  rw [shL] at h
  have:=sh_at (l:=l) (i:=i) h.2 (by simpa using hi)
  simpa using this
mutual
theorem sh_S:∀ (x:It) (lv n:Int),(vq x lv n).1=true→shI x
 | .mk k s ps b ly ks,lv,n,h=>by
  obtain ⟨k1,hlv,s1,s2,hk⟩:=YL h
  rw [shI]
  refine ⟨⟨s1,s2⟩,?_⟩
  rcases hk with ⟨c,q,e⟩|⟨c,q,e⟩|⟨c,q,e⟩
  ·obtain rfl:ks=[]:=(YE q).2.2.1
   rw [shL];trivial
  ·obtain rfl:ks=[]:=(Zy q).2.1
   rw [shL];trivial
  ·rw [e] at h
   exact sh_L ks _ _ h
theorem sh_L:∀ (l:List It) (lv n:Int),(wE l lv n).1=true→shL l
 | [],_,_,_=>by rw [shL];trivial
 | x :: l,lv,n,h=>by
  obtain ⟨g1,g2,_⟩:=ZZ h
  rw [shL]
  exact ⟨sh_S x lv n g1,sh_L l _ _ g2⟩
end
theorem sum_next {l:List It} {i:Nat} (h:i<l.length):yz (l.take (i+1))=yz (l.take i)+iS (l.getD i qB):=by
 unfold yz
 rw [List.take_succ_eq_append_getElem h,List.map_append,List.sum_append,List.getD_eq_getElem?_getD,List.getElem?_eq_getElem h,List.map_cons,List.sum_cons]
 show _+(iS l[i]+0)=_+iS l[i]
 omega
theorem sum_end {l:List It} {i:Nat} (h:l.length≤i):yz (l.take i)=yz l:=by rw [List.take_of_length_le h]
/-! ### leaves -/
def gLf (z:Zk):Prop:=(I64 z.2.1.1∧I64 z.2.1.2)∧wdI z.1∧(iP z.1).length≤16∧z.2.2.length≤100000
mutual
theorem lvI_good:∀ (x:It) (al u d:Int) (g:List Iv),wdI x→okI x→gdI x→g.length+cnI x≤100000→(∀ z∈(Yy x al u d g).1,gLf z)∧(Yy x al u d g).1.length≤cnI x
 | .mk k s ps b ly ks,al,u,d,g,hw,ho,hg,hc=>by
  rw [gdI] at hg
  rw [okI] at ho
  rw [cnI] at hc ⊢
  rw [Yy]
  split
  ·rename_i c1
   split
   ·rename_i c2
    split
    ·rename_i c3
     have hk:¬ (k=4∨k=5):=fun q=>hg.1.1 q c3
     refine ⟨fun z hz=>?_,by show 1≤_;omega⟩
     rw [List.mem_singleton.1 hz]
     exact ⟨jM (QX c2),hw,ho.1.elim (fun q=>absurd (.inl q) hk) (fun q=>q.elim (fun q=>absurd (.inr q) hk) (fun q=>q)),by show g.length≤_;omega⟩
    ·have h:=qfq ks (yz ks) (times (make s al).1 (make s al).2.1 u d).1 (times (make s al).1 (make s al).2.1 u d).2.1 (if k=5 then b :: g else g) ((qcf _).1 hw).2 ho.2 hg.2 (by split <;> (try rw [List.length_cons]) <;> omega)
     exact ⟨h.1,by omega⟩
   ·exact ⟨fun z hz=>(by cases hz),Nat.zero_le _⟩
  ·exact ⟨fun z hz=>(by cases hz),Nat.zero_le _⟩
theorem qfq:∀ (l:List It) (al u d:Int) (g:List Iv),wdL l→okL l→gdL l→g.length+jS l≤100000→(∀ z∈(YZ l al u d g).1,gLf z)∧(YZ l al u d g).1.length≤jS l
 | [],al,u,d,g,_,_,_,_=>by rw [YZ];exact ⟨fun z hz=>(by cases hz),Nat.zero_le _⟩
 | x :: l,al,u,d,g,hw,ho,hg,hc=>by
  rw [wdL] at hw
  rw [okL] at ho
  rw [gdL] at hg
  rw [jS] at hc ⊢
  have h1:=lvI_good x al u d g hw.1 ho.1 hg.1 (by omega)
  have h2:=qfq l al u d g hw.2 ho.2 hg.2 (by omega)
  rw [YZ]
  split
  ·split
   ·refine ⟨fun z hz=>(List.mem_append.1 hz).elim (h1.1 z) (h2.1 z),?_⟩
    rw [List.length_append]
    have:=h1.2
    have:=h2.2
    omega
   ·exact ⟨fun z hz=>(by cases hz),Nat.zero_le _⟩
  ·exact ⟨fun z hz=>(by cases hz),Nat.zero_le _⟩
end
mutual
theorem qjr:∀ (x:It) (al u d:Int) (g:List Iv),(Yy x al u d g).1.length≤cnI x
 | .mk k s ps b ly ks,al,u,d,g=>by
  rw [cnI,Yy]
  split
  ·split
   ·split
    ·show 1≤_;omega
    ·have h:=qjs ks (yz ks) (times (make s al).1 (make s al).2.1 u d).1 (times (make s al).1 (make s al).2.1 u d).2.1 (if k=5 then b :: g else g)
     omega
   ·exact Nat.zero_le _
  ·exact Nat.zero_le _
theorem qjs:∀ (l:List It) (al u d:Int) (g:List Iv),(YZ l al u d g).1.length≤jS l
 | [],al,u,d,g=>by rw [YZ];exact Nat.zero_le _
 | x :: l,al,u,d,g=>by
  have h1:=qjr x al u d g
  have h2:=qjs l al u d g
  rw [jS,YZ]
  split
  ·split
   ·rw [List.length_append]
    omega
   ·exact Nat.zero_le _
  ·exact Nat.zero_le _
end
theorem lvT_len (l:List It) (u d:Int) (g:List Iv):(Yq l u d g).1.length≤jS l:=qjs l _ u d g
theorem lf_at {l:List Zk} (h:∀ z∈l,gLf z):∀ i,i<l.length→gLf (l.getD i yq):=fun i hi=>by
 rw [List.getD_eq_getElem?_getD,List.getElem?_eq_getElem hi]
 exact h _ (List.getElem_mem hi)
/-! ### places -/
theorem plcs_at {l:List Zk} {i:Nat} {a b:Int} (h:i<l.length):QZ (l.drop i) a b=if (plus a b (l.getD i yq).2.1.1 (l.getD i yq).2.1.2).2.2=0 then ((a,b) :: (QZ (l.drop (i+1)) (plus a b (l.getD i yq).2.1.1 (l.getD i yq).2.1.2).1 (plus a b (l.getD i yq).2.1.1 (l.getD i yq).2.1.2).2.1).1,(QZ (l.drop (i+1)) (plus a b (l.getD i yq).2.1.1 (l.getD i yq).2.1.2).1 (plus a b (l.getD i yq).2.1.1 (l.getD i yq).2.1.2).2.1).2) else ([(a,b)],false):=by
 rw [List.drop_eq_getElem_cons h,List.getD_eq_getElem?_getD,List.getElem?_eq_getElem h,QZ];rfl
def plA (P:List Iv) (l:List Zk) (a b:Int):List Iv × Bool:=(P++(QZ l a b).1,(QZ l a b).2)
theorem plA_go {P:List Iv} {l:List Zk} {i:Nat} {a b:Int} (h:i<l.length) (c:(plus a b (l.getD i yq).2.1.1 (l.getD i yq).2.1.2).2.2=0):plA P (l.drop i) a b=plA (P++[(a,b)]) (l.drop (i+1)) (plus a b (l.getD i yq).2.1.1 (l.getD i yq).2.1.2).1 (plus a b (l.getD i yq).2.1.1 (l.getD i yq).2.1.2).2.1:=by
 unfold plA
 rw [plcs_at h,if_pos c,List.append_assoc]
 rfl
theorem plA_no {P:List Iv} {l:List Zk} {i:Nat} {a b:Int} (h:i<l.length) (c:¬ (plus a b (l.getD i yq).2.1.1 (l.getD i yq).2.1.2).2.2=0):(plA P (l.drop i) a b).2=false:=by
 unfold plA
 rw [plcs_at h,if_neg c]
theorem plA_end {P:List Iv} {l:List Zk} {i:Nat} {a b:Int} (h:l.length≤i):plA P (l.drop i) a b=(P,true):=by
 unfold plA
 rw [List.drop_eq_nil_of_le h,QZ,List.append_nil]
theorem sp_at:∀ {P:List Iv} {l:List Zk} {i:Nat},P.length=l.length→i<l.length→(spZ P l).getD i dS=((P.getD i vA).1,(P.getD i vA).2,(l.getD i yq).2.1.1,(l.getD i yq).2.1.2,true)
 | [],[],_,_,h=>absurd h (Nat.not_lt_zero _)
 | [],_ :: _,_,h,_=>by cases h
 | _ :: _,[],_,h,_=>by cases h
 | p :: P,x :: l,0,_,_=>rfl
 | p :: P,x :: l,i+1,h,hi=>by
  rw [spZ,List.getD_cons_succ,List.getD_cons_succ,List.getD_cons_succ]
  exact sp_at (P:=P) (l:=l) (i:=i) (by simpa using h) (by simpa using hi)
def okIv (P:List Iv):Prop:=∀ q∈P,I64 q.1∧I64 q.2
theorem okIv_at {P:List Iv} (h:okIv P):∀ i,i<P.length→I64 (P.getD i vA).1∧I64 (P.getD i vA).2:=fun i hi=>by
 rw [List.getD_eq_getElem?_getD,List.getElem?_eq_getElem hi]
 exact h _ (List.getElem_mem hi)
theorem okIv_more {P:List Iv} {a b:Int} (h:okIv P) (ha:I64 a) (hb:I64 b):okIv (P++[(a,b)]):=fun q hq=>by
 rcases List.mem_append.1 hq with hq|hq
 ·exact h q hq
 ·rw [List.mem_singleton.1 hq];exact ⟨ha,hb⟩
/-! ### a pitch,moved -/
def mvZ (p:Pt) (g:List Iv):Pt × Int:=if (QD p g).2=0 then QD p g else ((0,0,0),(QD p g).2)
theorem mvZ_yes {p:Pt} {g:List Iv} (h:(QD p g).2=0):mvZ p g=((QD p g).1,0):=by
 unfold mvZ
 rw [if_pos h]
 exact Prod.ext rfl h
theorem mvZ_no {p:Pt} {g:List Iv} (h:¬ (QD p g).2=0):mvZ p g=((0,0,0),(QD p g).2):=if_neg h
theorem mv_sign (l a o s h:Int):Pi.I64 (Pi.move l a o s h).2.1:=by
 have:=Pi.rightB_iff.1 (Pi.move_right l a o s h)
 unfold Pi.I64
 omega
/-! ### what a bar keeps to -/
structure BarG (y:Br):Prop where
 u:I64 y.1
 d:I64 y.2.1
 sh:shL y.2.2
 fit:wx y.2.2
 wd:wdL y.2.2
 ok:okL y.2.2
 gd:gdL y.2.2
 cn:jS y.2.2≤4095
theorem bar_g {y:Br} (hy:qav y) (hw:wdL y.2.2) (hi:(wE y.2.2 1 4095).1=true) (hne:y.2.2.length≠0):BarG y:=by
 have hg:=Qy y.2.2 1 4095 (by decide) hi
 have hc:=(qbt y.2.2 1 4095 (.inl fun e=>hne (by rw [e];rfl))).1.1 hi
 exact ⟨hy.1,hy.2.1,sh_L _ _ _ hi,hy.2.2.2,hw,hg.2.1,hg.1,by omega⟩
theorem lv_good {y:Br} (h:BarG y) (u d:Int):(∀ z∈(Yq y.2.2 u d []).1,gLf z)∧(Yq y.2.2 u d []).1.length≤4095:=by
 have:=qfq y.2.2 (yz y.2.2) u d [] h.wd h.ok h.gd (by have:=h.cn;show 0+_≤_;omega)
 exact ⟨this.1,Nat.le_trans this.2 h.cn⟩
theorem qkq {l:List Vo} {i j:Nat} (h:qv l=0) (hi:i<l.length) (hj:j<(l.getD i qC).2.length):wJ ((l.getD i qC).2.getD j zA)=0:=by
 unfold qv at h
 split at h
 ·cases h
 ·exact qgh (qcg (Zv h i hi)).2 j hj
theorem nb_no1 {v:Int} {y:Br} {a b:Int} {N:List Nt} {z:Nat} (h:¬ (make y.1 y.2.1).2.2=0):(nbT v y ((a,b),N,z)).1=(make y.1 y.2.1).2.2:=by
 unfold nbT
 rw [if_neg h]
theorem nb_no2 {v:Int} {y:Br} {a b:Int} {N:List Nt} {z:Nat} {V:List Zk × Bool} (h:(make y.1 y.2.1).2.2=0) (hV:V=Yq y.2.2 (make y.1 y.2.1).1 (make y.1 y.2.1).2.1 []) (hx:¬ (V.2=true∧(QZ V.1 0 1).2=true)):(nbT v y ((a,b),N,z)).1=4:=by
 unfold nbT
 rw [if_pos h,← hV,if_neg hx]
theorem nb_go {v:Int} {y:Br} {a b:Int} {N:List Nt} {z:Nat} {V:List Zk × Bool} {P:List Iv} (h:(make y.1 y.2.1).2.2=0) (hV:V=Yq y.2.2 (make y.1 y.2.1).1 (make y.1 y.2.1).2.1 []) (h2:V.2=true) (hp:QZ V.1 0 1=(P,true)):nbT v y ((a,b),N,z)=((noF v a b (spZ P V.1) V.1 (N,z,0)).1,(noF v a b (spZ P V.1) V.1 (N,z,0)).2.1,(noF v a b (spZ P V.1) V.1 (N,z,0)).2.2.1):=by
 unfold nbT
 rw [if_pos h,← hV,if_pos (show V.2=true∧(QZ V.1 0 1).2=true from ⟨h2,by rw [hp]⟩),hp]
end Go.Proofs.YtmlnilkbolcknaaGreatDoor.Pm
set_option maxRecDepth 100000
set_option maxHeartbeats 4000000
namespace Go.Proofs.YtmlnilkbolcknaaGreatDoor.Pi
open Go.RowKit
def R3 (r:Int × Int × Int):Value:=.tuple #[.agg #[.int .i64 r.1,.int .i64 r.2.1],.int .i64 r.2.2]
def R2 (r:Int × Int):Value:=.tuple #[.int .i64 r.1,.int .i64 r.2]
theorem ret_R2 {r:Int × Int} {a b:Int} (h:r=(a,b)):Ending.returned (.tuple #[.int .i64 a,.int .i64 b]) = .returned (R2 r):=by rw [h];rfl
theorem three {n m:Nat} (h:n+1+1+1≤m):n<m∧n+1<m∧n+1+1<m:=by omega
theorem qea:wrap64 9223372036854775808 = -9223372036854775808:=by unfold wrap64;decide

theorem within_any (s h:Int) (w:World) (hs:I64 s) (hh:I64 h) :
  Calls Tryz.prog 121 #[.agg #[.int .i64 s,.int .i64 h]] w fun e w'=>e = .returned (.bool (withinB s h))∧Below w.heap.size w w':=by
 unfold I64 at hs hh
 have hw:=qea
 have cs:s = -9223372036854775808∨(-9223372036854775808<s∧s < -200)∨(-200≤s∧s≤200)∨200<s:=by omega
 have ch:h = -9223372036854775808∨(-9223372036854775808<h∧h < -4096)∨(-4096≤h∧h≤4096)∨4096<h:=by omega
 rcases cs with rfl|⟨c1,c2⟩|⟨c1,c2⟩|c1 <;> rcases ch with rfl|⟨d1,d2⟩|⟨d1,d2⟩|d1
 all_goals
  go_enter Tryz.func121,Tryz.ntmps121
  go_wp2
  all_goals
   go_ret
   refine ⟨yN ?_,(by repeat (first|exact Below.refl _ _|assumption|refine qq ?_ _|refine Below.drew ?_|refine zI ?_ _|refine Below.setCell ?_ (by first|omega|(simp <;> omega)) _|refine zC (by assumption) ?_))⟩
   rw [Bool.eq_iff_iff,withinB_iff]
   simp
   try omega


theorem tq (n k:Int) (hk:0<k):k*n.tdiv k+n.tmod k=n ∧ -k<n.tmod k∧n.tmod k<k:=by
 have h1:=Int.natAbs_tmod n k
 have h2:=Nat.mod_lt n.natAbs (show 0<k.natAbs by omega)
 exact ⟨Int.mul_tdiv_add_tmod n k,by omega,by omega⟩

set_option maxHeartbeats 1000000 in
theorem floor_any (n:Int) (w:World) (h1 : -1000≤n) (h2:n≤1000) :
  Calls Tryz.prog 122 #[.int .i64 n,.int .i64 7] w fun e w'=>e = .returned (R2 (n / 7,n % 7))∧∃ k,w'=w.drewN k:=by
 have t:=tq n 7 (by omega)
 have e1:IntKind.i64.wrap (n.tdiv 7)=n.tdiv 7:=IntWalk.i64_in _ (by omega)
 by_cases hc:n.tmod 7<0
 ·have HR:=Lib.hid (show n.tdiv 7-1=n / 7∧n.tmod 7+7=n % 7 by omega)
  have q1 : -1000≤n.tdiv 7∧n.tdiv 7≤1000:=by omega
  have q2 : -7≤n.tmod 7:=by omega
  clear t
  go_enter Tryz.func122,Tryz.ntmps122
  go_wp2
  go_quiet (fail)
  go_wp2
  go_ret2
  exact ⟨ret_R2 (by rw [HR.out.1,HR.out.2]),nq,rfl⟩
 ·have HR:=Lib.hid (show n.tdiv 7=n / 7∧n.tmod 7=n % 7 by omega)
  have hc':0≤n.tmod 7:=by omega
  clear t
  go_enter Tryz.func122,Tryz.ntmps122
  go_wp2
  go_quiet (fail)
  go_wp2
  go_ret2
  exact ⟨ret_R2 (by rw [HR.out.1,HR.out.2]),nq,rfl⟩

theorem move_no1 {l a o s h:Int} (k:rightB l a o=false):move l a o s h=(0,0,0,2):=by simp [move,k]
theorem move_no2 {l a o s h:Int} (k:rightB l a o=true) (k2:withinB s h=false):move l a o s h=(0,0,0,3):=by simp [move,k,k2]

theorem at_yes {S H:Int} (k:rightB (S % 7) (H-halves (S % 7) 0 (S / 7)) (S / 7)=true):at_ S H=(S % 7,H-halves (S % 7) 0 (S / 7),S / 7,0):=by
 have e:H-halves (S % 7) 0 (S / 7)=H-(12*(S / 7)+nat7 (S % 7)):=by unfold halves;omega
 rw [e] at k ⊢
 unfold at_
 rw [if_pos k]
theorem at_no {S H:Int} (k:rightB (S % 7) (H-halves (S % 7) 0 (S / 7)) (S / 7)=false):at_ S H=(0,0,0,3):=by
 have e:H-halves (S % 7) 0 (S / 7)=H-(12*(S / 7)+nat7 (S % 7)):=by unfold halves;omega
 rw [e] at k
 unfold at_
 rw [if_neg (by rw [k];exact Bool.false_ne_true)]
theorem halves_bd (S:Int) (h : -1000≤S∧S≤1000) : -2000≤halves (S % 7) 0 (S / 7)∧halves (S % 7) 0 (S / 7)≤2000:=by
 have:=nat7_range (S % 7)
 unfold halves
 omega
theorem abs_any (n:Int) (w:World) (h1 : -9223372036854775808<n) (h2:n≤9223372036854775807) :
  Calls Tryz.prog 55 #[.int .i64 n] w fun e w'=>e = .returned (.int .i64 (n.natAbs:Int))∧w=w':=by
 go_enter Tryz.func55,Tryz.ntmps55
 go_wp2
 all_goals
  go_ret
  exact ⟨jG (by omega),rfl⟩
theorem abs_least (w:World) :
  Calls Tryz.prog 55 #[.int .i64 (-9223372036854775808)] w fun e w'=>e = .returned (.int .i64 (-9223372036854775808))∧w=w':=by
 have hw:=qea
 go_enter Tryz.func55,Tryz.ntmps55
 go_wp2
 go_ret
 exact ⟨jG hw,rfl⟩

theorem ref_right_any (l a o:Int) (w:World) (ha:I64 a) :
  Calls Tryz.prog 49 #[.agg #[.int .i64 l,.int .i64 a,.int .i64 o]] w fun e w'=>e = .returned (.bool (rightB l a o))∧Below w.heap.size w w':=by
 unfold I64 at ha
 have cl:l<0∨6<l∨(0≤l∧l≤6):=by omega
 have ca:a = -9223372036854775808∨(-9223372036854775808<a∧3<(a.natAbs:Int))∨(-3≤a∧(a.natAbs:Int)≤3):=by omega
 have co:o < -12∨12<o∨(-12≤o∧o≤12):=by omega
 rcases cl with c1|c1|⟨c1,c2⟩
 ·go_enter Tryz.func49,Tryz.ntmps49
  go_wp2
  go_ret
  refine ⟨yN ?_,(by repeat (first|exact Below.refl _ _|assumption|refine qq ?_ _|refine Below.drew ?_|refine zI ?_ _|refine Below.setCell ?_ (by first|omega|(simp <;> omega)) _|refine zC (by assumption) ?_))⟩
  rw [eq_comm,← Bool.not_eq_true,rightB_iff];omega
 ·go_enter Tryz.func49,Tryz.ntmps49
  go_wp2
  go_ret
  refine ⟨yN ?_,(by repeat (first|exact Below.refl _ _|assumption|refine qq ?_ _|refine Below.drew ?_|refine zI ?_ _|refine Below.setCell ?_ (by first|omega|(simp <;> omega)) _|refine zC (by assumption) ?_))⟩
  rw [eq_comm,← Bool.not_eq_true,rightB_iff];omega
 ·rcases ca with rfl|⟨d1,d2⟩|⟨d1,d2⟩
  ·rcases co with k1|k1|⟨k1,k2⟩
   all_goals
    go_enter Tryz.func49,Tryz.ntmps49
    go_wp2_with (go_at_call 55;refine (abs_least _).mono ?_;rintro e w1 ⟨rfl,rfl⟩)
    go_ret
    refine ⟨yN ?_,(by repeat (first|exact Below.refl _ _|assumption|refine qq ?_ _|refine Below.drew ?_|refine zI ?_ _|refine Below.setCell ?_ (by first|omega|(simp <;> omega)) _|refine zC (by assumption) ?_))⟩
    rw [eq_comm,← Bool.not_eq_true,rightB_iff];omega
  ·go_enter Tryz.func49,Tryz.ntmps49
   go_wp2_with (go_at_call 55;refine (abs_any a _ (by omega) (by omega)).mono ?_;rintro e w1 ⟨rfl,rfl⟩)
   go_ret
   refine ⟨yN ?_,(by repeat (first|exact Below.refl _ _|assumption|refine qq ?_ _|refine Below.drew ?_|refine zI ?_ _|refine Below.setCell ?_ (by first|omega|(simp <;> omega)) _|refine zC (by assumption) ?_))⟩
   rw [eq_comm,← Bool.not_eq_true,rightB_iff];omega
  ·rcases co with k1|k1|⟨k1,k2⟩
   all_goals
    go_enter Tryz.func49,Tryz.ntmps49
    go_wp2_with (go_at_call 55;refine (abs_any a _ (by omega) (by omega)).mono ?_;rintro e w1 ⟨rfl,rfl⟩)
    go_ret
    refine ⟨yN ?_,(by repeat (first|exact Below.refl _ _|assumption|refine qq ?_ _|refine Below.drew ?_|refine zI ?_ _|refine Below.setCell ?_ (by first|omega|(simp <;> omega)) _|refine zC (by assumption) ?_))⟩
    rw [Bool.eq_iff_iff,rightB_iff]
    simp
    try omega

theorem up_any (l:Int) (w:World) :
  Calls Tryz.prog 114 #[.int .i64 l] w fun e w'=>e = .returned (.int .i64 (up l))∧w=w':=by
 by_cases h2:l=2
 ·subst h2
  go_enter Tryz.func114,Tryz.ntmps114
  go_wp2
  go_ret
  exact ⟨rfl,rfl⟩
 ·by_cases h6:l=6
  ·subst h6
   go_enter Tryz.func114,Tryz.ntmps114
   go_wp2
   go_ret
   exact ⟨rfl,rfl⟩
  ·have HU:=Lib.hid (show up l=2 by unfold up;rw [if_neg (by omega)])
   replace h2:(l == 2)=false:=by simpa using h2
   replace h6:(l == 6)=false:=by simpa using h6
   go_enter Tryz.func114,Tryz.ntmps114
   go_wp2
   go_ret
   exact ⟨jG HU.out.symm,rfl⟩

set_option maxHeartbeats 2000000 in
theorem white_pos (n:Int) (w:World) (h0:0≤n) (h1:n≤1000) :
  Calls Tryz.prog 81 #[.int .i64 n] w fun e w'=>e = .returned (.int .i64 (white n))∧w=w':=by
 go_enter Tryz.func81,Tryz.ntmps81
 go_wp2
 go_loop [0,3,4] (fun x m l=>∃ t:Int,0≤t∧t≤n∧x = .int .i64 (n-t)∧m = .int .i64 (white t)∧l = .int .i64 (t % 7)) (fun x _ _=>(intOf x).toNat)
 case atStart=>exact ⟨0,by omega,h0,by go_num,by go_num,by go_num⟩
 case round =>
  obtain ⟨t,ht0,ht1,rfl,rfl,rfl⟩:=hrel
  have hb:=white_bd t (by omega)
  have hu:=up_range (t % 7)
  have hl:0≤t % 7∧t % 7≤6:=by omega
  have HS:=Lib.hid (qee t)
  have HL:=Lib.hid (show (t % 7+1) % 7=(t+1) % 7 by omega)
  by_cases hc:t<n
  ·have hc':0<n-t:=by omega
   go_wp2_with (go_at_call 114;refine (up_any (t % 7) _).mono ?_;rintro e w1 ⟨rfl,rfl⟩)
   go_round
   case rel=>exact ⟨t+1,by omega,by omega,by go_num,by rw [HS.out],by rw [HL.out]⟩
   case measure=>(simp [intOf] <;> omega)
  ·obtain rfl:t=n:=by omega
   have hz:t-t=0:=by omega
   go_wp2
   refine wp_loop_rounds 1 ?_
   rw [rounds_succ]
   go_wp2
   go_ret
   exact ⟨rfl,rfl⟩

set_option maxHeartbeats 2000000 in
theorem white_neg (n:Int) (w:World) (h0:n<0) (h1 : -1000≤n) :
  Calls Tryz.prog 81 #[.int .i64 n] w fun e w'=>e = .returned (.int .i64 (white n))∧w=w':=by
 go_enter Tryz.func81,Tryz.ntmps81
 go_wp2
 refine wp_loop_rounds 1 ?_
 rw [rounds_succ]
 go_wp2
 go_loop [0,3,4] (fun x m l=>∃ t:Int,t≤0∧n≤t∧x = .int .i64 (n-t)∧m = .int .i64 (white t)∧l = .int .i64 (t % 7)) (fun x _ _=>(-(intOf x)).toNat)
 case atStart=>exact ⟨0,by omega,by omega,by go_num,by go_num,by go_num⟩
 case round =>
  obtain ⟨t,ht0,ht1,rfl,rfl,rfl⟩:=hrel
  have hb:=white_bd t (by omega)
  have hu:=up_range ((t-1) % 7)
  have hl:0≤t % 7∧t % 7≤6:=by omega
  have HS:=Lib.hid (white_pred t)
  have hL:(t % 7+6) % 7=(t-1) % 7:=by omega
  by_cases hc:n<t
  ·have hc':n-t<0:=by omega
   go_wp2_with (go_at_call 114;refine (up_any ((t-1) % 7) _).mono ?_;rintro e w1 ⟨rfl,rfl⟩)
   go_round
   case rel=>exact ⟨t-1,by omega,by omega,by go_num,by rw [HS.out],rfl⟩
   case measure=>(simp [intOf] <;> omega)
  ·obtain rfl:t=n:=by omega
   have hz:t-t=0:=by omega
   go_wp2
   go_ret
   exact ⟨rfl,rfl⟩

theorem qce (n:Int) (w:World) (h0 : -1000≤n) (h1:n≤1000) :
  Calls Tryz.prog 81 #[.int .i64 n] w fun e w'=>e = .returned (.int .i64 (white n))∧w=w':=by
 by_cases h:0≤n
 ·exact white_pos n w h h1
 ·exact white_neg n w (by omega) h0

set_option maxHeartbeats 1000000 in
theorem Ww (l a o:Int) (w:World) (h:rightB l a o=true) :
  Calls Tryz.prog 52 #[.agg #[.int .i64 l,.int .i64 a,.int .i64 o]] w fun e w'=>e = .returned (.int .i64 (steps l o))∧Below w.heap.size w w':=by
 have hr:=rightB_iff.1 h
 go_enter Tryz.func52,Tryz.ntmps52
 go_wp2
 go_ret
 exact ⟨jG rfl,(by repeat (first|exact Below.refl _ _|assumption|refine qq ?_ _|refine Below.drew ?_|refine zI ?_ _|refine Below.setCell ?_ (by first|omega|(simp <;> omega)) _|refine zC (by assumption) ?_))⟩

set_option maxHeartbeats 1000000 in
theorem qew (l a o:Int) (w:World) (h:rightB l a o=true) :
  Calls Tryz.prog 53 #[.agg #[.int .i64 l,.int .i64 a,.int .i64 o]] w fun e w'=>e = .returned (.int .i64 (halves l a o))∧Below w.heap.size w w':=by
 have hr:=rightB_iff.1 h
 have hb:=(bounds h).1
 have hwb:=white_bd (steps l o) (by omega)
 have HW:=Lib.hid (qil h)
 go_enter Tryz.func53,Tryz.ntmps53
 go_wp2
 have hE:=Ext.cells (w.alloc (Obj.cells #[Value.int .i64 l,Value.int .i64 a,Value.int .i64 o] 52))
 refine qgn (by kernel_rfl) (by kernel_rfl) ?_
 repeat go_big_quiet_step ((first|(go_at_call 52;with_reducible refine ext_call (Ww l a o _ h))|(go_at_call 81;with_reducible refine ext_same (qce (steps l o) _ (by omega) (by omega)))))
 refine wpQuiet_nil ?_
 rintro wd ⟨⟨_,hbd⟩,rfl⟩
 go_wp2
 go_ret
 exact ⟨jG HW.out,(by repeat (first|exact Below.refl _ _|assumption|refine qq ?_ _|refine Below.drew ?_|refine zI ?_ _|refine Below.setCell ?_ (by first|omega|(simp <;> omega)) _|refine zC (by assumption) ?_))⟩

theorem qet (s h:Int) (w:World) :
  Calls Tryz.prog 50 #[.agg #[.int .i64 s,.int .i64 h]] w fun e w'=>e = .returned (.bool (withinB s h))∧Below w.heap.size w w':=by
 have cs:s < -200∨200<s∨(-200≤s∧s≤200):=by omega
 have ch:h < -4096∨4096<h∨(-4096≤h∧h≤4096):=by omega
 rcases cs with c1|c1|⟨c1,c2⟩ <;> rcases ch with d1|d1|⟨d1,d2⟩
 all_goals
  go_enter Tryz.func50,Tryz.ntmps50
  go_wp2
  go_ret
  refine ⟨yN ?_,(by repeat (first|exact Below.refl _ _|assumption|refine qq ?_ _|refine Below.drew ?_|refine zI ?_ _|refine Below.setCell ?_ (by first|omega|(simp <;> omega)) _|refine zC (by assumption) ?_))⟩
  rw [Bool.eq_iff_iff,withinB_iff]
  simp
  try omega

def RA (s h:Int):Value:=.tuple #[.agg #[.int .i64 (s % 7),.int .i64 (h-white s),.int .i64 (s / 7)],.bool (rightB (s % 7) (h-white s) (s / 7))]

theorem ref_at_any (s h:Int) (w:World) (h0 : -1000≤s∧s≤1000) (h1 : -100000≤h∧h≤100000) :
  Calls Tryz.prog 51 #[.int .i64 s,.int .i64 h] w fun e w'=>e = .returned (RA s h)∧Below w.heap.size w w':=by
 have hwb:=white_bd s h0
 have hA:I64 (h-white s):=by unfold I64;omega
 have hL:0≤s % 7∧s % 7≤6:=by omega
 have hO : -1000≤s / 7∧s / 7≤1000:=by omega
 go_enter Tryz.func51,Tryz.ntmps51
 go_wp2
 go_loop [6,7] (fun x y=>∃ q:Int,x = .int .i64 q∧y = .int .i64 (s-7*q) ∧ -1000≤q∧q≤0∧(q=0∨s-7*q<7)) (fun _ y=>(-(intOf y)).toNat)
 case atStart=>exact ⟨0,rfl,by go_num,by omega,by omega,by omega⟩
 case round =>
  obtain ⟨q,rfl,rfl,q1,q2,q3⟩:=hrel
  by_cases hc:s-7*q<0
  ·go_wp2
   go_round
   case rel=>exact ⟨q-1,rfl,by go_num,by omega,by omega,by omega⟩
   case measure=>(simp [intOf] <;> omega)
  ·have hc':0≤s-7*q:=by omega
   clear hc
   go_wp2
   go_loop [6,7] (fun x y=>∃ r:Int,x = .int .i64 r∧y = .int .i64 (s-7*r) ∧ -1000≤r∧0≤s-7*r∧r≤1000) (fun _ y=>(intOf y).toNat)
   case atStart=>exact ⟨q,rfl,rfl,by omega,by omega,by omega⟩
   case round =>
    obtain ⟨r,rfl,rfl,r1,r2,r3⟩:=hrel
    clear hc' q3 q1 q2
    by_cases hd:6<s-7*r
    ·go_wp2
     go_round
     case rel=>exact ⟨r+1,rfl,by go_num,by omega,by omega,by omega⟩
     case measure=>(simp [intOf] <;> omega)
    ·obtain ⟨rO,rL⟩:r=s / 7∧s-7*r=s % 7:=by omega
     subst rO
     have HL:=Lib.hid rL
     clear rL
     have hd':s-7*(s / 7)≤6:=by omega
     clear hd
     go_wp2_with (go_at_call 81;refine (qce s _ h0.1 h0.2).mono ?_;rintro e w1 ⟨rfl,rfl⟩)
     obtain ⟨m,hm⟩:∃ m,m=s-7*(s / 7):=⟨_,rfl⟩
     rw [← hm]
     have HM:=Lib.hid (hm.trans HL.out)
     clear hm
     obtain ⟨W,hW⟩:∃ W,W=(w.alloc (Obj.cells #[Value.int .i64 0,Value.int .i64 0,Value.int .i64 0] 52)).alloc (Obj.cells #[Value.int .i64 m,Value.int .i64 (h-white s),Value.int .i64 (s / 7)] 52):=⟨_,rfl⟩
     have zr:w.heap.size<W.heap.size:=by rw [hW];simp;omega
     have zq:w.heap.size+1<W.heap.size:=by rw [hW];simp
     have cr0:W.cell? ⟨w.heap.size,0,none⟩=some (.int .i64 (0)):=by rw [hW];go_simp
     have fr0:W.frozen? ⟨w.heap.size,0,none⟩=false:=by rw [hW];go_simp
     have cr1:W.cell? ⟨w.heap.size,1,none⟩=some (.int .i64 (0)):=by rw [hW];go_simp
     have fr1:W.frozen? ⟨w.heap.size,1,none⟩=false:=by rw [hW];go_simp
     have cr2:W.cell? ⟨w.heap.size,2,none⟩=some (.int .i64 (0)):=by rw [hW];go_simp
     have fr2:W.frozen? ⟨w.heap.size,2,none⟩=false:=by rw [hW];go_simp
     have cq0:W.cell? ⟨w.heap.size+1,0,none⟩=some (.int .i64 (m)):=by rw [hW];go_simp
     have cq1:W.cell? ⟨w.heap.size+1,1,none⟩=some (.int .i64 (h-white s)):=by rw [hW];go_simp
     have cq2:W.cell? ⟨w.heap.size+1,2,none⟩=some (.int .i64 (s / 7)):=by rw [hW];go_simp
     have hBW:Below w.heap.size w W:=by rw [hW];exact (by repeat (first|exact Below.refl _ _|assumption|refine qq ?_ _|refine Below.drew ?_|refine zI ?_ _|refine Below.setCell ?_ (by first|omega|(simp <;> omega)) _|refine zC (by assumption) ?_))
     rw [← hW]
     clear hW
     have hE:=Ext.cells W
     refine qae 3 (by kernel_rfl) (by kernel_rfl) ?_
     simp only [List.take_succ_cons,List.take_zero,List.drop_succ_cons,List.drop_zero]
     repeat go_big_quiet_step ((first|(go_at_call 49;with_reducible refine ext_call (ref_right_any m (h-white s) (s / 7) _ hA))))
     refine wpQuiet_nil ?_
     rintro wd ⟨⟨_,hbd⟩,rfl⟩
     have kr0:=qcy cr0 hbd
     have kr1:=qcy cr1 hbd
     have kr2:=qcy cr2 hbd
     have lr0:=(hbd.frozen (p:=⟨w.heap.size,0,none⟩) zr).trans fr0
     have lr1:=(hbd.frozen (p:=⟨w.heap.size,1,none⟩) zr).trans fr1
     have lr2:=(hbd.frozen (p:=⟨w.heap.size,2,none⟩) zr).trans fr2
     have hBd:Below w.heap.size w wd:=zC hbd hBW
     go_wp2
     exact bodyPost_ret (v:=.tuple #[.agg #[.int .i64 m,.int .i64 (h-white s),.int .i64 (s / 7)],.bool (rightB m (h-white s) (s / 7))])
      (by simp [results,Tryz.results51,go_sem,kr0,kr1,kr2]) rfl ⟨by rw [RA,HM.out],(by repeat (first|exact Below.refl _ _|assumption|refine qq ?_ _|refine Below.drew ?_|refine zI ?_ _|refine Below.setCell ?_ (by first|omega|(simp <;> omega)) _|refine zC (by assumption) ?_))⟩

end Go.Proofs.YtmlnilkbolcknaaGreatDoor.Pi
namespace Go.Proofs.YtmlnilkbolcknaaGreatDoor.Pm
open Go Go.Proofs.YtmlnilkbolcknaaGreatDoor.Pi
abbrev pitP (l a o:Int):PV:=.agg [iv l,iv a,iv o]
abbrev invP (s h:Int):PV:=.agg [iv s,iv h]
theorem YG (l:Int):PC Tryz.prog 123 [iv l] [] (iv (Pi.nat7 l)) [] :=
 vC (wF Tryz.func123 (by kernel_rfl) (by kernel_rfl)) rfl rfl fun w=>(qdd l w).mono fun _ w' ⟨e1,e2⟩=>⟨e1,e2▸RowKit.Below.refl _ _⟩
theorem WI (l a o:Int):PC Tryz.prog 89 [pitP l a o] [] (bv (rightB l a o)) [] :=
 vC (wF Tryz.func89 (by kernel_rfl) (by kernel_rfl)) rfl rfl fun w=>right_any l a o w
theorem qez (s h:Int) (i1:Pi.I64 s) (i2:Pi.I64 h):PC Tryz.prog 121 [invP s h] [] (bv (withinB s h)) [] :=
 vC (wF Tryz.func121 (by kernel_rfl) (by kernel_rfl)) rfl rfl fun w=>within_any s h w i1 i2
theorem ZY (n:Int) (h1 : -1000≤n) (h2:n≤1000):PC Tryz.prog 122 [iv n,iv 7] [] (.tup [iv (n / 7),iv (n % 7)]) [] :=
 vC (wF Tryz.func122 (by kernel_rfl) (by kernel_rfl)) rfl rfl fun w=>(floor_any n w h1 h2).mono fun _ w' ⟨e1,k,e2⟩=>⟨e1,by rw [e2];exact ⟨rfl,rfl,rfl,Nat.le_refl _,fun _ _=>rfl⟩⟩
theorem ZO (l a o:Int) (ha:Pi.I64 a):PC Tryz.prog 49 [pitP l a o] [] (bv (rightB l a o)) [] :=
 vC (wF Tryz.func49 (by kernel_rfl) (by kernel_rfl)) rfl rfl fun w=>ref_right_any l a o w ha
theorem VN (s h:Int):PC Tryz.prog 50 [invP s h] [] (bv (withinB s h)) [] :=
 vC (wF Tryz.func50 (by kernel_rfl) (by kernel_rfl)) rfl rfl fun w=>qet s h w
abbrev M4P (r:Int × Int × Int × Int):PV:=.tup [.agg [iv r.1,iv r.2.1,iv r.2.2.1],iv r.2.2.2]
theorem psteps_pc (l a o:Int) (h:rightB l a o=true):PC Tryz.prog 154 [pitP l a o] [] (iv (Pi.steps l o)) [] :=
 vC (wF Tryz.func154 (by kernel_rfl) (by kernel_rfl)) rfl rfl fun w=>steps_any l a o w h
theorem qfe (l a o:Int) (ha : -1000000≤a∧a≤1000000) (ho : -1000000≤o∧o≤1000000):PC Tryz.prog 155 [pitP l a o] [] (iv (Pi.halves l a o)) [] :=
 vC (wF Tryz.func155 (by kernel_rfl) (by kernel_rfl)) rfl rfl fun w=>halves_any l a o w ha ho
theorem qgq (l a o:Int) (h:rightB l a o=true):PC Tryz.prog 52 [pitP l a o] [] (iv (Pi.steps l o)) [] :=
 vC (wF Tryz.func52 (by kernel_rfl) (by kernel_rfl)) rfl rfl fun w=>Ww l a o w h
theorem qeu (l a o:Int) (h:rightB l a o=true):PC Tryz.prog 53 [pitP l a o] [] (iv (Pi.halves l a o)) [] :=
 vC (wF Tryz.func53 (by kernel_rfl) (by kernel_rfl)) rfl rfl fun w=>qew l a o w h
theorem ref_pat_pc (s h:Int) (h0 : -1000≤s∧s≤1000) (h1 : -100000≤h∧h≤100000):PC Tryz.prog 51 [iv s,iv h] [] (.tup [.agg [iv (s % 7),iv (h-white s),iv (s / 7)],bv (rightB (s % 7) (h-white s) (s / 7))]) [] :=
 vC (wF Tryz.func51 (by kernel_rfl) (by kernel_rfl)) rfl rfl fun w=>ref_at_any s h w h0 h1
set_option maxRecDepth 100000
set_option maxHeartbeats 4000000
theorem move_pc0 (l a o s h:Int) (is:Pi.I64 s) (ih:Pi.I64 h):PC Tryz.prog 134 [(.agg [(iv l),(iv a),(iv o)]),(.agg [(iv s),(iv h)])] [] (M4P (Pi.move l a o s h)) [none]:=by
 refine zH Tryz.func134 rfl (by kernel_rfl) (Nat.le_of_ble_eq_true rfl) (by kernel_rfl) (l0:=[ps 0 (.agg [(iv l),(iv a),(iv o)]),ps 1 (.agg [(iv s),(iv h)])]) rfl (fun c0 Bor hc0=>?_)
 refine qA<|qj mxd [] [ps 2 (.opt 0 0),ps 3 (.opt 8 0),ps 4 (.opt 16 0),pb 0 52 [(iv l),(iv a),(iv o)],pb 8 41 [(iv s),(iv h)],pb 16 52 [(iv 0),(iv 0),(iv 0)]] (oz)<|qA<|qA<|ZE mxd 1 [ps 2 (.opt 0 0),ps 3 (.opt 8 0),ps 4 (.opt 16 0),ps 9 (bv (!(rightB l a o))),pb 0 52 [(iv l),(iv a),(iv o)],pb 8 41 [(iv s),(iv h)],pb 16 52 [(iv 0),(iv 0),(iv 0)]] (yC 40 (WI l a o) oz) ?_
 by_cases h1:(rightB l a o)=true
 ·refine qT (congrArg Bool.not h1)<|qE<|qA<|qA<|ZE mxd 1 [ps 2 (.opt 0 0),ps 3 (.opt 8 0),ps 4 (.opt 16 0),ps 13 (bv (!(withinB s h))),pb 0 52 [(iv l),(iv a),(iv o)],pb 8 41 [(iv s),(iv h)],pb 16 52 [(iv 0),(iv 0),(iv 0)]] (yC 64 (qez s h is ih) oz) ?_
  by_cases h2:(withinB s h)=true
  ·refine qT (congrArg Bool.not h2)<|qE<|qA ?_
   have hb:=bounds h1
   have hr:=rightB_iff.1 h1
   have hw:=withinB_iff.1 h2
   have hq:=halves_bd (Pi.steps l o+s) (by omega)
   refine qj mxd [] [ps 2 (.opt 0 0),ps 3 (.opt 8 0),ps 4 (.opt 16 0),ps 6 (.opt 80 0),pb 0 52 [(iv l),(iv a),(iv o)],pb 8 41 [(iv s),(iv h)],pb 16 52 [(iv 0),(iv 0),(iv 0)],pb 80 52 [(iv 0),(iv 0),(iv 0)]] (oz)<|qA<|wQ mxd [(1,.call [] [(.agg [(iv l),(iv a),(iv o)])] [] (iv (Pi.steps l o)) []),(5,.call [] [(iv ((Pi.steps l o)+s)),(iv 7)] [] (.tup [(iv (((Pi.steps l o)+s) / 7)),(iv (((Pi.steps l o)+s) % 7))]) [])] (bfm [[],[(0,1)],[],[(2,1)],[(0,4)],[(0,5)],[(0,6)],[(0,7)],[(0,7)],[(0,8)],[(0,8),(9,1)],[(0,11)],[(0,12)]]) [([32],[1,4]),([34],[32]),([36],[6]),([38],[17,36]),([40],[34,38]),([42],[40]),([30],[42]),([44],[30]),([46],[30]),([48],[12]),([161],[44,48,161]),([50],[12]),([161],[46,50,161])] [ps 2 (.opt 0 0),ps 3 (.opt 8 0),ps 4 (.opt 16 0),ps 6 (.opt 80 0),pb 0 52 [(iv l),(iv a),(iv o)],pb 8 41 [(iv s),(iv h)],pb 16 52 [(iv 0),(iv 0),(iv 0)],pb 80 52 [(iv (((Pi.steps l o)+s) % 7)),(iv 0),(iv (((Pi.steps l o)+s) / 7))]] (yC 96 (psteps_pc l a o h1) (oi ((Pi.steps l o)+s) (by omega) (yC 128 (ZY ((Pi.steps l o)+s) (by omega) (by omega)) oz)))<|qA<|wQ mxd [(1,.call [] [(.agg [(iv l),(iv a),(iv o)])] [] (iv (Pi.halves l a o)) []),(6,.call [] [(.agg [(iv (((Pi.steps l o)+s) % 7)),(iv 0),(iv (((Pi.steps l o)+s) / 7))])] [] (iv (Pi.halves (((Pi.steps l o)+s) % 7) 0 (((Pi.steps l o)+s) / 7))) [])] (bfm [[],[(0,1)],[],[(2,1)],[(0,4)],[],[(0,2),(5,1)],[(0,7)],[(0,8)],[(0,9)]]) [([52],[1,4]),([54],[52]),([56],[6]),([58],[17,56]),([60],[54,58]),([62],[12,161]),([64],[62]),([66],[60,64]),([68],[12]),([161],[66,68,161])] [ps 4 (.opt 16 0),ps 6 (.opt 80 0),pb 16 52 [(iv 0),(iv 0),(iv 0)],pb 80 52 [(iv (((Pi.steps l o)+s) % 7)),(iv (((Pi.halves l a o)+h)-(Pi.halves (((Pi.steps l o)+s) % 7) 0 (((Pi.steps l o)+s) / 7)))),(iv (((Pi.steps l o)+s) / 7))]] (yC 200 (qfe l a o (by omega) (by omega)) (oi ((Pi.halves l a o)+h) (by omega) (yC 240 (qfe (((Pi.steps l o)+s) % 7) 0 (((Pi.steps l o)+s) / 7) (by omega) (by omega)) (oi (((Pi.halves l a o)+h)-(Pi.halves (((Pi.steps l o)+s) % 7) 0 (((Pi.steps l o)+s) / 7))) (by omega) oz))))<|qA<|qA<|ZE mxd 1 [ps 4 (.opt 16 0),ps 6 (.opt 80 0),ps 37 (bv (!(rightB (((Pi.steps l o)+s) % 7) (((Pi.halves l a o)+h)-(Pi.halves (((Pi.steps l o)+s) % 7) 0 (((Pi.steps l o)+s) / 7))) (((Pi.steps l o)+s) / 7)))),pb 16 52 [(iv 0),(iv 0),(iv 0)],pb 80 52 [(iv (((Pi.steps l o)+s) % 7)),(iv (((Pi.halves l a o)+h)-(Pi.halves (((Pi.steps l o)+s) % 7) 0 (((Pi.steps l o)+s) / 7)))),(iv (((Pi.steps l o)+s) / 7))]] (yC 280 (WI (((Pi.steps l o)+s) % 7) (((Pi.halves l a o)+h)-(Pi.halves (((Pi.steps l o)+s) % 7) 0 (((Pi.steps l o)+s) / 7))) (((Pi.steps l o)+s) / 7)) oz) ?_
   by_cases h3:(rightB (((Pi.steps l o)+s) % 7) (((Pi.halves l a o)+h)-(Pi.halves (((Pi.steps l o)+s) % 7) 0 (((Pi.steps l o)+s) / 7))) (((Pi.steps l o)+s) / 7))=true
   ·refine qT (congrArg Bool.not h3)<|qE<|qA<|qj mxd [] [ps 4 (.opt 16 0),ps 5 (iv 0),pb 16 52 [(iv (((Pi.steps l o)+s) % 7)),(iv (((Pi.halves l a o)+h)-(Pi.halves (((Pi.steps l o)+s) % 7) 0 (((Pi.steps l o)+s) / 7)))),(iv (((Pi.steps l o)+s) / 7))]] (oz) ?_
    rw [qdr h1 h2,at_yes h3]
    exact zy hc0 [4,5] [16]
   refine qQ (congrArg Bool.not (Bool.eq_false_iff.2 h3))<|qA<|qj mxd [] [ps 4 (.opt 16 0),ps 5 (iv 3),pb 16 52 [(iv 0),(iv 0),(iv 0)]] (oz) ?_
   rw [qdr h1 h2,at_no (Bool.eq_false_iff.2 h3)]
   exact zy hc0 [4,5] [16]
  refine qQ (congrArg Bool.not (Bool.eq_false_iff.2 h2))<|qA<|qj mxd [] [ps 4 (.opt 16 0),ps 5 (iv 3),pb 16 52 [(iv 0),(iv 0),(iv 0)]] (oz) ?_
  rw [move_no2 h1 (Bool.eq_false_iff.2 h2)]
  exact zy hc0 [4,5] [16]
 refine qQ (congrArg Bool.not (Bool.eq_false_iff.2 h1))<|qA<|qj mxd [] [ps 4 (.opt 16 0),ps 5 (iv 2),pb 16 52 [(iv 0),(iv 0),(iv 0)]] (oz) ?_
 rw [move_no1 (Bool.eq_false_iff.2 h1)]
 exact zy hc0 [4,5] [16]
theorem move_pc (l a o s h:Int) (is:Pi.I64 s) (ih:Pi.I64 h):PC Tryz.prog 134 [(.agg [(iv l),(iv a),(iv o)]),(.agg [(iv s),(iv h)])] [] (M4P (Pi.move l a o s h)) []:=qjl [none] rfl (fun i=>by cases i <;> rfl) (move_pc0 l a o s h is ih)
theorem qjf (l a o s h:Int) (ha:Pi.I64 a):PC Tryz.prog 19 [(.agg [(iv l),(iv a),(iv o)]),(.agg [(iv s),(iv h)])] [] (M4P (Pi.move l a o s h)) [none]:=by
 refine zH Tryz.func19 rfl (by kernel_rfl) (Nat.le_of_ble_eq_true rfl) (by kernel_rfl) (l0:=[ps 0 (.agg [(iv l),(iv a),(iv o)]),ps 1 (.agg [(iv s),(iv h)])]) rfl (fun c0 Bor hc0=>?_)
 refine qA<|qj mxd [] [ps 2 (.opt 0 0),ps 3 (.opt 8 0),ps 4 (.opt 16 0),pb 0 52 [(iv l),(iv a),(iv o)],pb 8 41 [(iv s),(iv h)],pb 16 52 [(iv 0),(iv 0),(iv 0)]] (oz)<|qA<|qA<|ZE mxd 1 [ps 2 (.opt 0 0),ps 3 (.opt 8 0),ps 4 (.opt 16 0),ps 10 (bv (!(rightB l a o))),pb 0 52 [(iv l),(iv a),(iv o)],pb 8 41 [(iv s),(iv h)],pb 16 52 [(iv 0),(iv 0),(iv 0)]] (yC 40 (ZO l a o ha) oz) ?_
 by_cases h1:(rightB l a o)=true
 ·refine qT (congrArg Bool.not h1)<|qE<|qA<|qA<|ZE mxd 1 [ps 2 (.opt 0 0),ps 3 (.opt 8 0),ps 4 (.opt 16 0),ps 14 (bv (!(withinB s h))),pb 0 52 [(iv l),(iv a),(iv o)],pb 8 41 [(iv s),(iv h)],pb 16 52 [(iv 0),(iv 0),(iv 0)]] (yC 64 (VN s h) oz) ?_
  by_cases h2:(withinB s h)=true
  ·refine qT (congrArg Bool.not h2)<|qE<|qA ?_
   have hb:=bounds h1
   have hw:=withinB_iff.1 h2
   refine wQ mxd [(1,.call [] [(.agg [(iv l),(iv a),(iv o)])] [] (iv (Pi.steps l o)) []),(6,.call [] [(.agg [(iv l),(iv a),(iv o)])] [] (iv (Pi.halves l a o)) []),(10,.call [] [(iv ((Pi.steps l o)+s)),(iv ((Pi.halves l a o)+h))] [] (.tup [(.agg [(iv (((Pi.steps l o)+s) % 7)),(iv (((Pi.halves l a o)+h)-white ((Pi.steps l o)+s))),(iv (((Pi.steps l o)+s) / 7))]),(bv (rightB (((Pi.steps l o)+s) % 7) (((Pi.halves l a o)+h)-white ((Pi.steps l o)+s)) (((Pi.steps l o)+s) / 7)))]) [])] (bfm [[],[(0,1)],[],[(2,1)],[(0,4)],[],[(0,2),(5,1)],[],[(7,1)],[(0,2),(5,4)],[(0,10)],[(0,11)],[(0,12)],[(0,12)],[],[(0,13),(14,1)],[(0,16)]]) [([34],[1,4]),([36],[34]),([38],[6]),([40],[17,38]),([42],[36,40]),([44],[1,4]),([46],[44]),([48],[6]),([50],[17,48]),([52],[46,50]),([54],[42,52]),([32],[54]),([56],[32]),([58],[32]),([12,385],[]),([385],[12,56,385]),([14],[58])] [ps 4 (.opt 16 0),ps 6 (.opt 192 0),ps 7 (bv (rightB (((Pi.steps l o)+s) % 7) (((Pi.halves l a o)+h)-white ((Pi.steps l o)+s)) (((Pi.steps l o)+s) / 7))),pb 16 52 [(iv 0),(iv 0),(iv 0)],pb 192 52 [(iv (((Pi.steps l o)+s) % 7)),(iv (((Pi.halves l a o)+h)-white ((Pi.steps l o)+s))),(iv (((Pi.steps l o)+s) / 7))]] (yC 88 (qgq l a o h1) (oi ((Pi.steps l o)+s) (by omega) (yC 128 (qeu l a o h1) (oi ((Pi.halves l a o)+h) (by omega) (yC 160 (ref_pat_pc ((Pi.steps l o)+s) ((Pi.halves l a o)+h) (by omega) (by omega)) oz)))))<|qA<|qA<|qj mxd [] [ps 4 (.opt 16 0),ps 6 (.opt 192 0),ps 31 (bv (!(rightB (((Pi.steps l o)+s) % 7) (((Pi.halves l a o)+h)-white ((Pi.steps l o)+s)) (((Pi.steps l o)+s) / 7)))),pb 16 52 [(iv 0),(iv 0),(iv 0)],pb 192 52 [(iv (((Pi.steps l o)+s) % 7)),(iv (((Pi.halves l a o)+h)-white ((Pi.steps l o)+s))),(iv (((Pi.steps l o)+s) / 7))]] (oz) ?_
   by_cases h3:(rightB (((Pi.steps l o)+s) % 7) (((Pi.halves l a o)+h)-white ((Pi.steps l o)+s)) (((Pi.steps l o)+s) / 7))=true
   ·refine qT (congrArg Bool.not h3)<|qE<|qA<|qj mxd [] [ps 4 (.opt 16 0),ps 5 (iv 0),pb 16 52 [(iv (((Pi.steps l o)+s) % 7)),(iv (((Pi.halves l a o)+h)-white ((Pi.steps l o)+s))),(iv (((Pi.steps l o)+s) / 7))]] (oz) ?_
    rw [qdr h1 h2,at_white,if_pos h3]
    exact zy hc0 [4,5] [16]
   refine qQ (congrArg Bool.not (Bool.eq_false_iff.2 h3))<|qA<|qj mxd [] [ps 4 (.opt 16 0),ps 5 (iv 3),pb 16 52 [(iv 0),(iv 0),(iv 0)]] (oz) ?_
   rw [qdr h1 h2,at_white,if_neg h3]
   exact zy hc0 [4,5] [16]
  refine qQ (congrArg Bool.not (Bool.eq_false_iff.2 h2))<|qA<|qj mxd [] [ps 4 (.opt 16 0),ps 5 (iv 3),pb 16 52 [(iv 0),(iv 0),(iv 0)]] (oz) ?_
  rw [move_no2 h1 (Bool.eq_false_iff.2 h2)]
  exact zy hc0 [4,5] [16]
 refine qQ (congrArg Bool.not (Bool.eq_false_iff.2 h1))<|qA<|qj mxd [] [ps 4 (.opt 16 0),ps 5 (iv 2),pb 16 52 [(iv 0),(iv 0),(iv 0)]] (oz) ?_
 rw [move_no1 (Bool.eq_false_iff.2 h1)]
 exact zy hc0 [4,5] [16]
theorem ref_move_pc (l a o s h:Int) (ha:Pi.I64 a):PC Tryz.prog 19 [(.agg [(iv l),(iv a),(iv o)]),(.agg [(iv s),(iv h)])] [] (M4P (Pi.move l a o s h)) []:=qjl [none] rfl (fun i=>by cases i <;> rfl) (qjf l a o s h ha)
inductive O where
 | ret (r:PV) (H':Hp)
 | pan (v:Value) (H':Hp)
def O.H:O→Hp
 | .ret _ H'=>H'
 | .pan _ H'=>H'
/-! ### an operation that panics -/
/-! ### a region in which one panics -/
section
end

/-! ### such a region reckoned -/
/-! ### in a walk -/
section
end
theorem pc_trimS {P:Program} {f:FuncId} {args rs:List PV} (H':Hp) (hr:jV rs) (_hd:∀ i,H'.getD i none=none) (h:PC P f args [] (.agg rs) H'):PC P f args [] (.agg rs) []:=by
 obtain ⟨h1,_,h2⟩:=h
 refine ⟨h1,Nat.le_refl _,fun c vs hh hrl=>(h2 c vs hh hrl).mono ?_⟩
 rintro e w' ⟨u,c',rfl,rfl,h3,h4⟩
 have hno:∀ (H:Hp),(∀ i,H.getD i none=none)→∀ i,¬ vB (WY H) i:=fun H hH i ⟨T,cs,hx⟩=>by rw [ZA,hH] at hx;cases hx
 have hno0:=hno [] (fun i=>by simp)
 have hown:∀ i x,c.own i=some x→False:=fun i x hx=>by have:i<0:=hh.ids i x hx;omega
 have hk:=h3.keep
 refine ⟨u,⟨c'.w,c'.S,fun _=>none⟩,rfl,rfl,{ ids:=fun i x hx=>(by cases hx),blk:=fun i T cs hx=>absurd ⟨T,cs,hx⟩ (hno0 i),inj:=fun i j b T T' l1=>absurd l1 (hno0 i),apart:=fun i b T l1=>absurd l1 (hno0 i),bnd:=fun i b T hx=>(by cases hx),sok:=h3.sok,os:=h3.os,tape:=h3.tape,output:=h3.output,size:=h3.size,same:=h3.same,laid:=h3.laid,s0:=h3.s0,s1:=h3.s1,keep:=⟨hk.S,fun i x hx=>(hown i x hx).elim,hk.shape⟩ },?_⟩
 obtain ⟨us,rfl,q1,q2⟩:=ZI h4
 have hsr:∀ i,i<rs.length→SRep c'.w c'.S (rs.getD i P0) (us.getD i undef):=fun i hi=>qiu (q2 i hi) (hr _ (by
  rw [List.getD_eq_getElem?_getD,List.getElem?_eq_getElem hi]
  exact List.getElem_mem hi))
 exact .sh (.agg q1 hsr)
open Go.Lib
theorem qei {P:Program} {W:World} {name:String} {k:IntKind} {zs:List Int} {g:Nat} {t e:TypeId} {n:Nat}
  (hg:P.globalNamed name=some g) (hty:(P.globals[g]?).map (·.type)=some t) (ht:P.underlying t=some (.array n e)) (he:P.underlying e=some (.int k)) (hce:P.cellsOf e=1) (hct:P.cellsOf t=n)
  (h:VarReads P W name (tabData k zs)):TabIs P W name k zs:=by
 obtain ⟨g',t',cs,fuel,p,hg',ht',hvar,hd⟩:=h
 obtain rfl:=Option.some.inj (hg.symm.trans hg')
 obtain rfl:=Option.some.inj (hty.symm.trans ht')
 unfold TabIs
 rw [hvar,← cells_of_tab ht he hce hct hd]
theorem Zw {w:World} {b o:Nat} {v:Value} (h:w.cell? ⟨b,o,none⟩=some v):b<w.heap.size:=by
 by_cases hb:b<w.heap.size
 ·exact hb
 ·unfold World.cell? at h
  rw [Array.getElem?_eq_none (show w.heap.size≤b from by omega)] at h
  cases h
theorem laid_of {W:World} (hL:laidMet Tryz.prog Rows.scoreNotesRow.laid W):Laid W (fun b=>b<W.heap.size):=by
 have hT : TabIs Tryz.prog W "internal/strconv.uint64pow10" .u64 pow10Tab :=
  qei (g:=0) (t:=197) (e:=178) (n:=20) (by kernel_rfl) (by kernel_rfl) Tryz.underlying197 Tryz.underlying178 (by kernel_rfl) (by kernel_rfl)
   ((show Rows.laid_internal_strconv_uint64pow10=tabData .u64 pow10Tab from by kernel_rfl)▸laidMet.reads hL (.tail _ (.tail _ (.head _))))
 have hU:Utf8Tabs 1 2 W :=
  utf8Tabs_of_readsT (ρ:=Tryz.lays197_ren) { Tryz.lays197 with } ⟨by kernel_rfl,by kernel_rfl,by kernel_rfl,by kernel_rfl,by kernel_rfl,by kernel_rfl,by kernel_rfl⟩
   ((show Rows.laid_unicode_utf8_first=firstData from Pinned.utf8First_eq)▸laidMet.reads hL (.tail _ (.tail _ (.tail _ (.tail _ (.head _)))))) ((show Rows.laid_unicode_utf8_acceptRanges=acceptData from by kernel_rfl)▸laidMet.reads hL (.tail _ (.tail _ (.tail _ (.head _)))))
 have z1:=Zw (hU.1 0 (by decide))
 have z2:=Zw (hU.2 0 (by decide)).1
 have z3:=Zw (hT.cell (g:=0) (by kernel_rfl) 0 (by decide))
 refine ⟨fun b hb=>?_,hT,hU⟩
 simp only [LB,List.mem_cons,List.not_mem_nil,or_false] at hb
 rcases hb with rfl|rfl|rfl
 ·exact z1
 ·exact z2
 ·exact z3
end Go.Proofs.YtmlnilkbolcknaaGreatDoor.Pm
namespace Go.Proofs.YtmlnilkbolcknaaGreatDoor
open Go.ChangeShapes Go.WideShapes Go.ChangeAt Go.RowKit
theorem Tryz.own:ownKnob Tryz.prog.godebug=none:=by kernel_rfl
theorem Tryz.laidOut:laidOutB Tryz.prog=true:=by kernel_rfl

section
variable {H:Type} {enc:TypeId × Value→H} {P:Program}
theorem Wj (hl:laidOutB P=true) {W W':World} {sp:Nat→Bool} (hb:Below W.heap.size W W') :
  ∀ {ts:List TypeId} {vs:List Value} {ds:List (DataW H)} {ps:List MemPlace},(ts.all fun t=>P.readableRec t && decide (t<P.types.size))=true →
   DataW.TrodAll enc P W 0 (fun _=>true) true ts vs ds ps→(∀ x∈ps,x.block<W.heap.size)→(∀ x∈ps,sp x.block=true)→DataW.TrodAll enc P W' 0 sp true ts vs ds ps
 | [],_,_,_,_,h,_,_=>by obtain ⟨rfl,rfl,rfl⟩:=trodAll_nil h;exact trodAll_mk0
 | t :: ts,_,_,_,hr,h,hlt,hsp=>by
  obtain ⟨v,vs,d,ds,p,q,rfl,rfl,rfl,h0,h1⟩:=trodAll_cons h
  simp only [List.all_cons,Bool.and_eq_true,decide_eq_true_eq] at hr
  exact trodAll_cons_mk (WideElems.Trod_stays hl hr.1.1 hr.1.2 h0 (fun x hx=>hb.same (hlt x (by simp [hx]))) (fun x hx=>hsp x (by simp [hx])))
   (Wj hl hb hr.2 h1 (fun x hx=>hlt x (by simp [hx])) (fun x hx=>hsp x (by simp [hx])))

theorem law_post {f:Func} {s:ChangeSpec} {apart fresh handsOn again:Bool} {W W':World} {args:Array Value} {ds:List (DataW H)} {before:List MemPlace} {tb:TypeId}
  (hW:DataW.Whole enc P f.params.toList s.vars apart W args.toList ds [] before) (hl:laidOutB P=true)
  (hv:s.vars=[]) (hr:(f.params.toList.all fun t=>P.readableRec t && decide (t<P.types.size))=true) (hrt:f.resultTypes = #[tb]) (htb:P.underlying tb=some .bool)
  (hs:s.fn H (ds++[])={ results:=[.lit (.bool true)],args:=ds }) (hb:Below W.heap.size W W') :
  s.post enc P f apart fresh handsOn again W args (.bool true) W':=by
 have hlt:∀ p∈before,p.block<W.heap.size:=fun p hp=>hW.lt p hp
 have hold:∀ p∈before,(fun b=>decide (b<W.heap.size)) p.block=true:=fun p hp=>by simpa using hlt p hp
 have hW0:=hW
 obtain ⟨p,q,hA,hV,hpq,hz,hn⟩:=hW
 have hq:q=[]:=by rw [hv] at hV;exact (trodVars_none hV).2
 have hpq':before=p:=by rw [hpq,hq,List.append_nil]
 subst hpq'
 have hargs:∀ sp:Nat→Bool,(∀ x∈before,sp x.block=true)→DataW.TrodAll enc P W' 0 sp true f.params.toList args.toList (s.fn H (ds++[])).args before:=fun sp hsp=>by
  rw [hs];exact Wj hl hb hr hA hlt hsp
 have hvars:∀ sp:Nat→Bool,DataW.TrodVars enc P W' sp s.vars (s.fn H (ds++[])).vars []:=fun sp=>by rw [hs,hv];rfl
 have hres:∀ (b:Nat) (sp:Nat→Bool) (hd:Bool),DataW.TrodAll enc P W' b sp hd f.resultTypes.toList (Value.resultList f.resultTypes.size (.bool true)) (s.fn H (ds++[])).results []:=fun b sp hd=>by
  rw [hrt,hs];exact trodAll_mk1 (shut_bool htb true)
 have hok:∀ (j:Nat) (t:TypeId) (r:Value),f.resultTypes[j]? = some t→(Value.resultList f.resultTypes.size (.bool true))[j]? = some r→Value.okWide P W' .any 0 t r:=by
  exact ok_one (t:=tb) hrt rfl (okWide_bool_mk htb true)
 refine ⟨ds,[],before,[],before,[],hW0,hres _ _ _,hargs _ hold,hvars _,World.keptBut_mono (fun p hp=>⟨hp,?_⟩) (hb.frame (· ∈ before)),fun _=>?_⟩
 ·exact Or.inr (Or.inl hp)
 ·refine ⟨hok,_,_,([]++before)++[],⟨[]++before,[],trodAll_append (hargs _ (fun _ _=>rfl)) (hres _ _ _),hvars _,rfl,?_,?_⟩,?_⟩
  ·intro b off hp
   have hin:MemPlace.cell b off∈before:=by simpa using hp
   rw [hb.frozen (hlt _ hin)]
   exact hz b off hin
  ·intro ha
   have:=hn ha
   simpa using this
  ·intro p hp _
   simpa using hp
end
end Go.Proofs.YtmlnilkbolcknaaGreatDoor
namespace Go.Proofs.YtmlnilkbolcknaaGreatDoor.Pm
open Go Go.Deep Go.ChangeShapes Go.WideShapes Go.ChangeAt Go.RowKit
theorem cells_from {w:World} {a:Addr} {n:Nat} {f:Nat→Value} (h:∀ c,c<n→w.cell? (a.add c)=some (f c)) (hn:0<n):∃ b o,a=⟨b,o,none⟩∧b<w.heap.size∧∀ c,c<n→w.cell? ⟨b,o+c,none⟩=some (f c):=by
 obtain ⟨b,o,s⟩:=a
 have h0:=h 0 hn
 have hs:s=none:=by
  simp only [Addr.add,if_true,World.cell?] at h0
  cases s with
  | none=>rfl
  | some s =>
   exfalso
   split at h0
   ·simp at h0
   ·cases h0
 subst hs
 refine ⟨b,o,rfl,?_,fun c hc=>?_⟩
 ·simp only [Addr.add,if_true,World.cell?] at h0
  rcases Nat.lt_or_ge b w.heap.size with hb|hb
  ·exact hb
  ·rw [Array.getElem?_eq_none hb] at h0;cases h0
 ·rw [← h c hc]
  unfold Addr.add
  by_cases e:c=0
  ·subst e;rfl
  ·rw [if_neg e]
theorem YU {H:Type} {P:Program} {e:TypeId}:∀ {l:List (DataW H)} {d:DataW H},d∈l→∀ n∈d.weights P e,n∈DataW.weightsAll P e l
 | d' :: r,d,hd,n,hn=>by
  simp only [DataW.weightsAll,List.mem_append]
  rcases List.mem_cons.1 hd with rfl|h
  ·exact Or.inl hn
  ·exact Or.inr (YU h n hn)
open Go.Proofs.YtmlnilkbolcknaaGreatDoor.Pi
end Go.Proofs.YtmlnilkbolcknaaGreatDoor.Pm
namespace Go.Proofs.YtmlnilkbolcknaaGreatDoor.Pm
open Go Go.Proofs.YtmlnilkbolcknaaGreatDoor.Pi
theorem qone_pc (t:qP) (h:t.length≤9223372036854775807):PC Tryz.prog 143 [sv (st t)] [] (bv (Yw (st t))) [] :=
 vC (wF Tryz.func143 (by kernel_rfl) (by kernel_rfl)) rfl rfl fun w=>one_walk (st t) h w
end Go.Proofs.YtmlnilkbolcknaaGreatDoor.Pm
set_option maxRecDepth 100000
set_option maxHeartbeats 4000000
namespace Go.Proofs.YtmlnilkbolcknaaGreatDoor.Pm
open Go Go.Proofs.YtmlnilkbolcknaaGreatDoor.Pi
theorem white_pc (n:Int) (h0 : -1000≤n) (h1:n≤1000):PC Tryz.prog 81 [iv n] [] (iv (white n)) [] :=
 vC (wF Tryz.func81 (by kernel_rfl) (by kernel_rfl)) rfl rfl fun w=>(qce n w h0 h1).mono fun _ w' ⟨e1,e2⟩=>⟨e1,e2▸RowKit.Below.refl _ _⟩
theorem qdm (n:Int) (h0 : -9223372036854775807≤n) (h1:n≤9223372036854775807) (ih:∀ m:Int,0≤m→m≤9223372036854775807→(n<0∨m<n)→PC Tryz.prog 33 [iv m] [] (sv (st (Lib.itoa m))) []):PC Tryz.prog 33 [(iv n)] [] (sv (st (Lib.itoa n))) []:=by
 refine zH Tryz.func33 rfl (by kernel_rfl) (Nat.le_of_ble_eq_true rfl) (by kernel_rfl) (l0:=[ps 0 (iv n)]) rfl (fun c0 Bor hc0=>?_)
 refine qA<|qK mxd [.r] []<|qA<|qA<|qK mxd [.k1,.n] [ps 4 (bv (decide (n<0)))] ?_
 by_cases h1:n<0
 ·refine qQ (zO h1)<|qA ?_
  have hl1:=Lib.itoa_length_le (0-n) (by omega) (by omega)
  refine qj mxd [(2,.call [] [(iv (0-n))] [] (sv (st (Lib.itoa (0-n)))) []),(3,.val (.av (.string (st (([45]:TX)++(Lib.itoa (0-n)))))))] [ps 2 (sv (st (([45]:TX)++(Lib.itoa (0-n)))))] (oi (0-n) (by omega) (yC 40 (ih (0-n) (by omega) (by omega) (.inl (by omega))) (oc (by first|omega|(simp only [List.length_append,List.length_cons,List.length_nil];omega):((([45]:TX).length+(Lib.itoa (0-n)).length:Nat):Int)≤9223372036854775807) (oc (qJ _ _:st ([45]:TX)++st (Lib.itoa (0-n))=st (([45]:TX)++(Lib.itoa (0-n)))) oz)))) ?_
  rw [← itoa_min h1]
  exact zy hc0 [2] []
 refine qT (zM h1)<|qE<|qA<|qA<|qj mxd [] [ps 0 (iv n),ps 10 (bv (decide (n<10)))] (oz) ?_
 by_cases h2:n<10
 ·refine qQ (zO h2)<|qA<|qj mxd [(4,.val (.av (.string (st [UInt8.ofNat (48+n).toNat]))))] [ps 2 (sv (st [UInt8.ofNat (48+n).toNat]))] (oi (48+n) (by omega) (oc (by simp only [InK];omega:InK .u8 (48+n)) (oc (⟨Nat.le_refl 1,Nat.le_refl 1,bytes_one (by omega) (by omega)⟩:0<1∧0+1≤([(.av (.int .u8 (48+n)))]:List PV).length∧(([(.av (.int .u8 (48+n)))]:List PV).drop 0).take 1=ZM (st [UInt8.ofNat (48+n).toNat])) oz))) ?_
  rw [itoa_dig (by omega) h2]
  exact zy hc0 [2] []
 refine qT (zM h2)<|qE<|qA ?_
 have hq:=quo_bd h2
 have hl1:=Lib.itoa_length_le (n.tdiv 10) (by omega) (by omega)
 have hl2:=Lib.itoa_length_le (n.tmod 10) (by omega) (by omega)
 refine qj mxd [(2,.call [] [(iv ((n).tdiv 10))] [] (sv (st (Lib.itoa ((n).tdiv 10)))) []),(5,.call [] [(iv ((n).tmod 10))] [] (sv (st (Lib.itoa ((n).tmod 10)))) []),(6,.val (.av (.string (st ((Lib.itoa ((n).tdiv 10))++(Lib.itoa ((n).tmod 10)))))))] [ps 2 (sv (st ((Lib.itoa ((n).tdiv 10))++(Lib.itoa ((n).tmod 10)))))] (oc (by decide:10≠(0:Int)) (oi ((n).tdiv 10) (by omega) (yC 56 (ih ((n).tdiv 10) (by omega) (by omega) (.inr (by omega))) (oc (by decide:10≠(0:Int)) (yC 80 (ih ((n).tmod 10) (by omega) (by omega) (.inr (by omega))) (oc (by first|omega|(simp <;> omega):(((Lib.itoa ((n).tdiv 10)).length+(Lib.itoa ((n).tmod 10)).length:Nat):Int)≤9223372036854775807) (oc (qJ _ _:st (Lib.itoa ((n).tdiv 10))++st (Lib.itoa ((n).tmod 10))=st ((Lib.itoa ((n).tdiv 10))++(Lib.itoa ((n).tmod 10)))) oz))))))) ?_
 rw [← itoa_app h2]
 exact zy hc0 [2] []
theorem qga:∀ (u:Nat),∀ n:Int,0≤n→n≤9223372036854775807→n.toNat<u→PC Tryz.prog 33 [iv n] [] (sv (st (Lib.itoa n))) []
 | 0,n,_,_,h=>by omega
 | u+1,n,h0,h1,h=>qdm n (by omega) h1 fun m a b c=>qga u m a b (by omega)
theorem vU (n:Int) (h0 : -9223372036854775807≤n) (h1:n≤9223372036854775807):PC Tryz.prog 33 [iv n] [] (sv (st (Lib.itoa n))) [] :=
 qdm n h0 h1 fun m a b _=>qga (m.toNat+1) m a b (by omega)
theorem jk (k:Nat) (hk:k<7):PC Tryz.prog 96 [(nv k)] [] (sv (st ((letB.drop k).take 1))) []:=by
 refine zH Tryz.func96 rfl (by kernel_rfl) (Nat.le_of_ble_eq_true rfl) (by kernel_rfl) (l0:=[ps 0 (nv k)]) rfl (fun c0 Bor hc0=>?_)
 refine qA<|qK mxd [.r] []<|qA ?_
 by_cases h1:k=0
 ·refine qj mxd [(2,.nat 0)] [ps 2 (sv (st ([67]:TX)))] (oc (by omega:(0:Int)≤(k:Int)∧(k:Int)<((7:Nat):Int)) (oc (by omega:0+(((k:Nat):Int):Int).toNat*1=0) oz)) ?_
  rw [show (letB.drop k).take 1=_ from congrArg (fun z=>(letB.drop z).take 1) h1]
  exact zy hc0 [2] []
 by_cases h2:k=1
 ·refine qj mxd [(2,.nat 1)] [ps 2 (sv (st ([68]:TX)))] (oc (by omega:(0:Int)≤(k:Int)∧(k:Int)<((7:Nat):Int)) (oc (by omega:0+(((k:Nat):Int):Int).toNat*1=1) oz)) ?_
  rw [show (letB.drop k).take 1=_ from congrArg (fun z=>(letB.drop z).take 1) h2]
  exact zy hc0 [2] []
 by_cases h3:k=2
 ·refine qj mxd [(2,.nat 2)] [ps 2 (sv (st ([69]:TX)))] (oc (by omega:(0:Int)≤(k:Int)∧(k:Int)<((7:Nat):Int)) (oc (by omega:0+(((k:Nat):Int):Int).toNat*1=2) oz)) ?_
  rw [show (letB.drop k).take 1=_ from congrArg (fun z=>(letB.drop z).take 1) h3]
  exact zy hc0 [2] []
 by_cases h4:k=3
 ·refine qj mxd [(2,.nat 3)] [ps 2 (sv (st ([70]:TX)))] (oc (by omega:(0:Int)≤(k:Int)∧(k:Int)<((7:Nat):Int)) (oc (by omega:0+(((k:Nat):Int):Int).toNat*1=3) oz)) ?_
  rw [show (letB.drop k).take 1=_ from congrArg (fun z=>(letB.drop z).take 1) h4]
  exact zy hc0 [2] []
 by_cases h5:k=4
 ·refine qj mxd [(2,.nat 4)] [ps 2 (sv (st ([71]:TX)))] (oc (by omega:(0:Int)≤(k:Int)∧(k:Int)<((7:Nat):Int)) (oc (by omega:0+(((k:Nat):Int):Int).toNat*1=4) oz)) ?_
  rw [show (letB.drop k).take 1=_ from congrArg (fun z=>(letB.drop z).take 1) h5]
  exact zy hc0 [2] []
 by_cases h6:k=5
 ·refine qj mxd [(2,.nat 5)] [ps 2 (sv (st ([65]:TX)))] (oc (by omega:(0:Int)≤(k:Int)∧(k:Int)<((7:Nat):Int)) (oc (by omega:0+(((k:Nat):Int):Int).toNat*1=5) oz)) ?_
  rw [show (letB.drop k).take 1=_ from congrArg (fun z=>(letB.drop z).take 1) h6]
  exact zy hc0 [2] []
 by_cases h7:k=6
 ·refine qj mxd [(2,.nat 6)] [ps 2 (sv (st ([66]:TX)))] (oc (by omega:(0:Int)≤(k:Int)∧(k:Int)<((7:Nat):Int)) (oc (by omega:0+(((k:Nat):Int):Int).toNat*1=6) oz)) ?_
  rw [show (letB.drop k).take 1=_ from congrArg (fun z=>(letB.drop z).take 1) h7]
  exact zy hc0 [2] []
 ·exfalso;omega
theorem qjb (l a o:Int) (ia:Pi.I64 a):PC Tryz.prog 63 [(.agg [(iv l),(iv a),(iv o)])] [] (.tup [(sv (st ((vk l a o).1))),(iv ((vk l a o).2))]) []:=by
 unfold Pi.I64 at ia
 refine zH Tryz.func63 rfl (by kernel_rfl) (Nat.le_of_ble_eq_true rfl) (by kernel_rfl) (l0:=[ps 0 (.agg [(iv l),(iv a),(iv o)])]) rfl (fun c0 Bor hc0=>?_)
 refine qA<|qj mxd [] [ps 1 (.opt 0 0),pb 0 52 [(iv l),(iv a),(iv o)]] (oz)<|qA<|qA<|vJ mxd 1 [.k1,.n,.r] [ps 6 (bv (!(Pi.rightB l a o)))] (yC 32 (ZO l a o (by unfold Pi.I64;omega)) oz) ?_
 by_cases h1:(Pi.rightB l a o)=true
 ·refine qT (congrArg Bool.not h1)<|qE<|qA ?_
  have hr:=Pi.rightB_iff.1 h1
  have hl1:=qap l
  have hl2:=jD (o:=o) (by omega) (by omega)
  by_cases h2:a+3=0
  ·refine wQ mxd [(2,.call [] [(nv l.toNat)] [] (sv (st ((letB.drop l.toNat).take 1))) []),(7,.nat 0),(9,.val (.av (.string (st (((letB.drop l.toNat).take 1)++([240,157,132,171,226,153,173]:TX)))))),(12,.call [] [(iv o)] [] (sv (st (Lib.itoa o))) []),(13,.val (.av (.string (st ((((letB.drop l.toNat).take 1)++([240,157,132,171,226,153,173]:TX))++(Lib.itoa o))))))] (bfm [[],[(0,1)],[(0,2)],[],[],[(4,1)],[(4,2)],[(3,4)],[(3,5)],[(0,9)],[],[(10,1)],[(0,3),(10,2)],[(0,13)],[(0,14)],[(0,15)]]) [([14],[2]),([16],[1,14]),([18],[16]),([20,145],[]),([22],[2]),([24],[1,22]),([26],[24]),([28],[20,26]),([30],[28,145]),([32],[18,30]),([34],[2]),([36],[1,34]),([38],[36]),([40],[32,38]),([4],[40]),([6],[])] [ps 2 (sv (st ((((letB.drop l.toNat).take 1)++([240,157,132,171,226,153,173]:TX))++(Lib.itoa o)))),ps 3 (iv 0)] (oc (jk l.toNat (by omega)) (oc (congrArg (fun z=>[iv z]) (show l=(l.toNat:Int) from by omega):[(iv l)]=qM (qY [] 64) [(nv l.toNat)]) (oi (a+3) (by omega) (oc (by omega:(0:Int)≤(a+3)∧(a+3)<((7:Nat):Int)) (oc (by omega:0+((a+3):Int).toNat*1=0) (oc (by first|omega|(simp <;> omega):((((letB.drop l.toNat).take 1).length+([240,157,132,171,226,153,173]:TX).length:Nat):Int)≤9223372036854775807) (oc (qJ _ _:st ((letB.drop l.toNat).take 1)++st ([240,157,132,171,226,153,173]:TX)=st (((letB.drop l.toNat).take 1)++([240,157,132,171,226,153,173]:TX))) (yC 144 (vU o (by omega) (by omega)) (oc (by first|omega|(simp <;> omega):(((((letB.drop l.toNat).take 1)++([240,157,132,171,226,153,173]:TX)).length+(Lib.itoa o).length:Nat):Int)≤9223372036854775807) (oc (qJ _ _:st (((letB.drop l.toNat).take 1)++([240,157,132,171,226,153,173]:TX))++st (Lib.itoa o)=st ((((letB.drop l.toNat).take 1)++([240,157,132,171,226,153,173]:TX))++(Lib.itoa o))) oz)))))))))) ?_
   rw [vL (l:=l) (a:=a) (o:=o) (S:=[240,157,132,171,226,153,173]) h1 (by rw [show a = -3 from by omega];rfl)]
   exact zy hc0 [2,3] []
  by_cases h3:a+3=1
  ·refine wQ mxd [(2,.call [] [(nv l.toNat)] [] (sv (st ((letB.drop l.toNat).take 1))) []),(7,.nat 1),(9,.val (.av (.string (st (((letB.drop l.toNat).take 1)++([240,157,132,171]:TX)))))),(12,.call [] [(iv o)] [] (sv (st (Lib.itoa o))) []),(13,.val (.av (.string (st ((((letB.drop l.toNat).take 1)++([240,157,132,171]:TX))++(Lib.itoa o))))))] (bfm [[],[(0,1)],[(0,2)],[],[],[(4,1)],[(4,2)],[(3,4)],[(3,5)],[(0,9)],[],[(10,1)],[(0,3),(10,2)],[(0,13)],[(0,14)],[(0,15)]]) [([14],[2]),([16],[1,14]),([18],[16]),([20,145],[]),([22],[2]),([24],[1,22]),([26],[24]),([28],[20,26]),([30],[28,145]),([32],[18,30]),([34],[2]),([36],[1,34]),([38],[36]),([40],[32,38]),([4],[40]),([6],[])] [ps 2 (sv (st ((((letB.drop l.toNat).take 1)++([240,157,132,171]:TX))++(Lib.itoa o)))),ps 3 (iv 0)] (oc (jk l.toNat (by omega)) (oc (congrArg (fun z=>[iv z]) (show l=(l.toNat:Int) from by omega):[(iv l)]=qM (qY [] 64) [(nv l.toNat)]) (oi (a+3) (by omega) (oc (by omega:(0:Int)≤(a+3)∧(a+3)<((7:Nat):Int)) (oc (by omega:0+((a+3):Int).toNat*1=1) (oc (by first|omega|(simp <;> omega):((((letB.drop l.toNat).take 1).length+([240,157,132,171]:TX).length:Nat):Int)≤9223372036854775807) (oc (qJ _ _:st ((letB.drop l.toNat).take 1)++st ([240,157,132,171]:TX)=st (((letB.drop l.toNat).take 1)++([240,157,132,171]:TX))) (yC 144 (vU o (by omega) (by omega)) (oc (by first|omega|(simp <;> omega):(((((letB.drop l.toNat).take 1)++([240,157,132,171]:TX)).length+(Lib.itoa o).length:Nat):Int)≤9223372036854775807) (oc (qJ _ _:st (((letB.drop l.toNat).take 1)++([240,157,132,171]:TX))++st (Lib.itoa o)=st ((((letB.drop l.toNat).take 1)++([240,157,132,171]:TX))++(Lib.itoa o))) oz)))))))))) ?_
   rw [vL (l:=l) (a:=a) (o:=o) (S:=[240,157,132,171]) h1 (by rw [show a = -2 from by omega];rfl)]
   exact zy hc0 [2,3] []
  by_cases h4:a+3=2
  ·refine wQ mxd [(2,.call [] [(nv l.toNat)] [] (sv (st ((letB.drop l.toNat).take 1))) []),(7,.nat 2),(9,.val (.av (.string (st (((letB.drop l.toNat).take 1)++([226,153,173]:TX)))))),(12,.call [] [(iv o)] [] (sv (st (Lib.itoa o))) []),(13,.val (.av (.string (st ((((letB.drop l.toNat).take 1)++([226,153,173]:TX))++(Lib.itoa o))))))] (bfm [[],[(0,1)],[(0,2)],[],[],[(4,1)],[(4,2)],[(3,4)],[(3,5)],[(0,9)],[],[(10,1)],[(0,3),(10,2)],[(0,13)],[(0,14)],[(0,15)]]) [([14],[2]),([16],[1,14]),([18],[16]),([20,145],[]),([22],[2]),([24],[1,22]),([26],[24]),([28],[20,26]),([30],[28,145]),([32],[18,30]),([34],[2]),([36],[1,34]),([38],[36]),([40],[32,38]),([4],[40]),([6],[])] [ps 2 (sv (st ((((letB.drop l.toNat).take 1)++([226,153,173]:TX))++(Lib.itoa o)))),ps 3 (iv 0)] (oc (jk l.toNat (by omega)) (oc (congrArg (fun z=>[iv z]) (show l=(l.toNat:Int) from by omega):[(iv l)]=qM (qY [] 64) [(nv l.toNat)]) (oi (a+3) (by omega) (oc (by omega:(0:Int)≤(a+3)∧(a+3)<((7:Nat):Int)) (oc (by omega:0+((a+3):Int).toNat*1=2) (oc (by first|omega|(simp <;> omega):((((letB.drop l.toNat).take 1).length+([226,153,173]:TX).length:Nat):Int)≤9223372036854775807) (oc (qJ _ _:st ((letB.drop l.toNat).take 1)++st ([226,153,173]:TX)=st (((letB.drop l.toNat).take 1)++([226,153,173]:TX))) (yC 144 (vU o (by omega) (by omega)) (oc (by first|omega|(simp <;> omega):(((((letB.drop l.toNat).take 1)++([226,153,173]:TX)).length+(Lib.itoa o).length:Nat):Int)≤9223372036854775807) (oc (qJ _ _:st (((letB.drop l.toNat).take 1)++([226,153,173]:TX))++st (Lib.itoa o)=st ((((letB.drop l.toNat).take 1)++([226,153,173]:TX))++(Lib.itoa o))) oz)))))))))) ?_
   rw [vL (l:=l) (a:=a) (o:=o) (S:=[226,153,173]) h1 (by rw [show a = -1 from by omega];rfl)]
   exact zy hc0 [2,3] []
  by_cases h5:a+3=3
  ·refine wQ mxd [(2,.call [] [(nv l.toNat)] [] (sv (st ((letB.drop l.toNat).take 1))) []),(7,.nat 3),(9,.val (.av (.string (st (((letB.drop l.toNat).take 1)++([]:TX)))))),(12,.call [] [(iv o)] [] (sv (st (Lib.itoa o))) []),(13,.val (.av (.string (st ((((letB.drop l.toNat).take 1)++([]:TX))++(Lib.itoa o))))))] (bfm [[],[(0,1)],[(0,2)],[],[],[(4,1)],[(4,2)],[(3,4)],[(3,5)],[(0,9)],[],[(10,1)],[(0,3),(10,2)],[(0,13)],[(0,14)],[(0,15)]]) [([14],[2]),([16],[1,14]),([18],[16]),([20,145],[]),([22],[2]),([24],[1,22]),([26],[24]),([28],[20,26]),([30],[28,145]),([32],[18,30]),([34],[2]),([36],[1,34]),([38],[36]),([40],[32,38]),([4],[40]),([6],[])] [ps 2 (sv (st ((((letB.drop l.toNat).take 1)++([]:TX))++(Lib.itoa o)))),ps 3 (iv 0)] (oc (jk l.toNat (by omega)) (oc (congrArg (fun z=>[iv z]) (show l=(l.toNat:Int) from by omega):[(iv l)]=qM (qY [] 64) [(nv l.toNat)]) (oi (a+3) (by omega) (oc (by omega:(0:Int)≤(a+3)∧(a+3)<((7:Nat):Int)) (oc (by omega:0+((a+3):Int).toNat*1=3) (oc (by first|omega|(simp <;> omega):((((letB.drop l.toNat).take 1).length+([]:TX).length:Nat):Int)≤9223372036854775807) (oc (qJ _ _:st ((letB.drop l.toNat).take 1)++st ([]:TX)=st (((letB.drop l.toNat).take 1)++([]:TX))) (yC 144 (vU o (by omega) (by omega)) (oc (by first|omega|(simp <;> omega):(((((letB.drop l.toNat).take 1)++([]:TX)).length+(Lib.itoa o).length:Nat):Int)≤9223372036854775807) (oc (qJ _ _:st (((letB.drop l.toNat).take 1)++([]:TX))++st (Lib.itoa o)=st ((((letB.drop l.toNat).take 1)++([]:TX))++(Lib.itoa o))) oz)))))))))) ?_
   rw [vL (l:=l) (a:=a) (o:=o) (S:=[]) h1 (by rw [show a=0 from by omega];rfl)]
   exact zy hc0 [2,3] []
  by_cases h6:a+3=4
  ·refine wQ mxd [(2,.call [] [(nv l.toNat)] [] (sv (st ((letB.drop l.toNat).take 1))) []),(7,.nat 4),(9,.val (.av (.string (st (((letB.drop l.toNat).take 1)++([226,153,175]:TX)))))),(12,.call [] [(iv o)] [] (sv (st (Lib.itoa o))) []),(13,.val (.av (.string (st ((((letB.drop l.toNat).take 1)++([226,153,175]:TX))++(Lib.itoa o))))))] (bfm [[],[(0,1)],[(0,2)],[],[],[(4,1)],[(4,2)],[(3,4)],[(3,5)],[(0,9)],[],[(10,1)],[(0,3),(10,2)],[(0,13)],[(0,14)],[(0,15)]]) [([14],[2]),([16],[1,14]),([18],[16]),([20,145],[]),([22],[2]),([24],[1,22]),([26],[24]),([28],[20,26]),([30],[28,145]),([32],[18,30]),([34],[2]),([36],[1,34]),([38],[36]),([40],[32,38]),([4],[40]),([6],[])] [ps 2 (sv (st ((((letB.drop l.toNat).take 1)++([226,153,175]:TX))++(Lib.itoa o)))),ps 3 (iv 0)] (oc (jk l.toNat (by omega)) (oc (congrArg (fun z=>[iv z]) (show l=(l.toNat:Int) from by omega):[(iv l)]=qM (qY [] 64) [(nv l.toNat)]) (oi (a+3) (by omega) (oc (by omega:(0:Int)≤(a+3)∧(a+3)<((7:Nat):Int)) (oc (by omega:0+((a+3):Int).toNat*1=4) (oc (by first|omega|(simp <;> omega):((((letB.drop l.toNat).take 1).length+([226,153,175]:TX).length:Nat):Int)≤9223372036854775807) (oc (qJ _ _:st ((letB.drop l.toNat).take 1)++st ([226,153,175]:TX)=st (((letB.drop l.toNat).take 1)++([226,153,175]:TX))) (yC 144 (vU o (by omega) (by omega)) (oc (by first|omega|(simp <;> omega):(((((letB.drop l.toNat).take 1)++([226,153,175]:TX)).length+(Lib.itoa o).length:Nat):Int)≤9223372036854775807) (oc (qJ _ _:st (((letB.drop l.toNat).take 1)++([226,153,175]:TX))++st (Lib.itoa o)=st ((((letB.drop l.toNat).take 1)++([226,153,175]:TX))++(Lib.itoa o))) oz)))))))))) ?_
   rw [vL (l:=l) (a:=a) (o:=o) (S:=[226,153,175]) h1 (by rw [show a=1 from by omega];rfl)]
   exact zy hc0 [2,3] []
  by_cases h7:a+3=5
  ·refine wQ mxd [(2,.call [] [(nv l.toNat)] [] (sv (st ((letB.drop l.toNat).take 1))) []),(7,.nat 5),(9,.val (.av (.string (st (((letB.drop l.toNat).take 1)++([240,157,132,170]:TX)))))),(12,.call [] [(iv o)] [] (sv (st (Lib.itoa o))) []),(13,.val (.av (.string (st ((((letB.drop l.toNat).take 1)++([240,157,132,170]:TX))++(Lib.itoa o))))))] (bfm [[],[(0,1)],[(0,2)],[],[],[(4,1)],[(4,2)],[(3,4)],[(3,5)],[(0,9)],[],[(10,1)],[(0,3),(10,2)],[(0,13)],[(0,14)],[(0,15)]]) [([14],[2]),([16],[1,14]),([18],[16]),([20,145],[]),([22],[2]),([24],[1,22]),([26],[24]),([28],[20,26]),([30],[28,145]),([32],[18,30]),([34],[2]),([36],[1,34]),([38],[36]),([40],[32,38]),([4],[40]),([6],[])] [ps 2 (sv (st ((((letB.drop l.toNat).take 1)++([240,157,132,170]:TX))++(Lib.itoa o)))),ps 3 (iv 0)] (oc (jk l.toNat (by omega)) (oc (congrArg (fun z=>[iv z]) (show l=(l.toNat:Int) from by omega):[(iv l)]=qM (qY [] 64) [(nv l.toNat)]) (oi (a+3) (by omega) (oc (by omega:(0:Int)≤(a+3)∧(a+3)<((7:Nat):Int)) (oc (by omega:0+((a+3):Int).toNat*1=5) (oc (by first|omega|(simp <;> omega):((((letB.drop l.toNat).take 1).length+([240,157,132,170]:TX).length:Nat):Int)≤9223372036854775807) (oc (qJ _ _:st ((letB.drop l.toNat).take 1)++st ([240,157,132,170]:TX)=st (((letB.drop l.toNat).take 1)++([240,157,132,170]:TX))) (yC 144 (vU o (by omega) (by omega)) (oc (by first|omega|(simp <;> omega):(((((letB.drop l.toNat).take 1)++([240,157,132,170]:TX)).length+(Lib.itoa o).length:Nat):Int)≤9223372036854775807) (oc (qJ _ _:st (((letB.drop l.toNat).take 1)++([240,157,132,170]:TX))++st (Lib.itoa o)=st ((((letB.drop l.toNat).take 1)++([240,157,132,170]:TX))++(Lib.itoa o))) oz)))))))))) ?_
   rw [vL (l:=l) (a:=a) (o:=o) (S:=[240,157,132,170]) h1 (by rw [show a=2 from by omega];rfl)]
   exact zy hc0 [2,3] []
  by_cases h8:a+3=6
  ·refine wQ mxd [(2,.call [] [(nv l.toNat)] [] (sv (st ((letB.drop l.toNat).take 1))) []),(7,.nat 6),(9,.val (.av (.string (st (((letB.drop l.toNat).take 1)++([240,157,132,170,226,153,175]:TX)))))),(12,.call [] [(iv o)] [] (sv (st (Lib.itoa o))) []),(13,.val (.av (.string (st ((((letB.drop l.toNat).take 1)++([240,157,132,170,226,153,175]:TX))++(Lib.itoa o))))))] (bfm [[],[(0,1)],[(0,2)],[],[],[(4,1)],[(4,2)],[(3,4)],[(3,5)],[(0,9)],[],[(10,1)],[(0,3),(10,2)],[(0,13)],[(0,14)],[(0,15)]]) [([14],[2]),([16],[1,14]),([18],[16]),([20,145],[]),([22],[2]),([24],[1,22]),([26],[24]),([28],[20,26]),([30],[28,145]),([32],[18,30]),([34],[2]),([36],[1,34]),([38],[36]),([40],[32,38]),([4],[40]),([6],[])] [ps 2 (sv (st ((((letB.drop l.toNat).take 1)++([240,157,132,170,226,153,175]:TX))++(Lib.itoa o)))),ps 3 (iv 0)] (oc (jk l.toNat (by omega)) (oc (congrArg (fun z=>[iv z]) (show l=(l.toNat:Int) from by omega):[(iv l)]=qM (qY [] 64) [(nv l.toNat)]) (oi (a+3) (by omega) (oc (by omega:(0:Int)≤(a+3)∧(a+3)<((7:Nat):Int)) (oc (by omega:0+((a+3):Int).toNat*1=6) (oc (by first|omega|(simp <;> omega):((((letB.drop l.toNat).take 1).length+([240,157,132,170,226,153,175]:TX).length:Nat):Int)≤9223372036854775807) (oc (qJ _ _:st ((letB.drop l.toNat).take 1)++st ([240,157,132,170,226,153,175]:TX)=st (((letB.drop l.toNat).take 1)++([240,157,132,170,226,153,175]:TX))) (yC 144 (vU o (by omega) (by omega)) (oc (by first|omega|(simp <;> omega):(((((letB.drop l.toNat).take 1)++([240,157,132,170,226,153,175]:TX)).length+(Lib.itoa o).length:Nat):Int)≤9223372036854775807) (oc (qJ _ _:st (((letB.drop l.toNat).take 1)++([240,157,132,170,226,153,175]:TX))++st (Lib.itoa o)=st ((((letB.drop l.toNat).take 1)++([240,157,132,170,226,153,175]:TX))++(Lib.itoa o))) oz)))))))))) ?_
   rw [vL (l:=l) (a:=a) (o:=o) (S:=[240,157,132,170,226,153,175]) h1 (by rw [show a=3 from by omega];rfl)]
   exact zy hc0 [2,3] []
  ·exfalso;omega
 refine qQ (congrArg Bool.not (Bool.eq_false_iff.2 h1))<|qA<|qj mxd [] [ps 2 se,ps 3 (iv 2)] (oz) ?_
 rw [qhh (l:=l) (a:=a) (o:=o) h1]
 exact zy hc0 [2,3] []
theorem vG (c:UInt8) (n:Int) (h0:0≤n) (h1:n≤1000):PC Tryz.prog 97 [(sv (st [c])),(iv n)] [] (sv (st (Lib.repeatL [c] n.toNat))) []:=by
 refine zH Tryz.func97 rfl (by kernel_rfl) (Nat.le_of_ble_eq_true rfl) (by kernel_rfl) (l0:=[ps 0 (sv (st [c])),ps 1 (iv n)]) rfl (fun c0 Bor hc0=>?_)
 refine qA<|qK mxd [.r] []<|qA<|qK mxd [.k2,.n] [ps 5 se]<|qA<|qA<|qK mxd [.k3,.n] [ps 6 (iv 0)]<|qU<|yB (α:={x:Nat // (x:Int)≤n}) (fun x=>[ps 0 (sv (st [c])),ps 1 (iv n),ps 5 (sv (st (Lib.repeatL [c] x.1))),ps 6 (nv x.1)]) (fun x=>n.toNat-x.1) 0 ⟨0,by show ((0:Nat):Int)≤n;omega⟩ (Wk.ren2 _ 0 hc0 [] rfl rfl (by kernel_rfl) (by kernel_rfl)) ?_
 rintro ⟨k,hk⟩
 refine qA<|qA<|qj mxd [] [ps 0 (sv (st [c])),ps 1 (iv n),ps 5 (sv (st (Lib.repeatL [c] k))),ps 6 (nv k),ps 9 (bv (decide (((k:Nat):Int)<n)))] (oz) ?_
 by_cases h1:(k:Int)<n
 ·refine qQ (zO h1)<|qE<|qA<|qU ?_
  have hl:=vF c k
  refine zX mxd [(2,.val (.av (.string (st ((Lib.repeatL [c] k)++[c])))))] [.k2,.d,.n,.k1,.d] [ps 5 (sv (st ((Lib.repeatL [c] k)++[c])))] (oc (by first|omega|(simp <;> omega):(((Lib.repeatL [c] k).length+[c].length:Nat):Int)≤9223372036854775807) (oc (qJ _ _:st (Lib.repeatL [c] k)++st [c]=st ((Lib.repeatL [c] k)++[c])) oz))<|zE<|zX mxd [] [.k3,.d,.n] [ps 6 (iv (((k:Nat):Int)+1))] (oi (((k:Nat):Int)+1) (by omega) oz) ?_
  exact zQ ⟨k+1,by show ((k+1:Nat):Int)≤n;omega⟩ (Wk.trans (Wk.eq (show _=[ps 0 (sv (st [c])),ps 1 (iv n),ps 5 (sv (st (Lib.repeatL [c] (k+1)))),ps 6 (nv (k+1))] from by rw [← rep_snoc];rfl)) (Wk.ren2 _ 0 hc0 [] rfl rfl (by kernel_rfl) (by kernel_rfl))) (show n.toNat-(k+1)<n.toNat-k from by show n.toNat-(k+1)<n.toNat-k;omega)
 refine qT (zM h1)<|zR rfl rfl<|qA<|qj mxd [] [ps 4 (sv (st (Lib.repeatL [c] k)))] (oz) ?_
 rw [show n.toNat=k from by omega]
 exact zy hc0 [4] []
def zV (p:Bool) (m:Int):List UInt8:=if 6<(wH p m).length then [] else wH p m
theorem jB {p:Bool} {m:Int} {q:List UInt8} (h:wH p m=q) (hl:q.length≤6):zV p m=q:=by unfold zV;rw [h,if_neg (by omega)]
theorem wG {p:Bool} {m:Int} (h:6<m∨(p=true∧m < -6)∨(¬ p=true∧m < -7)):zV p m=[]:=by
 have:=q_far h
 unfold zV
 rw [if_pos (by omega)]
theorem qw_len (p:Bool) (m:Int):(zV p m).length≤6:=by
 unfold zV
 split
 ·exact Nat.zero_le _
 ·omega
theorem qual_nn (p:Bool) (m:Int):wH p m≠[]:=by
 unfold wH
 repeat' split
 all_goals first|exact rep_ne (by omega)|(intro e;cases e)
theorem name_w0 {s h:Int} (hw:Pi.withinB s h=true) (hn:¬ (s<0∨(s=0∧h<0))) (h0:zV (qV s) (vZ s h)=[]):qW s h=([],3):=by
 unfold zV at h0
 split at h0
 ·exact yO hw hn (vT rfl (by omega))
 ·exact absurd h0 (qual_nn _ _)
theorem name_w1 {s h:Int} (hw:Pi.withinB s h=true) (hn:¬ (s<0∨(s=0∧h<0))) (h0:¬ zV (qV s) (vZ s h)=[]):qW s h=(zV (qV s) (vZ s h)++Lib.itoa (s+1),0):=by
 unfold zV at h0 ⊢
 split at h0
 ·exact absurd rfl h0
 ·rename_i c
  rw [if_neg c]
  exact name_ok0 hw hn rfl (by omega)
theorem Wx (s h:Int) (ih:∀ x y:Int,0≤x→¬ (x=0∧y<0)→(s<0∨(s=0∧h<0))→PC Tryz.prog 64 [.agg [iv x,iv y]] [] (.tup [sv (st ((qW x y).1)),iv ((qW x y).2)]) []):PC Tryz.prog 64 [(.agg [(iv s),(iv h)])] [] (.tup [(sv (st ((qW s h).1))),(iv ((qW s h).2))]) []:=by
 refine zH Tryz.func64 rfl (by kernel_rfl) (Nat.le_of_ble_eq_true rfl) (by kernel_rfl) (l0:=[ps 0 (.agg [(iv s),(iv h)])]) rfl (fun c0 Bor hc0=>?_)
 refine qA<|qj mxd [] [ps 1 (.opt 0 0),pb 0 41 [(iv s),(iv h)]] (oz)<|qA<|qA<|vJ mxd 1 [.k1,.n,.r] [ps 11 (bv (!(Pi.withinB s h)))] (yC 32 (VN s h) oz) ?_
 by_cases h1:(Pi.withinB s h)=true
 ·refine qT (congrArg Bool.not h1)<|qE<|qA<|qA ?_
  have hw:=Pi.withinB_iff.1 h1
  have hsh:=qfm (0-s) (0-h)
  by_cases h2:s<0
  ·refine zX mxd (gy 4 4++[(11,.gd true .no),(12,.yes true)]) [.k1,.d,.n,.r] [ps 24 (bv true)] (on 6 (zO h2) oz)<|yJ (b:=true) rfl rfl<|qA<|qj mxd [(7,.call [] [(.agg [(iv (0-s)),(iv (0-h))])] [] (.tup [(sv (st ((qW (0-s) (0-h)).1))),(iv ((qW (0-s) (0-h)).2))]) [])] [ps 4 (sv (st ((qW (0-s) (0-h)).1))),ps 5 (iv ((qW (0-s) (0-h)).2))] (oi (0-s) (by omega) (oi (0-h) (by omega) (yC 208 (ih (0-s) (0-h) (by omega) (by omega) (by omega)) oz)))<|qA<|qA<|qK mxd [.k2,.n] [ps 37 (bv (!(decide (((qW (0-s) (0-h)).2)=0))))] ?_
   by_cases h3:((qW (0-s) (0-h)).2)=0
   ·refine qT (bt h3)<|qE<|qA<|qj mxd [(1,.val (.av (.string (st (([45]:TX)++((qW (0-s) (0-h)).1))))))] [ps 2 (sv (st (([45]:TX)++((qW (0-s) (0-h)).1)))),ps 3 (iv 0)] (oc (by first|omega|(simp only [List.length_append,List.length_cons,List.length_nil];omega):((([45]:TX).length+((qW (0-s) (0-h)).1).length:Nat):Int)≤9223372036854775807) (oc (qJ _ _:st ([45]:TX)++st ((qW (0-s) (0-h)).1)=st (([45]:TX)++((qW (0-s) (0-h)).1))) oz)) ?_
    rw [qde (s:=s) (h:=h) h1 (by omega) h3]
    exact zy hc0 [2,3] []
   refine qQ (bf h3)<|qA<|qj mxd [] [ps 2 se,ps 3 (iv ((qW (0-s) (0-h)).2))] (oz) ?_
   rw [qdf (s:=s) (h:=h) h1 (by omega) h3]
   exact zy hc0 [2,3] []
  by_cases h4:s=0
  ·refine zX mxd (gn 4 4++gy 8 3++[(11,.gd false (.yes true)),(12,.yes false)]) [.k1,.d,.n,.r] [ps 24 (bv (decide (h<0)))] (on 4 (zM h2) (on 3 (zO h4) (oc (zM h2) (oc (zO h4) (oc (zM h2) oz))))) ?_
   by_cases h5:h<0
   ·refine qQ (zO h5)<|qA<|qj mxd [(7,.call [] [(.agg [(iv (0-s)),(iv (0-h))])] [] (.tup [(sv (st ((qW (0-s) (0-h)).1))),(iv ((qW (0-s) (0-h)).2))]) [])] [ps 4 (sv (st ((qW (0-s) (0-h)).1))),ps 5 (iv ((qW (0-s) (0-h)).2))] (oi (0-s) (by omega) (oi (0-h) (by omega) (yC 208 (ih (0-s) (0-h) (by omega) (by omega) (by omega)) oz)))<|qA<|qA<|qK mxd [.k2,.n] [ps 37 (bv (!(decide (((qW (0-s) (0-h)).2)=0))))] ?_
    by_cases h6:((qW (0-s) (0-h)).2)=0
    ·refine qT (bt h6)<|qE<|qA<|qj mxd [(1,.val (.av (.string (st (([45]:TX)++((qW (0-s) (0-h)).1))))))] [ps 2 (sv (st (([45]:TX)++((qW (0-s) (0-h)).1)))),ps 3 (iv 0)] (oc (by first|omega|(simp only [List.length_append,List.length_cons,List.length_nil];omega):((([45]:TX).length+((qW (0-s) (0-h)).1).length:Nat):Int)≤9223372036854775807) (oc (qJ _ _:st ([45]:TX)++st ((qW (0-s) (0-h)).1)=st (([45]:TX)++((qW (0-s) (0-h)).1))) oz)) ?_
     rw [qde (s:=s) (h:=h) h1 (by omega) h6]
     exact zy hc0 [2,3] []
    refine qQ (bf h6)<|qA<|qj mxd [] [ps 2 se,ps 3 (iv ((qW (0-s) (0-h)).2))] (oz) ?_
    rw [qdf (s:=s) (h:=h) h1 (by omega) h6]
    exact zy hc0 [2,3] []
   refine qT (zM h5)<|qE ?_
   have hnn:¬ (s<0∨(s=0∧h<0)):=by omega
   refine qA ?_
   obtain ⟨m,hm⟩:∃ m,m=vZ s h:=⟨_,rfl⟩
   have hmb : -9000≤m∧m≤9000:=by rw [hm];unfold vZ;have:=Pi.nat7_range (s % 7);omega
   have hwb:=Pi.white_bd s (by omega)
   refine QJ mxd [(4,.call [] [(iv s)] [] (iv (Pi.white s)) [])] [[],[0],[],[2],[2,3],[0,1,2,3,4],[0,1,2,3,4,5]] [([82],[2]),([84],[1,82]),([86],[2]),([88],[1,86]),([90],[88]),([92],[84,90]),([12],[92])] [.k1,.n,.d,.r] [ps 6 (iv (h-(Pi.white s)))] (yC 184 (white_pc s (by omega) (by omega)) (oi (h-(Pi.white s)) (by omega) oz))<|qA<|qX (Wk.eq (show _=[ps 1 (.opt 0 0),ps 6 (iv m),pb 0 41 [(iv s),(iv h)]] from by rw [show h-Pi.white s=m from by rw [hm,qfo]])) ?_
   refine zX mxd [] [.k2,.n,.r] [ps 7 (iv ((s).tmod 7))] (oc (by decide:7≠(0:Int)) oz)<|qA<|qX (Wk.eq (show _=[ps 1 (.opt 0 0),ps 6 (iv m),ps 7 (iv (s % 7)),pb 0 41 [(iv s),(iv h)]] from by rw [Int.tmod_eq_emod_of_nonneg (show 0≤s from by omega)])) ?_
   refine qK mxd [.k3,.n,.r] [ps 8 se]<|qA<|qA ?_
   have h7:(s % 7)=0:=(by omega)
   refine zX mxd (gy 3 2++[(5,.yes true)]++gy 7 2) [.k2,.d,.k1,.n,.r] [ps 59 (bv true)] (on 3 (zO h7) (on 2 tt oz))<|yJ (b:=true) rfl rfl<|qA ?_
   have hpf:=qbl (s:=s) (by omega)
   refine qK mxd [.k3,.d,.n,.r] [ps 61 (bv (decide (m=0)))]<|T_f1 472 [ps 1 (.opt 0 0),ps 8 (sv (st (zV (qV s) m))),pb 0 41 [(iv s),(iv h)]] ?_ fun hk2=>?_
   ·refine qA<|qA<|qj mxd [(1,.val (.av (.bool (decide ((zV (qV s) m)=([]:TX))))))] [ps 1 (.opt 0 0),ps 8 (sv (st (zV (qV s) m))),ps 102 (bv (decide ((zV (qV s) m)=([]:TX)))),pb 0 41 [(iv s),(iv h)]] (oc (QU _ _:((st (zV (qV s) m)).toList == (st ([]:TX)).toList)=decide ((zV (qV s) m)=([]:TX))) oz) ?_
    by_cases h15:(zV (qV s) m)=([]:TX)
    ·refine qQ (zO h15)<|qA<|qj mxd [] [ps 2 se,ps 3 (iv 3)] (oz) ?_
     rw [name_w0 (s:=s) (h:=h) h1 hnn (by rw [← hm];exact h15)]
     exact zy hc0 [2,3] []
    refine qT (zM h15)<|qE<|qA ?_
    have hlr:=qw_len (qV s) m
    have hl2:=jD (o:=s+1) (by omega) (by omega)
    refine qj mxd [(4,.call [] [(iv (s+1))] [] (sv (st (Lib.itoa (s+1)))) []),(5,.val (.av (.string (st ((zV (qV s) m)++(Lib.itoa (s+1)))))))] [ps 2 (sv (st ((zV (qV s) m)++(Lib.itoa (s+1))))),ps 3 (iv 0)] (oi (s+1) (by omega) (yC 520 (vU (s+1) (by omega) (by omega)) (oc (by first|omega|(simp <;> omega):(((zV (qV s) m).length+(Lib.itoa (s+1)).length:Nat):Int)≤9223372036854775807) (oc (qJ _ _:st (zV (qV s) m)++st (Lib.itoa (s+1))=st ((zV (qV s) m)++(Lib.itoa (s+1)))) oz)))) ?_
    rw [name_w1 (s:=s) (h:=h) h1 hnn (by rw [← hm];exact h15),← hm]
    exact zy hc0 [2,3] []
   by_cases h8:m=0
   ·refine qQ (zO h8)<|qK mxd [.k1,.d,.d,.n,.d,.r] [ps 8 (sv (st ([80]:TX)))]<|qX (Wk.eq (show _=[ps 1 (.opt 0 0),ps 8 (sv (st (zV (qV s) m))),pb 0 41 [(iv s),(iv h)]] from by rw [jB (p:=qV s) (m:=m) (VP (by omega) (hpf)) (by decide)])) ?_
    exact vD hk2
   refine qT (zM h8)<|qA ?_
   by_cases h10:0<m
   ·refine zX mxd (gy 3 2++[(5,.yes true)]) [.k3,.d,.n,.r] [ps 67 (bv (decide (m≤6)))] (on 3 (zO h10) oz) ?_
    by_cases h11:m≤6
    ·refine qQ (zO h11)<|vJ mxd 1 [.k1,.d,.d,.n,.d,.r] [ps 8 (sv (st (Lib.repeatL [65] m.toNat)))] (yC 400 (vG 65 m (by omega) (by omega)) oz)<|qX (Wk.eq (show _=[ps 1 (.opt 0 0),ps 8 (sv (st (zV (qV s) m))),pb 0 41 [(iv s),(iv h)]] from by rw [jB (p:=qV s) (m:=m) (q_up (by omega) (by omega)) (by rw [vF];omega)])) ?_
     exact vD hk2
    refine qT (zM h11)<|qA ?_
    by_cases h13:m<0
    ·refine zX mxd (gy 3 2++[(5,.yes true)]) [.k3,.d,.n,.r] [ps 75 (bv (decide ((-6)≤m)))] (on 3 (zO h13) oz) ?_
     by_cases h14:(-6)≤m
     ·refine qQ (zO h14)<|zX mxd [(2,.call [] [(sv (st ([100]:TX))),(iv (0-m))] [] (sv (st (Lib.repeatL [100] (0-m).toNat))) [])] [.k1,.d,.d,.n,.d,.r] [ps 8 (sv (st (Lib.repeatL [100] (0-m).toNat)))] (oi (0-m) (by omega) (yC 456 (vG 100 (0-m) (by omega) (by omega)) oz))<|qX (Wk.eq (show _=[ps 1 (.opt 0 0),ps 8 (sv (st (zV (qV s) m))),pb 0 41 [(iv s),(iv h)]] from by rw [jB (p:=qV s) (m:=m) (q_dn (by omega) (by omega) (hpf)) (by rw [vF];omega)])) ?_
      exact vD hk2
     refine qT (zM h14)<|qE<|qX (Wk.eq (show _=[ps 1 (.opt 0 0),ps 6 (iv m),ps 8 (sv (st (zV (qV s) m))),ps 75 (bv (decide ((-6)≤m))),pb 0 41 [(iv s),(iv h)]] from by rw [wG (p:=qV s) (m:=m) (by have hp:=hpf;first|exact .inl (by omega)|exact .inr (.inl ⟨hp,by omega⟩))])) ?_
     exact vD hk2
    refine zX mxd (gn 3 2++[(5,.yes false)]) [.k3,.d,.n,.r] [ps 75 (bv false)] (on 3 (zM h13) oz)<|zj (b:=false) rfl rfl<|qE<|qX (Wk.eq (show _=[ps 1 (.opt 0 0),ps 6 (iv m),ps 8 (sv (st (zV (qV s) m))),ps 75 (bv false),pb 0 41 [(iv s),(iv h)]] from by rw [wG (p:=qV s) (m:=m) (by have hp:=hpf;first|exact .inl (by omega)|exact .inr (.inl ⟨hp,by omega⟩))])) ?_
    exact vD hk2
   refine zX mxd (gn 3 2++[(5,.yes false)]) [.k3,.d,.n,.r] [ps 67 (bv false)] (on 3 (zM h10) oz)<|zj (b:=false) rfl rfl<|qA ?_
   by_cases h18:m<0
   ·refine zX mxd (gy 3 2++[(5,.yes true)]) [.k3,.d,.n,.r] [ps 75 (bv (decide ((-6)≤m)))] (on 3 (zO h18) oz) ?_
    by_cases h19:(-6)≤m
    ·refine qQ (zO h19)<|zX mxd [(2,.call [] [(sv (st ([100]:TX))),(iv (0-m))] [] (sv (st (Lib.repeatL [100] (0-m).toNat))) [])] [.k1,.d,.d,.n,.d,.r] [ps 8 (sv (st (Lib.repeatL [100] (0-m).toNat)))] (oi (0-m) (by omega) (yC 456 (vG 100 (0-m) (by omega) (by omega)) oz))<|qX (Wk.eq (show _=[ps 1 (.opt 0 0),ps 8 (sv (st (zV (qV s) m))),pb 0 41 [(iv s),(iv h)]] from by rw [jB (p:=qV s) (m:=m) (q_dn (by omega) (by omega) (hpf)) (by rw [vF];omega)])) ?_
     exact vD hk2
    refine qT (zM h19)<|qE<|qX (Wk.eq (show _=[ps 1 (.opt 0 0),ps 6 (iv m),ps 8 (sv (st (zV (qV s) m))),ps 75 (bv (decide ((-6)≤m))),pb 0 41 [(iv s),(iv h)]] from by rw [wG (p:=qV s) (m:=m) (by have hp:=hpf;first|exact .inl (by omega)|exact .inr (.inl ⟨hp,by omega⟩))])) ?_
    exact vD hk2
   refine zX mxd (gn 3 2++[(5,.yes false)]) [.k3,.d,.n,.r] [ps 75 (bv false)] (on 3 (zM h18) oz)<|zj (b:=false) rfl rfl<|qE<|qX (Wk.eq (show _=[ps 1 (.opt 0 0),ps 6 (iv m),ps 8 (sv (st (zV (qV s) m))),ps 75 (bv false),pb 0 41 [(iv s),(iv h)]] from by rw [wG (p:=qV s) (m:=m) (by have hp:=hpf;first|exact .inl (by omega)|exact .inr (.inl ⟨hp,by omega⟩))])) ?_
   exact vD hk2
  refine zX mxd (gn 4 7++[(11,.gd false (.yes false)),(12,.yes false)]) [.k1,.d,.n,.r] [ps 24 (bv false)] (on 4 (zM h2) (on 3 (zM h4) (oc (zM h2) (oc (zM h4) (oc (zM h2) oz)))))<|zj (b:=false) rfl rfl<|qE ?_
  have hnn:¬ (s<0∨(s=0∧h<0)):=by omega
  refine qA ?_
  obtain ⟨m,hm⟩:∃ m,m=vZ s h:=⟨_,rfl⟩
  have hmb : -9000≤m∧m≤9000:=by rw [hm];unfold vZ;have:=Pi.nat7_range (s % 7);omega
  have hwb:=Pi.white_bd s (by omega)
  refine QJ mxd [(4,.call [] [(iv s)] [] (iv (Pi.white s)) [])] [[],[0],[],[2],[2,3],[0,1,2,3,4],[0,1,2,3,4,5]] [([82],[2]),([84],[1,82]),([86],[2]),([88],[1,86]),([90],[88]),([92],[84,90]),([12],[92])] [.k1,.n,.d,.r] [ps 6 (iv (h-(Pi.white s)))] (yC 184 (white_pc s (by omega) (by omega)) (oi (h-(Pi.white s)) (by omega) oz))<|qA<|qX (Wk.eq (show _=[ps 1 (.opt 0 0),ps 6 (iv m),pb 0 41 [(iv s),(iv h)]] from by rw [show h-Pi.white s=m from by rw [hm,qfo]])) ?_
  refine zX mxd [] [.k2,.n,.r] [ps 7 (iv ((s).tmod 7))] (oc (by decide:7≠(0:Int)) oz)<|qA<|qX (Wk.eq (show _=[ps 1 (.opt 0 0),ps 6 (iv m),ps 7 (iv (s % 7)),pb 0 41 [(iv s),(iv h)]] from by rw [Int.tmod_eq_emod_of_nonneg (show 0≤s from by omega)])) ?_
  refine qK mxd [.k3,.n,.r] [ps 8 se]<|qA<|qA<|T_f2 496 [ps 1 (.opt 0 0),ps 8 (sv (st (zV (qV s) m))),pb 0 41 [(iv s),(iv h)]] ?_ fun hk1=>?_
  ·refine qA<|qA<|qj mxd [(1,.val (.av (.bool (decide ((zV (qV s) m)=([]:TX))))))] [ps 1 (.opt 0 0),ps 8 (sv (st (zV (qV s) m))),ps 102 (bv (decide ((zV (qV s) m)=([]:TX)))),pb 0 41 [(iv s),(iv h)]] (oc (QU _ _:((st (zV (qV s) m)).toList == (st ([]:TX)).toList)=decide ((zV (qV s) m)=([]:TX))) oz) ?_
   by_cases h80:(zV (qV s) m)=([]:TX)
   ·refine qQ (zO h80)<|qA<|qj mxd [] [ps 2 se,ps 3 (iv 3)] (oz) ?_
    rw [name_w0 (s:=s) (h:=h) h1 hnn (by rw [← hm];exact h80)]
    exact zy hc0 [2,3] []
   refine qT (zM h80)<|qE<|qA ?_
   have hlr:=qw_len (qV s) m
   have hl2:=jD (o:=s+1) (by omega) (by omega)
   refine qj mxd [(4,.call [] [(iv (s+1))] [] (sv (st (Lib.itoa (s+1)))) []),(5,.val (.av (.string (st ((zV (qV s) m)++(Lib.itoa (s+1)))))))] [ps 2 (sv (st ((zV (qV s) m)++(Lib.itoa (s+1))))),ps 3 (iv 0)] (oi (s+1) (by omega) (yC 544 (vU (s+1) (by omega) (by omega)) (oc (by first|omega|(simp <;> omega):(((zV (qV s) m).length+(Lib.itoa (s+1)).length:Nat):Int)≤9223372036854775807) (oc (qJ _ _:st (zV (qV s) m)++st (Lib.itoa (s+1))=st ((zV (qV s) m)++(Lib.itoa (s+1)))) oz)))) ?_
   rw [name_w1 (s:=s) (h:=h) h1 hnn (by rw [← hm];exact h80),← hm]
   exact zy hc0 [2,3] []
  by_cases h23:(s % 7)=0
  ·refine zX mxd (gy 3 2++[(5,.yes true)]++gy 7 2) [.k2,.d,.k1,.n,.r] [ps 59 (bv true)] (on 3 (zO h23) (on 2 tt oz))<|yJ (b:=true) rfl rfl<|qA ?_
   have hpf:=qbl (s:=s) (by omega)
   refine qK mxd [.k3,.d,.n,.r] [ps 61 (bv (decide (m=0)))] ?_
   by_cases h24:m=0
   ·refine qQ (zO h24)<|qK mxd [.k1,.d,.d,.n,.d,.r] [ps 8 (sv (st ([80]:TX)))]<|qX (Wk.eq (show _=[ps 1 (.opt 0 0),ps 8 (sv (st (zV (qV s) m))),pb 0 41 [(iv s),(iv h)]] from by rw [jB (p:=qV s) (m:=m) (VP (by omega) (hpf)) (by decide)])) ?_
    exact vD hk1
   refine qT (zM h24)<|qA ?_
   by_cases h26:0<m
   ·refine zX mxd (gy 3 2++[(5,.yes true)]) [.k3,.d,.n,.r] [ps 67 (bv (decide (m≤6)))] (on 3 (zO h26) oz) ?_
    by_cases h27:m≤6
    ·refine qQ (zO h27)<|vJ mxd 1 [.k1,.d,.d,.n,.d,.r] [ps 8 (sv (st (Lib.repeatL [65] m.toNat)))] (yC 400 (vG 65 m (by omega) (by omega)) oz)<|qX (Wk.eq (show _=[ps 1 (.opt 0 0),ps 8 (sv (st (zV (qV s) m))),pb 0 41 [(iv s),(iv h)]] from by rw [jB (p:=qV s) (m:=m) (q_up (by omega) (by omega)) (by rw [vF];omega)])) ?_
     exact vD hk1
    refine qT (zM h27)<|qA ?_
    by_cases h29:m<0
    ·refine zX mxd (gy 3 2++[(5,.yes true)]) [.k3,.d,.n,.r] [ps 75 (bv (decide ((-6)≤m)))] (on 3 (zO h29) oz) ?_
     by_cases h30:(-6)≤m
     ·refine qQ (zO h30)<|zX mxd [(2,.call [] [(sv (st ([100]:TX))),(iv (0-m))] [] (sv (st (Lib.repeatL [100] (0-m).toNat))) [])] [.k1,.d,.d,.n,.d,.r] [ps 8 (sv (st (Lib.repeatL [100] (0-m).toNat)))] (oi (0-m) (by omega) (yC 456 (vG 100 (0-m) (by omega) (by omega)) oz))<|qX (Wk.eq (show _=[ps 1 (.opt 0 0),ps 8 (sv (st (zV (qV s) m))),pb 0 41 [(iv s),(iv h)]] from by rw [jB (p:=qV s) (m:=m) (q_dn (by omega) (by omega) (hpf)) (by rw [vF];omega)])) ?_
      exact vD hk1
     refine qT (zM h30)<|qE<|qX (Wk.eq (show _=[ps 1 (.opt 0 0),ps 6 (iv m),ps 8 (sv (st (zV (qV s) m))),ps 75 (bv (decide ((-6)≤m))),pb 0 41 [(iv s),(iv h)]] from by rw [wG (p:=qV s) (m:=m) (by have hp:=hpf;first|exact .inl (by omega)|exact .inr (.inl ⟨hp,by omega⟩))])) ?_
     exact vD hk1
    refine zX mxd (gn 3 2++[(5,.yes false)]) [.k3,.d,.n,.r] [ps 75 (bv false)] (on 3 (zM h29) oz)<|zj (b:=false) rfl rfl<|qE<|qX (Wk.eq (show _=[ps 1 (.opt 0 0),ps 6 (iv m),ps 8 (sv (st (zV (qV s) m))),ps 75 (bv false),pb 0 41 [(iv s),(iv h)]] from by rw [wG (p:=qV s) (m:=m) (by have hp:=hpf;first|exact .inl (by omega)|exact .inr (.inl ⟨hp,by omega⟩))])) ?_
    exact vD hk1
   refine zX mxd (gn 3 2++[(5,.yes false)]) [.k3,.d,.n,.r] [ps 67 (bv false)] (on 3 (zM h26) oz)<|zj (b:=false) rfl rfl<|qA ?_
   by_cases h34:m<0
   ·refine zX mxd (gy 3 2++[(5,.yes true)]) [.k3,.d,.n,.r] [ps 75 (bv (decide ((-6)≤m)))] (on 3 (zO h34) oz) ?_
    by_cases h35:(-6)≤m
    ·refine qQ (zO h35)<|zX mxd [(2,.call [] [(sv (st ([100]:TX))),(iv (0-m))] [] (sv (st (Lib.repeatL [100] (0-m).toNat))) [])] [.k1,.d,.d,.n,.d,.r] [ps 8 (sv (st (Lib.repeatL [100] (0-m).toNat)))] (oi (0-m) (by omega) (yC 456 (vG 100 (0-m) (by omega) (by omega)) oz))<|qX (Wk.eq (show _=[ps 1 (.opt 0 0),ps 8 (sv (st (zV (qV s) m))),pb 0 41 [(iv s),(iv h)]] from by rw [jB (p:=qV s) (m:=m) (q_dn (by omega) (by omega) (hpf)) (by rw [vF];omega)])) ?_
     exact vD hk1
    refine qT (zM h35)<|qE<|qX (Wk.eq (show _=[ps 1 (.opt 0 0),ps 6 (iv m),ps 8 (sv (st (zV (qV s) m))),ps 75 (bv (decide ((-6)≤m))),pb 0 41 [(iv s),(iv h)]] from by rw [wG (p:=qV s) (m:=m) (by have hp:=hpf;first|exact .inl (by omega)|exact .inr (.inl ⟨hp,by omega⟩))])) ?_
    exact vD hk1
   refine zX mxd (gn 3 2++[(5,.yes false)]) [.k3,.d,.n,.r] [ps 75 (bv false)] (on 3 (zM h34) oz)<|zj (b:=false) rfl rfl<|qE<|qX (Wk.eq (show _=[ps 1 (.opt 0 0),ps 6 (iv m),ps 8 (sv (st (zV (qV s) m))),ps 75 (bv false),pb 0 41 [(iv s),(iv h)]] from by rw [wG (p:=qV s) (m:=m) (by have hp:=hpf;first|exact .inl (by omega)|exact .inr (.inl ⟨hp,by omega⟩))])) ?_
   exact vD hk1
  by_cases h39:(s % 7)=3
  ·refine zX mxd (gn 3 2++[(5,.yes false)]++gy 7 2++[(9,.yes true)]) [.k2,.d,.k1,.n,.r] [ps 59 (bv true)] (on 3 (zM h23) (on 3 (zO h39) oz))<|yJ (b:=true) rfl rfl<|qA ?_
   have hpf:=qbl (s:=s) (by omega)
   refine qK mxd [.k3,.d,.n,.r] [ps 61 (bv (decide (m=0)))] ?_
   by_cases h40:m=0
   ·refine qQ (zO h40)<|qK mxd [.k1,.d,.d,.n,.d,.r] [ps 8 (sv (st ([80]:TX)))]<|qX (Wk.eq (show _=[ps 1 (.opt 0 0),ps 8 (sv (st (zV (qV s) m))),pb 0 41 [(iv s),(iv h)]] from by rw [jB (p:=qV s) (m:=m) (VP (by omega) (hpf)) (by decide)])) ?_
    exact vD hk1
   refine qT (zM h40)<|qA ?_
   by_cases h42:0<m
   ·refine zX mxd (gy 3 2++[(5,.yes true)]) [.k3,.d,.n,.r] [ps 67 (bv (decide (m≤6)))] (on 3 (zO h42) oz) ?_
    by_cases h43:m≤6
    ·refine qQ (zO h43)<|vJ mxd 1 [.k1,.d,.d,.n,.d,.r] [ps 8 (sv (st (Lib.repeatL [65] m.toNat)))] (yC 400 (vG 65 m (by omega) (by omega)) oz)<|qX (Wk.eq (show _=[ps 1 (.opt 0 0),ps 8 (sv (st (zV (qV s) m))),pb 0 41 [(iv s),(iv h)]] from by rw [jB (p:=qV s) (m:=m) (q_up (by omega) (by omega)) (by rw [vF];omega)])) ?_
     exact vD hk1
    refine qT (zM h43)<|qA ?_
    by_cases h45:m<0
    ·refine zX mxd (gy 3 2++[(5,.yes true)]) [.k3,.d,.n,.r] [ps 75 (bv (decide ((-6)≤m)))] (on 3 (zO h45) oz) ?_
     by_cases h46:(-6)≤m
     ·refine qQ (zO h46)<|zX mxd [(2,.call [] [(sv (st ([100]:TX))),(iv (0-m))] [] (sv (st (Lib.repeatL [100] (0-m).toNat))) [])] [.k1,.d,.d,.n,.d,.r] [ps 8 (sv (st (Lib.repeatL [100] (0-m).toNat)))] (oi (0-m) (by omega) (yC 456 (vG 100 (0-m) (by omega) (by omega)) oz))<|qX (Wk.eq (show _=[ps 1 (.opt 0 0),ps 8 (sv (st (zV (qV s) m))),pb 0 41 [(iv s),(iv h)]] from by rw [jB (p:=qV s) (m:=m) (q_dn (by omega) (by omega) (hpf)) (by rw [vF];omega)])) ?_
      exact vD hk1
     refine qT (zM h46)<|qE<|qX (Wk.eq (show _=[ps 1 (.opt 0 0),ps 6 (iv m),ps 8 (sv (st (zV (qV s) m))),ps 75 (bv (decide ((-6)≤m))),pb 0 41 [(iv s),(iv h)]] from by rw [wG (p:=qV s) (m:=m) (by have hp:=hpf;first|exact .inl (by omega)|exact .inr (.inl ⟨hp,by omega⟩))])) ?_
     exact vD hk1
    refine zX mxd (gn 3 2++[(5,.yes false)]) [.k3,.d,.n,.r] [ps 75 (bv false)] (on 3 (zM h45) oz)<|zj (b:=false) rfl rfl<|qE<|qX (Wk.eq (show _=[ps 1 (.opt 0 0),ps 6 (iv m),ps 8 (sv (st (zV (qV s) m))),ps 75 (bv false),pb 0 41 [(iv s),(iv h)]] from by rw [wG (p:=qV s) (m:=m) (by have hp:=hpf;first|exact .inl (by omega)|exact .inr (.inl ⟨hp,by omega⟩))])) ?_
    exact vD hk1
   refine zX mxd (gn 3 2++[(5,.yes false)]) [.k3,.d,.n,.r] [ps 67 (bv false)] (on 3 (zM h42) oz)<|zj (b:=false) rfl rfl<|qA ?_
   by_cases h50:m<0
   ·refine zX mxd (gy 3 2++[(5,.yes true)]) [.k3,.d,.n,.r] [ps 75 (bv (decide ((-6)≤m)))] (on 3 (zO h50) oz) ?_
    by_cases h51:(-6)≤m
    ·refine qQ (zO h51)<|zX mxd [(2,.call [] [(sv (st ([100]:TX))),(iv (0-m))] [] (sv (st (Lib.repeatL [100] (0-m).toNat))) [])] [.k1,.d,.d,.n,.d,.r] [ps 8 (sv (st (Lib.repeatL [100] (0-m).toNat)))] (oi (0-m) (by omega) (yC 456 (vG 100 (0-m) (by omega) (by omega)) oz))<|qX (Wk.eq (show _=[ps 1 (.opt 0 0),ps 8 (sv (st (zV (qV s) m))),pb 0 41 [(iv s),(iv h)]] from by rw [jB (p:=qV s) (m:=m) (q_dn (by omega) (by omega) (hpf)) (by rw [vF];omega)])) ?_
     exact vD hk1
    refine qT (zM h51)<|qE<|qX (Wk.eq (show _=[ps 1 (.opt 0 0),ps 6 (iv m),ps 8 (sv (st (zV (qV s) m))),ps 75 (bv (decide ((-6)≤m))),pb 0 41 [(iv s),(iv h)]] from by rw [wG (p:=qV s) (m:=m) (by have hp:=hpf;first|exact .inl (by omega)|exact .inr (.inl ⟨hp,by omega⟩))])) ?_
    exact vD hk1
   refine zX mxd (gn 3 2++[(5,.yes false)]) [.k3,.d,.n,.r] [ps 75 (bv false)] (on 3 (zM h50) oz)<|zj (b:=false) rfl rfl<|qE<|qX (Wk.eq (show _=[ps 1 (.opt 0 0),ps 6 (iv m),ps 8 (sv (st (zV (qV s) m))),ps 75 (bv false),pb 0 41 [(iv s),(iv h)]] from by rw [wG (p:=qV s) (m:=m) (by have hp:=hpf;first|exact .inl (by omega)|exact .inr (.inl ⟨hp,by omega⟩))])) ?_
   exact vD hk1
  refine zX mxd (gn 3 2++[(5,.yes false)]++gn 7 2++[(9,.yes false)]) [.k2,.d,.k1,.n,.r] [ps 59 (bv (decide ((s % 7)=4)))] (on 3 (zM h23) (on 3 (zM h39) oz)) ?_
  by_cases h55:(s % 7)=4
  ·refine qQ (zO h55)<|qA ?_
   have hpf:=qbl (s:=s) (by omega)
   refine qK mxd [.k3,.d,.n,.r] [ps 61 (bv (decide (m=0)))] ?_
   by_cases h56:m=0
   ·refine qQ (zO h56)<|qK mxd [.k1,.d,.d,.n,.d,.r] [ps 8 (sv (st ([80]:TX)))]<|qX (Wk.eq (show _=[ps 1 (.opt 0 0),ps 8 (sv (st (zV (qV s) m))),pb 0 41 [(iv s),(iv h)]] from by rw [jB (p:=qV s) (m:=m) (VP (by omega) (hpf)) (by decide)])) ?_
    exact vD hk1
   refine qT (zM h56)<|qA ?_
   by_cases h58:0<m
   ·refine zX mxd (gy 3 2++[(5,.yes true)]) [.k3,.d,.n,.r] [ps 67 (bv (decide (m≤6)))] (on 3 (zO h58) oz) ?_
    by_cases h59:m≤6
    ·refine qQ (zO h59)<|vJ mxd 1 [.k1,.d,.d,.n,.d,.r] [ps 8 (sv (st (Lib.repeatL [65] m.toNat)))] (yC 400 (vG 65 m (by omega) (by omega)) oz)<|qX (Wk.eq (show _=[ps 1 (.opt 0 0),ps 8 (sv (st (zV (qV s) m))),pb 0 41 [(iv s),(iv h)]] from by rw [jB (p:=qV s) (m:=m) (q_up (by omega) (by omega)) (by rw [vF];omega)])) ?_
     exact vD hk1
    refine qT (zM h59)<|qA ?_
    by_cases h61:m<0
    ·refine zX mxd (gy 3 2++[(5,.yes true)]) [.k3,.d,.n,.r] [ps 75 (bv (decide ((-6)≤m)))] (on 3 (zO h61) oz) ?_
     by_cases h62:(-6)≤m
     ·refine qQ (zO h62)<|zX mxd [(2,.call [] [(sv (st ([100]:TX))),(iv (0-m))] [] (sv (st (Lib.repeatL [100] (0-m).toNat))) [])] [.k1,.d,.d,.n,.d,.r] [ps 8 (sv (st (Lib.repeatL [100] (0-m).toNat)))] (oi (0-m) (by omega) (yC 456 (vG 100 (0-m) (by omega) (by omega)) oz))<|qX (Wk.eq (show _=[ps 1 (.opt 0 0),ps 8 (sv (st (zV (qV s) m))),pb 0 41 [(iv s),(iv h)]] from by rw [jB (p:=qV s) (m:=m) (q_dn (by omega) (by omega) (hpf)) (by rw [vF];omega)])) ?_
      exact vD hk1
     refine qT (zM h62)<|qE<|qX (Wk.eq (show _=[ps 1 (.opt 0 0),ps 6 (iv m),ps 8 (sv (st (zV (qV s) m))),ps 75 (bv (decide ((-6)≤m))),pb 0 41 [(iv s),(iv h)]] from by rw [wG (p:=qV s) (m:=m) (by have hp:=hpf;first|exact .inl (by omega)|exact .inr (.inl ⟨hp,by omega⟩))])) ?_
     exact vD hk1
    refine zX mxd (gn 3 2++[(5,.yes false)]) [.k3,.d,.n,.r] [ps 75 (bv false)] (on 3 (zM h61) oz)<|zj (b:=false) rfl rfl<|qE<|qX (Wk.eq (show _=[ps 1 (.opt 0 0),ps 6 (iv m),ps 8 (sv (st (zV (qV s) m))),ps 75 (bv false),pb 0 41 [(iv s),(iv h)]] from by rw [wG (p:=qV s) (m:=m) (by have hp:=hpf;first|exact .inl (by omega)|exact .inr (.inl ⟨hp,by omega⟩))])) ?_
    exact vD hk1
   refine zX mxd (gn 3 2++[(5,.yes false)]) [.k3,.d,.n,.r] [ps 67 (bv false)] (on 3 (zM h58) oz)<|zj (b:=false) rfl rfl<|qA ?_
   by_cases h66:m<0
   ·refine zX mxd (gy 3 2++[(5,.yes true)]) [.k3,.d,.n,.r] [ps 75 (bv (decide ((-6)≤m)))] (on 3 (zO h66) oz) ?_
    by_cases h67:(-6)≤m
    ·refine qQ (zO h67)<|zX mxd [(2,.call [] [(sv (st ([100]:TX))),(iv (0-m))] [] (sv (st (Lib.repeatL [100] (0-m).toNat))) [])] [.k1,.d,.d,.n,.d,.r] [ps 8 (sv (st (Lib.repeatL [100] (0-m).toNat)))] (oi (0-m) (by omega) (yC 456 (vG 100 (0-m) (by omega) (by omega)) oz))<|qX (Wk.eq (show _=[ps 1 (.opt 0 0),ps 8 (sv (st (zV (qV s) m))),pb 0 41 [(iv s),(iv h)]] from by rw [jB (p:=qV s) (m:=m) (q_dn (by omega) (by omega) (hpf)) (by rw [vF];omega)])) ?_
     exact vD hk1
    refine qT (zM h67)<|qE<|qX (Wk.eq (show _=[ps 1 (.opt 0 0),ps 6 (iv m),ps 8 (sv (st (zV (qV s) m))),ps 75 (bv (decide ((-6)≤m))),pb 0 41 [(iv s),(iv h)]] from by rw [wG (p:=qV s) (m:=m) (by have hp:=hpf;first|exact .inl (by omega)|exact .inr (.inl ⟨hp,by omega⟩))])) ?_
    exact vD hk1
   refine zX mxd (gn 3 2++[(5,.yes false)]) [.k3,.d,.n,.r] [ps 75 (bv false)] (on 3 (zM h66) oz)<|zj (b:=false) rfl rfl<|qE<|qX (Wk.eq (show _=[ps 1 (.opt 0 0),ps 6 (iv m),ps 8 (sv (st (zV (qV s) m))),ps 75 (bv false),pb 0 41 [(iv s),(iv h)]] from by rw [wG (p:=qV s) (m:=m) (by have hp:=hpf;first|exact .inl (by omega)|exact .inr (.inl ⟨hp,by omega⟩))])) ?_
   exact vD hk1
  refine qT (zM h55)<|qA ?_
  have hpf:=perf_no (s:=s) (by omega)
  refine qK mxd [.k3,.d,.n,.r] [ps 80 (bv (decide (m=0)))] ?_
  by_cases h71:m=0
  ·refine qQ (zO h71)<|qK mxd [.k1,.d,.d,.n,.d,.r] [ps 8 (sv (st ([77]:TX)))]<|qX (Wk.eq (show _=[ps 1 (.opt 0 0),ps 8 (sv (st (zV (qV s) m))),pb 0 41 [(iv s),(iv h)]] from by rw [jB (p:=qV s) (m:=m) (qey (by omega) (hpf)) (by decide)])) ?_
   exact vD hk1
  refine qT (zM h71)<|qA<|qK mxd [.k3,.d,.n,.r] [ps 82 (bv (decide (m=(-1))))] ?_
  by_cases h73:m=(-1)
  ·refine qQ (zO h73)<|qK mxd [.k1,.d,.d,.n,.d,.r] [ps 8 (sv (st ([109]:TX)))]<|qX (Wk.eq (show _=[ps 1 (.opt 0 0),ps 8 (sv (st (zV (qV s) m))),pb 0 41 [(iv s),(iv h)]] from by rw [jB (p:=qV s) (m:=m) (qex (by omega) (hpf)) (by decide)])) ?_
   exact vD hk1
  refine qT (zM h73)<|qA ?_
  by_cases h75:0<m
  ·refine zX mxd (gy 3 2++[(5,.yes true)]) [.k3,.d,.n,.r] [ps 88 (bv (decide (m≤6)))] (on 3 (zO h75) oz) ?_
   by_cases h76:m≤6
   ·refine qQ (zO h76)<|vJ mxd 1 [.k1,.d,.d,.n,.d,.r] [ps 8 (sv (st (Lib.repeatL [65] m.toNat)))] (yC 416 (vG 65 m (by omega) (by omega)) oz)<|qX (Wk.eq (show _=[ps 1 (.opt 0 0),ps 8 (sv (st (zV (qV s) m))),pb 0 41 [(iv s),(iv h)]] from by rw [jB (p:=qV s) (m:=m) (q_up (by omega) (by omega)) (by rw [vF];omega)])) ?_
    exact vD hk1
   refine qT (zM h76)<|qA ?_
   by_cases h78:m<(-1)
   ·refine zX mxd (gy 3 2++[(5,.yes true)]) [.k3,.d,.n,.r] [ps 96 (bv (decide ((-7)≤m)))] (on 3 (zO h78) oz) ?_
    by_cases h79:(-7)≤m
    ·refine qQ (zO h79)<|zX mxd [(3,.call [] [(sv (st ([100]:TX))),(iv ((0-m)-1))] [] (sv (st (Lib.repeatL [100] ((0-m)-1).toNat))) [])] [.k1,.d,.d,.n,.d,.r] [ps 8 (sv (st (Lib.repeatL [100] ((0-m)-1).toNat)))] (oi (0-m) (by omega) (oi ((0-m)-1) (by omega) (yC 480 (vG 100 ((0-m)-1) (by omega) (by omega)) oz)))<|qX (Wk.eq (show _=[ps 1 (.opt 0 0),ps 8 (sv (st (zV (qV s) m))),pb 0 41 [(iv s),(iv h)]] from by rw [jB (p:=qV s) (m:=m) (q_dn2 (by omega) (by omega) (hpf)) (by rw [vF];omega)])) ?_
     exact vD hk1
    refine qT (zM h79)<|qE<|qX (Wk.eq (show _=[ps 1 (.opt 0 0),ps 6 (iv m),ps 8 (sv (st (zV (qV s) m))),ps 96 (bv (decide ((-7)≤m))),pb 0 41 [(iv s),(iv h)]] from by rw [wG (p:=qV s) (m:=m) (by have hp:=hpf;first|exact .inl (by omega)|exact .inr (.inr ⟨hp,by omega⟩))])) ?_
    exact vD hk1
   refine zX mxd (gn 3 2++[(5,.yes false)]) [.k3,.d,.n,.r] [ps 96 (bv false)] (on 3 (zM h78) oz)<|zj (b:=false) rfl rfl<|qE<|qX (Wk.eq (show _=[ps 1 (.opt 0 0),ps 6 (iv m),ps 8 (sv (st (zV (qV s) m))),ps 96 (bv false),pb 0 41 [(iv s),(iv h)]] from by rw [wG (p:=qV s) (m:=m) (by have hp:=hpf;first|exact .inl (by omega)|exact .inr (.inr ⟨hp,by omega⟩))])) ?_
   exact vD hk1
  refine zX mxd (gn 3 2++[(5,.yes false)]) [.k3,.d,.n,.r] [ps 88 (bv false)] (on 3 (zM h75) oz)<|zj (b:=false) rfl rfl<|qA ?_
  by_cases h83:m<(-1)
  ·refine zX mxd (gy 3 2++[(5,.yes true)]) [.k3,.d,.n,.r] [ps 96 (bv (decide ((-7)≤m)))] (on 3 (zO h83) oz) ?_
   by_cases h84:(-7)≤m
   ·refine qQ (zO h84)<|zX mxd [(3,.call [] [(sv (st ([100]:TX))),(iv ((0-m)-1))] [] (sv (st (Lib.repeatL [100] ((0-m)-1).toNat))) [])] [.k1,.d,.d,.n,.d,.r] [ps 8 (sv (st (Lib.repeatL [100] ((0-m)-1).toNat)))] (oi (0-m) (by omega) (oi ((0-m)-1) (by omega) (yC 480 (vG 100 ((0-m)-1) (by omega) (by omega)) oz)))<|qX (Wk.eq (show _=[ps 1 (.opt 0 0),ps 8 (sv (st (zV (qV s) m))),pb 0 41 [(iv s),(iv h)]] from by rw [jB (p:=qV s) (m:=m) (q_dn2 (by omega) (by omega) (hpf)) (by rw [vF];omega)])) ?_
    exact vD hk1
   refine qT (zM h84)<|qE<|qX (Wk.eq (show _=[ps 1 (.opt 0 0),ps 6 (iv m),ps 8 (sv (st (zV (qV s) m))),ps 96 (bv (decide ((-7)≤m))),pb 0 41 [(iv s),(iv h)]] from by rw [wG (p:=qV s) (m:=m) (by have hp:=hpf;first|exact .inl (by omega)|exact .inr (.inr ⟨hp,by omega⟩))])) ?_
   exact vD hk1
  refine zX mxd (gn 3 2++[(5,.yes false)]) [.k3,.d,.n,.r] [ps 96 (bv false)] (on 3 (zM h83) oz)<|zj (b:=false) rfl rfl<|qE<|qX (Wk.eq (show _=[ps 1 (.opt 0 0),ps 6 (iv m),ps 8 (sv (st (zV (qV s) m))),ps 96 (bv false),pb 0 41 [(iv s),(iv h)]] from by rw [wG (p:=qV s) (m:=m) (by have hp:=hpf;first|exact .inl (by omega)|exact .inr (.inr ⟨hp,by omega⟩))])) ?_
  exact vD hk1
 refine qQ (congrArg Bool.not (Bool.eq_false_iff.2 h1))<|qA<|qj mxd [] [ps 2 se,ps 3 (iv 3)] (oz) ?_
 rw [qfn (s:=s) (h:=h) h1]
 exact zy hc0 [2,3] []
theorem qje (s h:Int) (h0:0≤s) (h1:¬ (s=0∧h<0)):PC Tryz.prog 64 [.agg [iv s,iv h]] [] (.tup [sv (st ((qW s h).1)),iv ((qW s h).2)]) [] :=
 Wx s h fun x y _ _ c=>absurd c (by omega)
theorem VO (s h:Int):PC Tryz.prog 64 [.agg [iv s,iv h]] [] (.tup [sv (st ((qW s h).1)),iv ((qW s h).2)]) [] :=
 Wx s h fun x y a b _=>qje x y a b
end Go.Proofs.YtmlnilkbolcknaaGreatDoor.Pm
set_option maxRecDepth 100000
set_option maxHeartbeats 4000000
namespace Go.Proofs.YtmlnilkbolcknaaGreatDoor.Pm
open Go Go.Proofs.YtmlnilkbolcknaaGreatDoor.Pi
theorem qbi (l a o:Int):PC Tryz.prog 130 [(.agg [(iv l),(iv a),(iv o)])] [] (.tup [(sv (st ((vk l a o).1))),(iv ((vk l a o).2))]) []:=by
 refine zH Tryz.func130 rfl (by kernel_rfl) (Nat.le_of_ble_eq_true rfl) (by kernel_rfl) (l0:=[ps 0 (.agg [(iv l),(iv a),(iv o)])]) rfl (fun c0 Bor hc0=>?_)
 refine qA<|qj mxd [] [ps 1 (.opt 0 0),pb 0 52 [(iv l),(iv a),(iv o)]] (oz)<|qA<|qA<|vJ mxd 1 [.k1,.n,.r] [ps 7 (bv (!(Pi.rightB l a o)))] (yC 32 (WI l a o) oz) ?_
 by_cases h1:(Pi.rightB l a o)=true
 ·refine qT (congrArg Bool.not h1)<|qE<|qA ?_
  have hr:=Pi.rightB_iff.1 h1
  have hl1:=qap l
  have hl2:=jD (o:=o) (by omega) (by omega)
  refine qK mxd [.k1,.n,.d,.r] [ps 4 se]<|qA<|qA<|qK mxd [.k2,.n,.r] [ps 9 (iv a)]<|qU<|qA<|qK mxd [.k3,.n,.r] [ps 10 (bv (decide (a=1)))] ?_
  by_cases h2:a=1
  ·refine qQ (zO h2)<|qK mxd [.k1,.d,.n,.d,.d,.r] [ps 4 (sv (st ([226,153,175]:TX)))]<|zE<|qA<|wQ mxd [(5,.val (.av (.string (st ((letB.drop l.toNat).take 1))))),(7,.val (.av (.string (st (((letB.drop l.toNat).take 1)++([226,153,175]:TX)))))),(10,.call [] [(iv o)] [] (sv (st (Lib.itoa o))) []),(11,.val (.av (.string (st ((((letB.drop l.toNat).take 1)++([226,153,175]:TX))++(Lib.itoa o))))))] (bfr [(0,0),(0,1),(0,0),(2,1),(2,2),(0,5),(0,0),(0,7),(0,0),(8,1),(8,2),(0,11),(0,12),(0,13)]) [([44],[2]),([46],[1,44]),([48],[2]),([50],[1,48]),([52],[50]),([54],[46,52]),([56],[8]),([58],[54,56]),([60],[2]),([62],[1,60]),([64],[62]),([66],[58,64]),([4],[66]),([6],[])] [ps 2 (sv (st ((((letB.drop l.toNat).take 1)++([226,153,175]:TX))++(Lib.itoa o)))),ps 3 (iv 0)] (oi (l+1) (by omega) (oc (by first|omega|(simp <;> omega):(0:Int)≤l∧l≤(l+1)∧(l+1)≤((([67,68,69,70,71,65,66]:TX).length:Nat):Int)) (oc (jJ (by omega):(st ([67,68,69,70,71,65,66]:TX)).extract (l:Int).toNat ((l+1):Int).toNat=st ((letB.drop l.toNat).take 1)) (oc (by first|omega|(simp <;> omega):((((letB.drop l.toNat).take 1).length+([226,153,175]:TX).length:Nat):Int)≤9223372036854775807) (oc (qJ _ _:st ((letB.drop l.toNat).take 1)++st ([226,153,175]:TX)=st (((letB.drop l.toNat).take 1)++([226,153,175]:TX))) (yC 176 (zx o (by omega) (by omega)) (oc (by first|omega|(simp <;> omega):(((((letB.drop l.toNat).take 1)++([226,153,175]:TX)).length+(Lib.itoa o).length:Nat):Int)≤9223372036854775807) (oc (qJ _ _:st (((letB.drop l.toNat).take 1)++([226,153,175]:TX))++st (Lib.itoa o)=st ((((letB.drop l.toNat).take 1)++([226,153,175]:TX))++(Lib.itoa o))) oz)))))))) ?_
   rw [vL (l:=l) (a:=a) (o:=o) (S:=([226,153,175]:TX)) h1 (by unfold VI;simp [*])]
   exact zy hc0 [2,3] []
  refine qT (zM h2)<|qA<|qK mxd [.k3,.d,.n,.r] [ps 12 (bv (decide (a=2)))] ?_
  by_cases h3:a=2
  ·refine qQ (zO h3)<|qK mxd [.k1,.d,.n,.d,.d,.r] [ps 4 (sv (st ([240,157,132,170]:TX)))]<|zE<|qA<|wQ mxd [(5,.val (.av (.string (st ((letB.drop l.toNat).take 1))))),(7,.val (.av (.string (st (((letB.drop l.toNat).take 1)++([240,157,132,170]:TX)))))),(10,.call [] [(iv o)] [] (sv (st (Lib.itoa o))) []),(11,.val (.av (.string (st ((((letB.drop l.toNat).take 1)++([240,157,132,170]:TX))++(Lib.itoa o))))))] (bfr [(0,0),(0,1),(0,0),(2,1),(2,2),(0,5),(0,0),(0,7),(0,0),(8,1),(8,2),(0,11),(0,12),(0,13)]) [([44],[2]),([46],[1,44]),([48],[2]),([50],[1,48]),([52],[50]),([54],[46,52]),([56],[8]),([58],[54,56]),([60],[2]),([62],[1,60]),([64],[62]),([66],[58,64]),([4],[66]),([6],[])] [ps 2 (sv (st ((((letB.drop l.toNat).take 1)++([240,157,132,170]:TX))++(Lib.itoa o)))),ps 3 (iv 0)] (oi (l+1) (by omega) (oc (by first|omega|(simp <;> omega):(0:Int)≤l∧l≤(l+1)∧(l+1)≤((([67,68,69,70,71,65,66]:TX).length:Nat):Int)) (oc (jJ (by omega):(st ([67,68,69,70,71,65,66]:TX)).extract (l:Int).toNat ((l+1):Int).toNat=st ((letB.drop l.toNat).take 1)) (oc (by first|omega|(simp <;> omega):((((letB.drop l.toNat).take 1).length+([240,157,132,170]:TX).length:Nat):Int)≤9223372036854775807) (oc (qJ _ _:st ((letB.drop l.toNat).take 1)++st ([240,157,132,170]:TX)=st (((letB.drop l.toNat).take 1)++([240,157,132,170]:TX))) (yC 192 (zx o (by omega) (by omega)) (oc (by first|omega|(simp <;> omega):(((((letB.drop l.toNat).take 1)++([240,157,132,170]:TX)).length+(Lib.itoa o).length:Nat):Int)≤9223372036854775807) (oc (qJ _ _:st (((letB.drop l.toNat).take 1)++([240,157,132,170]:TX))++st (Lib.itoa o)=st ((((letB.drop l.toNat).take 1)++([240,157,132,170]:TX))++(Lib.itoa o))) oz)))))))) ?_
   rw [vL (l:=l) (a:=a) (o:=o) (S:=([240,157,132,170]:TX)) h1 (by unfold VI;simp [*])]
   exact zy hc0 [2,3] []
  refine qT (zM h3)<|qA<|qK mxd [.k3,.d,.n,.r] [ps 14 (bv (decide (a=3)))] ?_
  by_cases h4:a=3
  ·refine qQ (zO h4)<|qK mxd [.k1,.d,.n,.d,.d,.r] [ps 4 (sv (st ([240,157,132,170,226,153,175]:TX)))]<|zE<|qA<|wQ mxd [(5,.val (.av (.string (st ((letB.drop l.toNat).take 1))))),(7,.val (.av (.string (st (((letB.drop l.toNat).take 1)++([240,157,132,170,226,153,175]:TX)))))),(10,.call [] [(iv o)] [] (sv (st (Lib.itoa o))) []),(11,.val (.av (.string (st ((((letB.drop l.toNat).take 1)++([240,157,132,170,226,153,175]:TX))++(Lib.itoa o))))))] (bfr [(0,0),(0,1),(0,0),(2,1),(2,2),(0,5),(0,0),(0,7),(0,0),(8,1),(8,2),(0,11),(0,12),(0,13)]) [([44],[2]),([46],[1,44]),([48],[2]),([50],[1,48]),([52],[50]),([54],[46,52]),([56],[8]),([58],[54,56]),([60],[2]),([62],[1,60]),([64],[62]),([66],[58,64]),([4],[66]),([6],[])] [ps 2 (sv (st ((((letB.drop l.toNat).take 1)++([240,157,132,170,226,153,175]:TX))++(Lib.itoa o)))),ps 3 (iv 0)] (oi (l+1) (by omega) (oc (by first|omega|(simp <;> omega):(0:Int)≤l∧l≤(l+1)∧(l+1)≤((([67,68,69,70,71,65,66]:TX).length:Nat):Int)) (oc (jJ (by omega):(st ([67,68,69,70,71,65,66]:TX)).extract (l:Int).toNat ((l+1):Int).toNat=st ((letB.drop l.toNat).take 1)) (oc (by first|omega|(simp <;> omega):((((letB.drop l.toNat).take 1).length+([240,157,132,170,226,153,175]:TX).length:Nat):Int)≤9223372036854775807) (oc (qJ _ _:st ((letB.drop l.toNat).take 1)++st ([240,157,132,170,226,153,175]:TX)=st (((letB.drop l.toNat).take 1)++([240,157,132,170,226,153,175]:TX))) (yC 208 (zx o (by omega) (by omega)) (oc (by first|omega|(simp <;> omega):(((((letB.drop l.toNat).take 1)++([240,157,132,170,226,153,175]:TX)).length+(Lib.itoa o).length:Nat):Int)≤9223372036854775807) (oc (qJ _ _:st (((letB.drop l.toNat).take 1)++([240,157,132,170,226,153,175]:TX))++st (Lib.itoa o)=st ((((letB.drop l.toNat).take 1)++([240,157,132,170,226,153,175]:TX))++(Lib.itoa o))) oz)))))))) ?_
   rw [vL (l:=l) (a:=a) (o:=o) (S:=([240,157,132,170,226,153,175]:TX)) h1 (by unfold VI;simp [*])]
   exact zy hc0 [2,3] []
  refine qT (zM h4)<|qA<|qK mxd [.k3,.d,.n,.r] [ps 16 (bv (decide (a=(-1))))] ?_
  by_cases h5:a=(-1)
  ·refine qQ (zO h5)<|qK mxd [.k1,.d,.n,.d,.d,.r] [ps 4 (sv (st ([226,153,173]:TX)))]<|zE<|qA<|wQ mxd [(5,.val (.av (.string (st ((letB.drop l.toNat).take 1))))),(7,.val (.av (.string (st (((letB.drop l.toNat).take 1)++([226,153,173]:TX)))))),(10,.call [] [(iv o)] [] (sv (st (Lib.itoa o))) []),(11,.val (.av (.string (st ((((letB.drop l.toNat).take 1)++([226,153,173]:TX))++(Lib.itoa o))))))] (bfr [(0,0),(0,1),(0,0),(2,1),(2,2),(0,5),(0,0),(0,7),(0,0),(8,1),(8,2),(0,11),(0,12),(0,13)]) [([44],[2]),([46],[1,44]),([48],[2]),([50],[1,48]),([52],[50]),([54],[46,52]),([56],[8]),([58],[54,56]),([60],[2]),([62],[1,60]),([64],[62]),([66],[58,64]),([4],[66]),([6],[])] [ps 2 (sv (st ((((letB.drop l.toNat).take 1)++([226,153,173]:TX))++(Lib.itoa o)))),ps 3 (iv 0)] (oi (l+1) (by omega) (oc (by first|omega|(simp <;> omega):(0:Int)≤l∧l≤(l+1)∧(l+1)≤((([67,68,69,70,71,65,66]:TX).length:Nat):Int)) (oc (jJ (by omega):(st ([67,68,69,70,71,65,66]:TX)).extract (l:Int).toNat ((l+1):Int).toNat=st ((letB.drop l.toNat).take 1)) (oc (by first|omega|(simp <;> omega):((((letB.drop l.toNat).take 1).length+([226,153,173]:TX).length:Nat):Int)≤9223372036854775807) (oc (qJ _ _:st ((letB.drop l.toNat).take 1)++st ([226,153,173]:TX)=st (((letB.drop l.toNat).take 1)++([226,153,173]:TX))) (yC 224 (zx o (by omega) (by omega)) (oc (by first|omega|(simp <;> omega):(((((letB.drop l.toNat).take 1)++([226,153,173]:TX)).length+(Lib.itoa o).length:Nat):Int)≤9223372036854775807) (oc (qJ _ _:st (((letB.drop l.toNat).take 1)++([226,153,173]:TX))++st (Lib.itoa o)=st ((((letB.drop l.toNat).take 1)++([226,153,173]:TX))++(Lib.itoa o))) oz)))))))) ?_
   rw [vL (l:=l) (a:=a) (o:=o) (S:=([226,153,173]:TX)) h1 (by unfold VI;simp [*])]
   exact zy hc0 [2,3] []
  refine qT (zM h5)<|qA<|qK mxd [.k3,.d,.n,.r] [ps 18 (bv (decide (a=(-2))))] ?_
  by_cases h6:a=(-2)
  ·refine qQ (zO h6)<|qK mxd [.k1,.d,.n,.d,.d,.r] [ps 4 (sv (st ([240,157,132,171]:TX)))]<|zE<|qA<|wQ mxd [(5,.val (.av (.string (st ((letB.drop l.toNat).take 1))))),(7,.val (.av (.string (st (((letB.drop l.toNat).take 1)++([240,157,132,171]:TX)))))),(10,.call [] [(iv o)] [] (sv (st (Lib.itoa o))) []),(11,.val (.av (.string (st ((((letB.drop l.toNat).take 1)++([240,157,132,171]:TX))++(Lib.itoa o))))))] (bfr [(0,0),(0,1),(0,0),(2,1),(2,2),(0,5),(0,0),(0,7),(0,0),(8,1),(8,2),(0,11),(0,12),(0,13)]) [([44],[2]),([46],[1,44]),([48],[2]),([50],[1,48]),([52],[50]),([54],[46,52]),([56],[8]),([58],[54,56]),([60],[2]),([62],[1,60]),([64],[62]),([66],[58,64]),([4],[66]),([6],[])] [ps 2 (sv (st ((((letB.drop l.toNat).take 1)++([240,157,132,171]:TX))++(Lib.itoa o)))),ps 3 (iv 0)] (oi (l+1) (by omega) (oc (by first|omega|(simp <;> omega):(0:Int)≤l∧l≤(l+1)∧(l+1)≤((([67,68,69,70,71,65,66]:TX).length:Nat):Int)) (oc (jJ (by omega):(st ([67,68,69,70,71,65,66]:TX)).extract (l:Int).toNat ((l+1):Int).toNat=st ((letB.drop l.toNat).take 1)) (oc (by first|omega|(simp <;> omega):((((letB.drop l.toNat).take 1).length+([240,157,132,171]:TX).length:Nat):Int)≤9223372036854775807) (oc (qJ _ _:st ((letB.drop l.toNat).take 1)++st ([240,157,132,171]:TX)=st (((letB.drop l.toNat).take 1)++([240,157,132,171]:TX))) (yC 240 (zx o (by omega) (by omega)) (oc (by first|omega|(simp <;> omega):(((((letB.drop l.toNat).take 1)++([240,157,132,171]:TX)).length+(Lib.itoa o).length:Nat):Int)≤9223372036854775807) (oc (qJ _ _:st (((letB.drop l.toNat).take 1)++([240,157,132,171]:TX))++st (Lib.itoa o)=st ((((letB.drop l.toNat).take 1)++([240,157,132,171]:TX))++(Lib.itoa o))) oz)))))))) ?_
   rw [vL (l:=l) (a:=a) (o:=o) (S:=([240,157,132,171]:TX)) h1 (by unfold VI;simp [*])]
   exact zy hc0 [2,3] []
  refine qT (zM h6)<|qA<|qK mxd [.k2,.d,.d,.n,.r] [ps 20 (bv (decide (a=(-3))))] ?_
  by_cases h7:a=(-3)
  ·refine qQ (zO h7)<|qK mxd [.k1,.d,.n,.d,.r] [ps 4 (sv (st ([240,157,132,171,226,153,173]:TX)))]<|zE<|qA<|wQ mxd [(5,.val (.av (.string (st ((letB.drop l.toNat).take 1))))),(7,.val (.av (.string (st (((letB.drop l.toNat).take 1)++([240,157,132,171,226,153,173]:TX)))))),(10,.call [] [(iv o)] [] (sv (st (Lib.itoa o))) []),(11,.val (.av (.string (st ((((letB.drop l.toNat).take 1)++([240,157,132,171,226,153,173]:TX))++(Lib.itoa o))))))] (bfr [(0,0),(0,1),(0,0),(2,1),(2,2),(0,5),(0,0),(0,7),(0,0),(8,1),(8,2),(0,11),(0,12),(0,13)]) [([44],[2]),([46],[1,44]),([48],[2]),([50],[1,48]),([52],[50]),([54],[46,52]),([56],[8]),([58],[54,56]),([60],[2]),([62],[1,60]),([64],[62]),([66],[58,64]),([4],[66]),([6],[])] [ps 2 (sv (st ((((letB.drop l.toNat).take 1)++([240,157,132,171,226,153,173]:TX))++(Lib.itoa o)))),ps 3 (iv 0)] (oi (l+1) (by omega) (oc (by first|omega|(simp <;> omega):(0:Int)≤l∧l≤(l+1)∧(l+1)≤((([67,68,69,70,71,65,66]:TX).length:Nat):Int)) (oc (jJ (by omega):(st ([67,68,69,70,71,65,66]:TX)).extract (l:Int).toNat ((l+1):Int).toNat=st ((letB.drop l.toNat).take 1)) (oc (by first|omega|(simp <;> omega):((((letB.drop l.toNat).take 1).length+([240,157,132,171,226,153,173]:TX).length:Nat):Int)≤9223372036854775807) (oc (qJ _ _:st ((letB.drop l.toNat).take 1)++st ([240,157,132,171,226,153,173]:TX)=st (((letB.drop l.toNat).take 1)++([240,157,132,171,226,153,173]:TX))) (yC 256 (zx o (by omega) (by omega)) (oc (by first|omega|(simp <;> omega):(((((letB.drop l.toNat).take 1)++([240,157,132,171,226,153,173]:TX)).length+(Lib.itoa o).length:Nat):Int)≤9223372036854775807) (oc (qJ _ _:st (((letB.drop l.toNat).take 1)++([240,157,132,171,226,153,173]:TX))++st (Lib.itoa o)=st ((((letB.drop l.toNat).take 1)++([240,157,132,171,226,153,173]:TX))++(Lib.itoa o))) oz)))))))) ?_
   rw [vL (l:=l) (a:=a) (o:=o) (S:=([240,157,132,171,226,153,173]:TX)) h1 (by unfold VI;simp [*])]
   exact zy hc0 [2,3] []
  refine qT (zM h7)<|qE<|zE<|qA<|wQ mxd [(5,.val (.av (.string (st ((letB.drop l.toNat).take 1))))),(7,.val (.av (.string (st (((letB.drop l.toNat).take 1)++([]:TX)))))),(10,.call [] [(iv o)] [] (sv (st (Lib.itoa o))) []),(11,.val (.av (.string (st ((((letB.drop l.toNat).take 1)++([]:TX))++(Lib.itoa o))))))] (bfr [(0,0),(0,1),(0,0),(2,1),(2,2),(0,5),(0,0),(0,7),(0,0),(8,1),(8,2),(0,11),(0,12),(0,13)]) [([44],[2]),([46],[1,44]),([48],[2]),([50],[1,48]),([52],[50]),([54],[46,52]),([56],[8]),([58],[54,56]),([60],[2]),([62],[1,60]),([64],[62]),([66],[58,64]),([4],[66]),([6],[])] [ps 2 (sv (st ((((letB.drop l.toNat).take 1)++([]:TX))++(Lib.itoa o)))),ps 3 (iv 0)] (oi (l+1) (by omega) (oc (by first|omega|(simp <;> omega):(0:Int)≤l∧l≤(l+1)∧(l+1)≤((([67,68,69,70,71,65,66]:TX).length:Nat):Int)) (oc (jJ (by omega):(st ([67,68,69,70,71,65,66]:TX)).extract (l:Int).toNat ((l+1):Int).toNat=st ((letB.drop l.toNat).take 1)) (oc (by first|omega|(simp <;> omega):((((letB.drop l.toNat).take 1).length+([]:TX).length:Nat):Int)≤9223372036854775807) (oc (qJ _ _:st ((letB.drop l.toNat).take 1)++st ([]:TX)=st (((letB.drop l.toNat).take 1)++([]:TX))) (yC 248 (zx o (by omega) (by omega)) (oc (by first|omega|(simp <;> omega):(((((letB.drop l.toNat).take 1)++([]:TX)).length+(Lib.itoa o).length:Nat):Int)≤9223372036854775807) (oc (qJ _ _:st (((letB.drop l.toNat).take 1)++([]:TX))++st (Lib.itoa o)=st ((((letB.drop l.toNat).take 1)++([]:TX))++(Lib.itoa o))) oz)))))))) ?_
  rw [vL (l:=l) (a:=a) (o:=o) (S:=([]:TX)) h1 (by unfold VI;simp [*])]
  exact zy hc0 [2,3] []
 refine qQ (congrArg Bool.not (Bool.eq_false_iff.2 h1))<|qA<|qj mxd [] [ps 2 se,ps 3 (iv 2)] (oz) ?_
 rw [qhh (l:=l) (a:=a) (o:=o) h1]
 exact zy hc0 [2,3] []
end Go.Proofs.YtmlnilkbolcknaaGreatDoor.Pm
namespace Go.Proofs
open Go.Shelf
def Tryz.lays195_ren:Go.Shelf.Ren:=⟨fun|195=>119|n=>n,fun|9=>9|3=>3|0=>0|4=>4|n=>n,fun|n=>n⟩
theorem Tryz.lays195:Go.Proofs.Lays.n195 Tryz.prog Tryz.lays195_ren:={
  mixed:=by kernel_rfl,
  f195:=Tryz.func119.trans (congrArg some (by kernel_rfl)),
  t0:=Tryz.underlying0,
  a0:=Tryz.isAgg0,
  z0:=Tryz.sizeOf0,
  v0:=Tryz.zeroValue0,
  t3:=Tryz.underlying3,
  a3:=Tryz.isAgg3,
  z3:=Tryz.sizeOf3,
  v3:=Tryz.zeroValue3,
  t4:=Tryz.underlying4,
  a4:=Tryz.isAgg4,
  z4:=Tryz.sizeOf4,
  v4:=Tryz.zeroValue4,
  t9:=Tryz.underlying9,
  a9:=Tryz.isAgg9,
  z9:=Tryz.sizeOf9,
  v9:=Tryz.zeroValue9 }
end Go.Proofs
namespace Go.Proofs.YtmlnilkbolcknaaGreatDoor.Pm
open Go Go.RowKit
theorem runes_pc (s:List UInt8) (hs:s.length<9223372036854775807):PC Tryz.prog 119 [sv (st s)] [] (iv (ZW s:Nat)) [] :=
 vC (wF Tryz.func119 (by kernel_rfl) (by kernel_rfl)) rfl rfl fun w=>(Any.utf8_RuneCountInString Tryz.lays195 (st s) w hs).mono fun e w' ⟨h1,pos,h2⟩=>⟨h1,h2▸(Below.refl _ _).alloc (Nat.le_refl _) _⟩
end Go.Proofs.YtmlnilkbolcknaaGreatDoor.Pm
set_option maxRecDepth 100000
set_option maxHeartbeats 4000000
namespace Go.Proofs.YtmlnilkbolcknaaGreatDoor.Pm
open Go Go.Proofs.YtmlnilkbolcknaaGreatDoor.Pi
theorem vname_pc (s:List UInt8) (hs:s.length≤9223372036854775807):PC Tryz.prog 23 [(sv (st s))] [] (bv (wU s)) []:=by
 refine zH Tryz.func23 rfl (by kernel_rfl) (Nat.le_of_ble_eq_true rfl) (by kernel_rfl) (l0:=[ps 0 (sv (st s))]) rfl (fun c0 Bor hc0=>?_)
 refine qA<|qK mxd [.r] []<|qA ?_
 by_cases h1:s=([]:TX)
 ·refine qj mxd ([(1,.val (.av (.bool (!decide (s=([]:TX))))))]++gn 3 3++[(6,.yes false)]++gn 8 3) [ps 2 (bv false)] (oc (jA _ _:(!((st s).toList == (st ([]:TX)).toList)) = !decide (s=([]:TX))) (on 4 (bt h1) (on 3 ff oz))) ?_
  rw [show wU s=false from by unfold wU;rw [Bool.eq_iff_iff];simp only [← qeh,decide_eq_true_eq,reduceCtorEq];constructor <;> intro hh <;> simp_all <;> omega]
  exact zy hc0 [2] []
 by_cases h2:(s.length:Int)≤32
 ·refine qj mxd ([(1,.val (.av (.bool (!decide (s=([]:TX))))))]++gy 3 3++[(6,.yes true),(8,.gd true .no),(9,.gd true (.call [] [(sv (st s)),(sv (st ([97,98,99,100,101,102,103,104,105,106,107,108,109,110,111,112,113,114,115,116,117,118,119,120,121,122]:TX)))] [] (sv (st (Lib.trimS s abc))) [])),(10,.gd true (.val (.av (.bool (decide ((Lib.trimS s abc)=([]:TX))))))),(11,.yes true)]) [ps 2 (bv (decide ((Lib.trimS s abc)=([]:TX))))] (oc (jA _ _:(!((st s).toList == (st ([]:TX)).toList)) = !decide (s=([]:TX))) (on 4 (bf h1) (on 2 (zO h2) (yC 80 (trim_pc s abc hs (by decide) abc_ascii) (oc (zO h2) (oc (QU _ _:((st (Lib.trimS s abc)).toList == (st ([]:TX)).toList)=decide ((Lib.trimS s abc)=([]:TX))) (oc (zO h2) oz))))))) ?_
  rw [show wU s=(decide ((Lib.trimS s abc)=([]:TX))) from by unfold wU;rw [Bool.eq_iff_iff];simp only [← qeh,decide_eq_true_eq,reduceCtorEq];constructor <;> intro hh <;> simp_all <;> omega]
  exact zy hc0 [2] []
 refine qj mxd ([(1,.val (.av (.bool (!decide (s=([]:TX))))))]++gy 3 3++[(6,.yes true)]++gn 8 3++[(11,.yes false)]) [ps 2 (bv false)] (oc (jA _ _:(!((st s).toList == (st ([]:TX)).toList)) = !decide (s=([]:TX))) (on 4 (bf h1) (on 4 (zM h2) oz))) ?_
 rw [show wU s=false from by unfold wU;rw [Bool.eq_iff_iff];simp only [← qeh,decide_eq_true_eq,reduceCtorEq];constructor <;> intro hh <;> simp_all <;> omega]
 exact zy hc0 [2] []
theorem fair_pc (r l:Int):PC Tryz.prog 120 [(.av (.int .i32 r)),(iv l)] [] (bv (wR r l)) []:=by
 refine zH Tryz.func120 rfl (by kernel_rfl) (Nat.le_of_ble_eq_true rfl) (by kernel_rfl) (l0:=[ps 0 (.av (.int .i32 r)),ps 1 (iv l)]) rfl (fun c0 Bor hc0=>?_)
 refine qA<|qK mxd [.r] []<|qA ?_
 by_cases h1:32≤r
 ·by_cases h2:r=34
  ·refine qj mxd (gy 3 2++[(5,.yes true)]++gn 7 2++[(9,.yes false)]++gn 11 3++[(16,.gd false .no)]) [ps 4 (bv false)] (on 3 (zO h1) (on 3 (bt h2) (on 4 ff oz))) ?_
   rw [show wR r l=false from by unfold wR;rw [Bool.eq_iff_iff];simp only [decide_eq_true_eq];constructor <;> intro hh <;> first|trivial|rfl|omega|(cases hh;done)]
   exact zy hc0 [4] []
  by_cases h3:r=127
  ·refine qj mxd (gy 3 2++[(5,.yes true)]++gy 7 2++[(9,.yes true)]++gn 11 3++[(16,.gd false .no),(17,.yes false)]) [ps 4 (bv false)] (on 3 (zO h1) (on 3 (bf h2) (on 5 (bt h3) oz))) ?_
   rw [show wR r l=false from by unfold wR;rw [Bool.eq_iff_iff];simp only [decide_eq_true_eq];constructor <;> intro hh <;> first|trivial|rfl|omega|(cases hh;done)]
   exact zy hc0 [4] []
  by_cases h4:r=65533
  ·refine qj mxd (gy 3 2++[(5,.yes true)]++gy 7 2++[(9,.yes true)]++gy 11 3++gn 14 2++[(16,.gd true (.yes false)),(17,.yes true)]) [ps 4 (bv (decide (1<l)))] (on 3 (zO h1) (on 3 (bf h2) (on 3 (bf h3) (on 2 (bt h4) (oc (bf h3) (oc (bt h4) (oc (bf h3) oz))))))) ?_
   rw [show wR r l=(decide (1<l)) from by unfold wR;rw [Bool.eq_iff_iff];simp only [decide_eq_true_eq];constructor <;> intro hh <;> first|trivial|rfl|omega|(cases hh;done)]
   exact zy hc0 [4] []
  refine qj mxd (gy 3 2++[(5,.yes true)]++gy 7 2++[(9,.yes true)]++gy 11 5++[(16,.gd true (.yes true)),(17,.yes true)]) [ps 4 (bv true)] (on 3 (zO h1) (on 3 (bf h2) (on 3 (bf h3) (on 2 (bf h4) (oc (bf h3) (oc (bf h4) (oc (bf h3) oz))))))) ?_
  rw [show wR r l=true from by unfold wR;rw [Bool.eq_iff_iff];simp only [decide_eq_true_eq];constructor <;> intro hh <;> first|trivial|rfl|omega|(cases hh;done)]
  exact zy hc0 [4] []
 refine qj mxd (gn 3 2++[(5,.yes false)]++gn 7 2++gn 11 3++[(16,.gd false .no)]) [ps 4 (bv false)] (on 3 (zM h1) (on 6 ff oz)) ?_
 rw [show wR r l=false from by unfold wR;rw [Bool.eq_iff_iff];simp only [decide_eq_true_eq];constructor <;> intro hh <;> first|trivial|rfl|omega|(cases hh;done)]
 exact zy hc0 [4] []
end Go.Proofs.YtmlnilkbolcknaaGreatDoor.Pm
namespace Go.Proofs.YtmlnilkbolcknaaGreatDoor.Pm
open Go Go.Proofs.YtmlnilkbolcknaaGreatDoor.Pi
theorem pc_yes {P:Program} {f:FuncId} {args:List PV} {H H1 H2:Hp} {r1 r2:PV} {c:Prop} [Decidable c] (h:PC P f args H (if c then r1 else r2) (if c then H1 else H2)) (hc:c):PC P f args H r1 H1:=by rwa [if_pos hc,if_pos hc] at h
theorem le_if {α:Type} {c:Prop} [Decidable c] {n:Nat} {A B:List α} (h1:n≤A.length) (h2:n≤B.length):n≤(if c then A else B).length:=by split <;> assumption
theorem pc_no {P:Program} {f:FuncId} {args:List PV} {H H1 H2:Hp} {r1 r2:PV} {c:Prop} [Decidable c] (h:PC P f args H (if c then r1 else r2) (if c then H1 else H2)) (hc:¬ c):PC P f args H r2 H2:=by rwa [if_neg hc,if_neg hc] at h
/-! ### the loops of an item -/
section
end
section
end
end Go.Proofs.YtmlnilkbolcknaaGreatDoor.Pm
namespace Go.Proofs.YtmlnilkbolcknaaGreatDoor.Pm
open Go Go.Proofs.YtmlnilkbolcknaaGreatDoor.Pi
section
end
end Go.Proofs.YtmlnilkbolcknaaGreatDoor.Pm
namespace Go.Proofs.YtmlnilkbolcknaaGreatDoor.Pm
open Go
theorem Heap.bare {E:Env} {nx:Nat→Prop} {c:Cx} {g:St} (h:Heap E nx c g) {k:Nat} (hk:∀ i x,E.c0.own i=some x→i<k):Heap E (· < k) ⟨c.w,c.S,E.c0.own⟩ (fun _=>none) :=
 { ids:=hk,blk:=fun i T cs h=>(by cases h),inj:=fun i j b T T' ⟨_,_,h⟩=>(by cases h),apart:=fun i b T ⟨_,_,h⟩=>(by cases h),bnd:=fun i b T hx=>h.bnd i b T (h.keep.own i _ hx),sok:=h.sok,os:=h.os,tape:=h.tape,output:=h.output,size:=h.size,same:=h.same,laid:=h.laid,s0:=h.s0,s1:=h.s1,keep:=⟨h.keep.S,fun _ _ h=>h,h.keep.shape⟩ }
section
end
end Go.Proofs.YtmlnilkbolcknaaGreatDoor.Pm
namespace Go.Proofs.YtmlnilkbolcknaaGreatDoor.Pm
open Go Go.Proofs.YtmlnilkbolcknaaGreatDoor.Pi
section
end
theorem abc_b {b:UInt8}:b∈abc↔¬ (((b.toNat:Nat):Int)<97∨122<(b.toNat:Int)):=by
 have h:∀ n:Fin 256,(UInt8.ofNat n.1∈abc↔¬ ((((UInt8.ofNat n.1).toNat:Nat):Int)<97∨122<(((UInt8.ofNat n.1).toNat:Nat):Int))):=by decide +kernel
 have:=h ⟨b.toNat,b.toNat_lt⟩
 simpa using this
theorem name_no {s:qP} {i:Nat} (hi:i<s.length) (h:((((s.getD i 0).toNat:Nat)):Int)<97∨122<((((s.getD i 0).toNat:Nat)):Int)):wU s=false:=by
 unfold wU
 refine decide_eq_false fun c=>?_
 have:=c.2.2 (s.getD i 0) (get_mem hi)
 rw [abc_b] at this
 exact this h
theorem name_is {s:qP} (h:∀ j,j<s.length→¬ (((((s.getD j 0).toNat:Nat)):Int)<97∨122<((((s.getD j 0).toNat:Nat)):Int))):wU s=decide (0<s.length∧s.length≤32):=by
 unfold wU
 rw [Bool.eq_iff_iff,decide_eq_true_eq,decide_eq_true_eq]
 constructor
 ·rintro ⟨h1,h2,_⟩
  exact ⟨List.length_pos_iff.2 h1,h2⟩
 ·rintro ⟨h1,h2⟩
  refine ⟨List.length_pos_iff.1 h1,h2,fun b hb=>?_⟩
  obtain ⟨j,hj,rfl⟩:=List.mem_iff_getElem.1 hb
  have:=h j hj
  rw [List.getD_eq_getElem?_getD,List.getElem?_eq_getElem hj,Option.getD_some] at this
  exact abc_b.2 this
/-! ### where a text is wrong lies inside it -/
set_option maxRecDepth 100000
set_option maxHeartbeats 4000000
theorem qname_pc (s:qP) (hs:s.length≤140737488351232):PC Tryz.prog 25 [(sv (st s))] [] (bv (wU s)) []:=by
 refine zH Tryz.func25 rfl (by kernel_rfl) (Nat.le_of_ble_eq_true rfl) (by kernel_rfl) (l0:=[ps 0 (sv (st s))]) rfl (fun c0 Bor hc0=>?_)
 refine qA<|qK mxd [.r] []<|qA<|qA<|qK mxd [.k1,.n] [ps 3 (iv 0)]<|qU<|yB (α:={x:Nat // x≤s.length∧(∀ j,j<x→¬ (((((s.getD j 0).toNat:Nat)):Int)<97∨122<((((s.getD j 0).toNat:Nat)):Int)))}) (fun x=>[ps 0 (sv (st s)),ps 3 (nv x.1)]) (fun x=>s.length-x.1) 0 ⟨0,⟨Nat.zero_le _,fun j hj=>absurd hj (Nat.not_lt_zero j)⟩⟩ (Wk.ren2 _ 0 hc0 [] rfl rfl (by kernel_rfl) (by kernel_rfl)) ?_
 rintro ⟨i,⟨hi,hno⟩⟩
 refine qA<|qA<|qj mxd [] [ps 0 (sv (st s)),ps 3 (nv i),ps 7 (bv (decide (((i:Nat):Int)<(s.length:Int))))] (oz) ?_
 by_cases h1:(i:Int)<(s.length:Int)
 ·refine qQ (zO h1)<|qE<|qA<|qU<|qA ?_
  by_cases h2:(((s.getD i 0).toNat:Nat):Int)<97
  ·refine zX mxd (gy 5 4++[(9,.yes true)]) [.k2,.d,.n] [ps 19 (bv true)] (oc (by first|omega|(simp <;> omega):(0:Int)≤(i:Int)∧(i:Int)<(s.length:Int)) (on 5 (zO h2) oz))<|yJ (b:=true) rfl rfl<|qA<|qj mxd [] [ps 2 (bv false)] (oz) ?_
   rw [name_no (s:=s) (i:=i) (by omega) (by omega)]
   exact zz fun cx_ a_ hI_=>qx (rt hc0 [ps 2 (bv false)] [] hI_)
  refine zX mxd (gn 5 4++[(9,.yes false)]) [.k2,.d,.n] [ps 19 (bv (decide (122<(((s.getD i 0).toNat:Nat):Int))))] (oc (by first|omega|(simp <;> omega):(0:Int)≤(i:Int)∧(i:Int)<(s.length:Int)) (on 3 (zM h2) (oc (by first|omega|(simp <;> omega):(0:Int)≤(i:Int)∧(i:Int)<(s.length:Int)) (on 2 (zM h2) oz)))) ?_
  by_cases h3:122<(((s.getD i 0).toNat:Nat):Int)
  ·refine qQ (zO h3)<|qA<|qj mxd [] [ps 2 (bv false)] (oz) ?_
   rw [name_no (s:=s) (i:=i) (by omega) (by omega)]
   exact zz fun cx_ a_ hI_=>qx (rt hc0 [ps 2 (bv false)] [] hI_)
  refine qT (zM h3)<|qE<|zE<|qj mxd [] [ps 0 (sv (st s)),ps 3 (iv (((i:Nat):Int)+1))] (oi (((i:Nat):Int)+1) (by omega) oz) ?_
  exact zQ ⟨i+1,⟨by show i+1≤s.length;omega,fun j hj=>(Nat.lt_or_ge j i).elim (hno j) fun hji=>by rw [show j=i by omega];omega⟩⟩ (Wk.trans (Wk.eq (show _=[ps 0 (sv (st s)),ps 3 (nv (i+1))] from by rfl)) (Wk.ren2 _ 0 hc0 [] rfl rfl (by kernel_rfl) (by kernel_rfl))) (show s.length-(i+1)<s.length-i from by show s.length-(i+1)<s.length-i;omega)
 refine qT (zM h1)<|zR rfl rfl<|qA ?_
 by_cases h4:0<(s.length:Int)
 ·refine qj mxd (gy 4 3++[(7,.yes true)]) [ps 2 (bv (decide (((s.length:Nat):Int)≤32)))] (on 4 (zO h4) oz) ?_
  rw [name_is (s:=s) fun j hj=>hno j (by omega),show decide (0<s.length∧s.length≤32)=(decide (((s.length:Nat):Int)≤32)) from by rw [Bool.eq_iff_iff];simp only [decide_eq_true_eq];omega]
  exact zy hc0 [2] []
 refine qj mxd (gn 4 3++[(7,.yes false)]) [ps 2 (bv false)] (on 4 (zM h4) oz) ?_
 rw [name_is (s:=s) fun j hj=>hno j (by omega),show decide (0<s.length∧s.length≤32)=false from zM (by omega)]
 exact zy hc0 [2] []
theorem sung_pc (s:List UInt8) (hs:s.length≤140737488351232):PC Tryz.prog 90 [(sv (st s))] [] (bv (vz s)) []:=by
 refine zH Tryz.func90 rfl (by kernel_rfl) (Nat.le_of_ble_eq_true rfl) (by kernel_rfl) (l0:=[ps 0 (sv (st s))]) rfl (fun c0 Bor hc0=>?_)
 refine qA<|qK mxd [.r] []<|qA<|qA<|vJ mxd 1 [.k1,.n] [ps 3 (nv (ZW s))] (yC 16 (runes_pc s (by omega)) oz)<|qA ?_
 by_cases h1:(ZW s:Int)<1
 ·refine zX mxd (gy 3 2++[(5,.yes true)]) [.k1,.d,.n] [ps 13 (bv true)] (on 3 (zO h1) oz)<|yJ (b:=true) rfl rfl<|qA<|qj mxd [] [ps 2 (bv false)] (oz) ?_
  rw [show vz s=false from by unfold vz;rw [zM (by omega),Bool.false_and]]
  exact zy hc0 [2] []
 refine zX mxd (gn 3 2++[(5,.yes false)]) [.k1,.d,.n] [ps 13 (bv (decide (100<(ZW s:Int))))] (on 3 (zM h1) oz) ?_
 by_cases h2:100<(ZW s:Int)
 ·refine qQ (zO h2)<|qA<|qj mxd [] [ps 2 (bv false)] (oz) ?_
  rw [show vz s=false from by unfold vz;rw [zM (by omega),Bool.false_and]]
  exact zy hc0 [2] []
 refine qT (zM h2)<|qE<|qA<|qU<|yB (α:={x:List UInt8 // x.length≤s.length∧vM x=vM s}) (fun x=>[ps 0 (sv (st x.1))]) (fun x=>x.1.length) 0 ⟨s,⟨Nat.le_refl _,rfl⟩⟩ (Wk.ren2 _ 0 hc0 [] rfl rfl (by kernel_rfl) (by kernel_rfl)) ?_
 rintro ⟨t,⟨ht1,ht2⟩⟩
 refine qA<|qA<|qj mxd [(1,.val (.av (.bool (!decide (t=([]:TX))))))] [ps 0 (sv (st t)),ps 15 (bv (!(decide (t=([]:TX)))))] (oc (jA _ _:(!((st t).toList == (st ([]:TX)).toList)) = !decide (t=([]:TX))) oz) ?_
 by_cases h3:t=([]:TX)
 ·refine qT (bt h3)<|zR rfl rfl<|qA<|qj mxd [] [ps 2 (bv true)] (oz) ?_
  rw [show vz s=true from by unfold vz;rw [← ht2,h3,qdl,Bool.and_true,decide_eq_true_eq];omega]
  exact zy hc0 [2] []
 refine qQ (bf h3)<|qE<|qU<|qA ?_
 have hdl:=qkh t
 refine ZE mxd 1 [ps 0 (sv (st t)),ps 4 (.av (.int .i32 (QP t:Int))),ps 5 (nv (vK t))] (yC 24 (decode_pc t) oz)<|qA<|qA<|vJ mxd 2 [.k1,.d,.k1,.n] [ps 24 (bv (!(wR (QP t:Int) (vK t:Int))))] (yC 88 (fair_pc _ _:PC Tryz.prog 120 [(.av (.int .i32 (QP t:Int))),(nv (vK t))] [] (bv (wR (QP t:Int) (vK t:Int))) []) oz) ?_
 by_cases h4:(wR (QP t:Int) (vK t:Int))=true
 ·refine qT (congrArg Bool.not h4)<|qE<|qj mxd [(2,.val (.av (.string (st (t.drop (vK t))))))] [ps 0 (sv (st (t.drop (vK t))))] (oc (by first|omega|(simp <;> omega):(0:Int)≤(vK t:Int)∧(vK t:Int)≤(t.length:Int)∧(t.length:Int)≤(t.length:Int)) (oc (st_from _ _ _ rfl:(st t).extract (((vK t:Nat):Int):Int).toNat (((t.length:Nat):Int):Int).toNat=st (t.drop (vK t))) oz))<|zE ?_
  have hfa:=Qq (s:=t) h3
  rw [h4,Bool.true_and] at hfa
  have hdp:=Zj (l:=t) h3
  exact zQ ⟨t.drop (vK t),⟨by rw [List.length_drop];omega,by rw [← hfa];exact ht2⟩⟩ (Wk.trans (Wk.eq (show _=[ps 0 (sv (st (t.drop (vK t))))] from by rfl)) (Wk.ren2 _ 0 hc0 [] rfl rfl (by kernel_rfl) (by kernel_rfl))) (show (t.drop (vK t)).length<t.length from by show (t.drop (vK t)).length<t.length;rw [List.length_drop];omega)
 refine qQ (congrArg Bool.not (Bool.eq_false_iff.2 h4))<|qA<|qj mxd [] [ps 2 (bv false)] (oz) ?_
 rw [show vz s=false from by unfold vz;rw [← ht2,Qq (s:=t) h3,eq_false_of_ne_true h4,Bool.false_and,Bool.and_false]]
 exact zz fun cx_ a_ hI_=>qx (rt hc0 [ps 2 (bv false)] [] hI_)
theorem wY (s:Int) (hs:0≤s):PC Tryz.prog 125 [(iv s)] [] (bv (qV s)) []:=by
 refine zH Tryz.func125 rfl (by kernel_rfl) (Nat.le_of_ble_eq_true rfl) (by kernel_rfl) (l0:=[ps 0 (iv s)]) rfl (fun c0 Bor hc0=>?_)
 refine qA<|qK mxd [.r] []<|qA<|qj mxd [] [ps 3 (iv ((s).tmod 7))] (oc (by decide:7≠(0:Int)) oz)<|qA<|qX (Wk.eq (show _=[ps 3 (iv (s % 7))] from by rw [Int.tmod_eq_emod_of_nonneg hs])) ?_
 by_cases h1:(s % 7)=0
 ·refine qj mxd (gy 3 2++[(5,.yes true)]++gy 7 2) [ps 2 (bv true)] (on 3 (zO h1) (on 2 tt oz)) ?_
  rw [show qV s=true from zO (by omega)]
  exact zy hc0 [2] []
 by_cases h2:(s % 7)=3
 ·refine qj mxd (gn 3 2++[(5,.yes false)]++gy 7 2++[(9,.yes true)]) [ps 2 (bv true)] (on 3 (zM h1) (on 3 (zO h2) oz)) ?_
  rw [show qV s=true from zO (by omega)]
  exact zy hc0 [2] []
 refine qj mxd (gn 3 2++[(5,.yes false)]++gn 7 2++[(9,.yes false)]) [ps 2 (bv (decide ((s % 7)=4)))] (on 3 (zM h1) (on 3 (zM h2) oz))<|qX (Wk.eq (show _=[ps 2 (bv (qV s))] from by rw [show decide ((s % 7)=4)=qV s from decide_eq_decide.2 (by omega)])) ?_
 exact zy hc0 [2] []
theorem qjp (s h:Int) (i1:Pi.I64 s) (i2:Pi.I64 h):PC Tryz.prog 91 [(.agg [(iv s),(iv h)])] [] (.tup [(sv (st ((qW s h).1))),(iv ((qW s h).2))]) []:=by
 refine zH Tryz.func91 rfl (by kernel_rfl) (Nat.le_of_ble_eq_true rfl) (by kernel_rfl) (l0:=[ps 0 (.agg [(iv s),(iv h)])]) rfl (fun c0 Bor hc0=>?_)
 refine qA<|qj mxd [] [ps 1 (.opt 0 0),pb 0 41 [(iv s),(iv h)]] (oz)<|qA<|qA<|vJ mxd 1 [.k1,.n,.r] [ps 11 (bv (!(Pi.withinB s h)))] (yC 32 (qez s h i1 i2) oz) ?_
 by_cases h1:(Pi.withinB s h)=true
 ·refine qT (congrArg Bool.not h1)<|qE<|qA<|qK mxd [.k1,.n,.d,.r] [ps 4 se]<|qA<|qA ?_
  have hw:=Pi.withinB_iff.1 h1
  by_cases h2:s<0
  ·refine zX mxd (gy 4 4++[(11,.gd true .no),(12,.yes true)]) [.k2,.n,.r] [ps 24 (bv true)] (on 6 (zO h2) oz)<|yJ (b:=true) rfl rfl<|qA<|qK mxd [.k1,.d,.n,.d,.r] [ps 4 (sv (st ([45]:TX)))]<|zX mxd [] [.k2,.d,.n] [pb 0 41 [(iv (0-s)),(iv (0-h))]] (oi (0-s) (by omega) (oi (0-h) (by omega) oz))<|qA ?_
   obtain ⟨x,hx⟩:∃ x,x=0-s:=⟨_,rfl⟩
   obtain ⟨y,hy⟩:∃ y,y=0-h:=⟨_,rfl⟩
   refine qX (Wk.eq (show _=[ps 1 (.opt 0 0),ps 4 (sv (st ([45]:TX))),pb 0 41 [(iv x),(iv y)]] from by rw [hx,hy])) ?_
   have hnb:=Pi.nat7_range (x % 7)
   have hl2:=jD (o:=x+1) (by omega) (by omega)
   refine vJ mxd 2 [.k2,.n,.n,.r] [ps 5 (iv (x / 7)),ps 6 (iv (x % 7))] (yC 264 (ZY x (by omega) (by omega)) oz)<|qA<|QJ mxd [(6,.call [] [(iv (x % 7))] [] (iv (Pi.nat7 (x % 7))) [])] (bfr [(0,0),(0,1),(0,0),(2,1),(0,4),(0,0),(5,1),(0,7),(0,8)]) [([78],[2]),([80],[1,78]),([82],[10]),([84],[82]),([86],[80,84]),([88],[12]),([90],[88]),([92],[86,90]),([14],[92])] [.k2,.d,.d,.n,.r] [ps 7 (iv ((y-(12*(x / 7)))-(Pi.nat7 (x % 7))))] (oi (12*(x / 7)) (by omega) (oi (y-(12*(x / 7))) (by omega) (yC 360 (YG (x % 7)) (oi ((y-(12*(x / 7)))-(Pi.nat7 (x % 7))) (by omega) oz))))<|qA ?_
   obtain ⟨m,hm⟩:∃ m,m=vZ x y:=⟨_,rfl⟩
   have hmb : -9000≤m∧m≤9000:=by rw [hm];unfold vZ;omega
   refine qX (Wk.eq (show _=[ps 1 (.opt 0 0),ps 4 (sv (st ([45]:TX))),ps 7 (iv m),pb 0 41 [(iv x),(iv y)]] from by rw [hm];rfl)) ?_
   refine qK mxd [.r] []<|qA<|qU<|qA<|qK mxd [.k3,.n,.r] [ps 52 (bv (decide (0<m)))] ?_
   by_cases h3:0<m
   ·refine qQ (zO h3)<|zX mxd [(2,.call [] [(sv (st ([65]:TX))),(nv ((min m 7).toNat))] [] (sv (st (Lib.repeatL ([65]:TX) ((min m 7).toNat)))) [])] [.k2,.d,.n,.d,.r] [ps 8 (sv (st (Lib.repeatL ([65]:TX) ((min m 7).toNat))))] (oc (vw ([65]:TX) ((min m 7).toNat) (by omega) (by simp only [List.length_cons,List.length_nil];omega)) (oc (congrArg (fun z=>[(sv (st ([65]:TX))),iv z]) (show min m 7=(((min m 7).toNat:Nat):Int) from by omega):[(sv (st ([65]:TX))),(iv (min m 7))]=qM (qY [] 432) [(sv (st ([65]:TX))),(nv ((min m 7).toNat))]) oz)) ?_
    refine zE<|qA<|qA<|qK mxd [.k3,.n,.r] [ps 82 (bv (decide (6<(((Lib.repeatL ([65]:TX) ((min m 7).toNat)).length:Nat):Int))))] ?_
    by_cases h4:6<(((Lib.repeatL ([65]:TX) ((min m 7).toNat)).length:Nat):Int)
    ·refine qQ (zO h4)<|qA<|qj mxd [] [ps 2 se,ps 3 (iv 3)] (oz) ?_
     rw [yX (s:=s) (h:=h) h1 (.inl h2) (Eq.trans (by rw [← hx,← hy]) (vT (by rw [← hm];exact (jy h3)) h4))]
     exact zy hc0 [2,3] []
    refine qT (zM h4)<|qE<|qA<|qj mxd [(2,.val (.av (.string (st (([45]:TX)++(Lib.repeatL ([65]:TX) ((min m 7).toNat))))))),(6,.call [] [(iv (x+1))] [] (sv (st (Lib.itoa (x+1)))) []),(7,.val (.av (.string (st ((([45]:TX)++(Lib.repeatL ([65]:TX) ((min m 7).toNat)))++(Lib.itoa (x+1)))))))] [ps 2 (sv (st ((([45]:TX)++(Lib.repeatL ([65]:TX) ((min m 7).toNat)))++(Lib.itoa (x+1))))),ps 3 (iv 0)] (oc (by first|omega|(simp <;> omega):((([45]:TX).length+(Lib.repeatL ([65]:TX) ((min m 7).toNat)).length:Nat):Int)≤9223372036854775807) (oc (qJ _ _:st ([45]:TX)++st (Lib.repeatL ([65]:TX) ((min m 7).toNat))=st (([45]:TX)++(Lib.repeatL ([65]:TX) ((min m 7).toNat)))) (oi (x+1) (by omega) (yC 520 (zx (x+1) (by omega) (by omega)) (oc (by first|omega|(simp <;> omega):(((([45]:TX)++(Lib.repeatL ([65]:TX) ((min m 7).toNat))).length+(Lib.itoa (x+1)).length:Nat):Int)≤9223372036854775807) (oc (qJ _ _:st (([45]:TX)++(Lib.repeatL ([65]:TX) ((min m 7).toNat)))++st (Lib.itoa (x+1))=st ((([45]:TX)++(Lib.repeatL ([65]:TX) ((min m 7).toNat)))++(Lib.itoa (x+1)))) oz)))))) ?_
    rw [yX (s:=s) (h:=h) h1 (.inl h2) (Eq.trans (by rw [← hx,← hy]) (yT (by rw [← hm];exact (jy h3)) h4))]
    exact zy hc0 [2,3] []
   refine qT (zM h3)<|qA ?_
   by_cases h5:m=0
   ·refine zX mxd (gy 3 2++[(5,.gd true (.call [] [(iv x)] [] (bv (qV x)) [])),(6,.yes true)]) [.k3,.d,.n,.r] [ps 58 (bv (qV x))] (on 3 (zO h5) (yC 456 (wY x (by omega)) (oc (zO h5) oz))) ?_
    by_cases h6:(qV x)=true
    ·refine yJ (b:=(qV x)) rfl h6<|qK mxd [.k2,.d,.n,.d,.r] [ps 8 (sv (st ([80]:TX)))]<|zE<|qA<|qA<|qK mxd [.k3,.n,.r] [ps 82 (bv false)]<|zj (b:=false) rfl rfl<|qE<|qA<|qj mxd [(2,.val (.av (.string (st (([45]:TX)++([80]:TX)))))),(6,.call [] [(iv (x+1))] [] (sv (st (Lib.itoa (x+1)))) []),(7,.val (.av (.string (st ((([45]:TX)++([80]:TX))++(Lib.itoa (x+1)))))))] [ps 2 (sv (st ((([45]:TX)++([80]:TX))++(Lib.itoa (x+1))))),ps 3 (iv 0)] (oc (by first|omega|(simp <;> omega):((([45]:TX).length+([80]:TX).length:Nat):Int)≤9223372036854775807) (oc (qJ _ _:st ([45]:TX)++st ([80]:TX)=st (([45]:TX)++([80]:TX))) (oi (x+1) (by omega) (yC 560 (zx (x+1) (by omega) (by omega)) (oc (by first|omega|(simp <;> omega):(((([45]:TX)++([80]:TX)).length+(Lib.itoa (x+1)).length:Nat):Int)≤9223372036854775807) (oc (qJ _ _:st (([45]:TX)++([80]:TX))++st (Lib.itoa (x+1))=st ((([45]:TX)++([80]:TX))++(Lib.itoa (x+1)))) oz)))))) ?_
     rw [yX (s:=s) (h:=h) h1 (.inl h2) (Eq.trans (by rw [← hx,← hy]) (yT (q:=[80]) (by rw [← hm];exact (VP h5 h6)) (by decide)))]
     exact zy hc0 [2,3] []
    refine zj (b:=(qV x)) rfl (Bool.eq_false_iff.2 h6)<|qA<|qK mxd [.k3,.d,.n,.r] [ps 66 (bv (decide (m=0)))]<|qQ (zO h5)<|qK mxd [.k2,.d,.n,.d,.r] [ps 8 (sv (st ([77]:TX)))]<|zE<|qA<|qA<|qK mxd [.k3,.n,.r] [ps 82 (bv false)]<|zj (b:=false) rfl rfl<|qE<|qA<|qj mxd [(2,.val (.av (.string (st (([45]:TX)++([77]:TX)))))),(6,.call [] [(iv (x+1))] [] (sv (st (Lib.itoa (x+1)))) []),(7,.val (.av (.string (st ((([45]:TX)++([77]:TX))++(Lib.itoa (x+1)))))))] [ps 2 (sv (st ((([45]:TX)++([77]:TX))++(Lib.itoa (x+1))))),ps 3 (iv 0)] (oc (by first|omega|(simp <;> omega):((([45]:TX).length+([77]:TX).length:Nat):Int)≤9223372036854775807) (oc (qJ _ _:st ([45]:TX)++st ([77]:TX)=st (([45]:TX)++([77]:TX))) (oi (x+1) (by omega) (yC 584 (zx (x+1) (by omega) (by omega)) (oc (by first|omega|(simp <;> omega):(((([45]:TX)++([77]:TX)).length+(Lib.itoa (x+1)).length:Nat):Int)≤9223372036854775807) (oc (qJ _ _:st (([45]:TX)++([77]:TX))++st (Lib.itoa (x+1))=st ((([45]:TX)++([77]:TX))++(Lib.itoa (x+1)))) oz)))))) ?_
    rw [yX (s:=s) (h:=h) h1 (.inl h2) (Eq.trans (by rw [← hx,← hy]) (yT (q:=[77]) (by rw [← hm];exact (qey h5 h6)) (by decide)))]
    exact zy hc0 [2,3] []
   refine zX mxd (gn 3 3++[(6,.yes false)]) [.k3,.d,.n,.r] [ps 58 (bv false)] (on 4 (zM h5) oz)<|zj (b:=false) rfl rfl<|qA<|qK mxd [.k3,.d,.n,.r] [ps 66 (bv (decide (m=0)))]<|qT (zM h5)<|qA<|vJ mxd 2 [.k3,.d,.n,.r] [ps 69 (bv (qV x))] (yC 520 (wY x (by omega)) oz) ?_
   by_cases h7:(qV x)=true
   ·refine yJ (b:=(qV x)) rfl h7<|zX mxd [(3,.call [] [(sv (st ([100]:TX))),(nv ((min (0-m) 7).toNat))] [] (sv (st (Lib.repeatL ([100]:TX) ((min (0-m) 7).toNat)))) [])] [.k2,.d,.n,.d,.r] [ps 8 (sv (st (Lib.repeatL ([100]:TX) ((min (0-m) 7).toNat))))] (oi (0-m) (by omega) (oc (vw ([100]:TX) ((min (0-m) 7).toNat) (by omega) (by simp only [List.length_cons,List.length_nil];omega)) (oc (congrArg (fun z=>[(sv (st ([100]:TX))),iv z]) (show min (0-m) 7=(((min (0-m) 7).toNat:Nat):Int) from by omega):[(sv (st ([100]:TX))),(iv (min (0-m) 7))]=qM (qY [] 560) [(sv (st ([100]:TX))),(nv ((min (0-m) 7).toNat))]) oz))) ?_
    refine zE<|qA<|qA<|qK mxd [.k3,.n,.r] [ps 82 (bv (decide (6<(((Lib.repeatL ([100]:TX) ((min (0-m) 7).toNat)).length:Nat):Int))))] ?_
    by_cases h8:6<(((Lib.repeatL ([100]:TX) ((min (0-m) 7).toNat)).length:Nat):Int)
    ·refine qQ (zO h8)<|qA<|qj mxd [] [ps 2 se,ps 3 (iv 3)] (oz) ?_
     rw [yX (s:=s) (h:=h) h1 (.inl h2) (Eq.trans (by rw [← hx,← hy]) (vT (by rw [← hm];exact (ZP h3 h5 h7)) h8))]
     exact zy hc0 [2,3] []
    refine qT (zM h8)<|qE<|qA<|qj mxd [(2,.val (.av (.string (st (([45]:TX)++(Lib.repeatL ([100]:TX) ((min (0-m) 7).toNat))))))),(6,.call [] [(iv (x+1))] [] (sv (st (Lib.itoa (x+1)))) []),(7,.val (.av (.string (st ((([45]:TX)++(Lib.repeatL ([100]:TX) ((min (0-m) 7).toNat)))++(Lib.itoa (x+1)))))))] [ps 2 (sv (st ((([45]:TX)++(Lib.repeatL ([100]:TX) ((min (0-m) 7).toNat)))++(Lib.itoa (x+1))))),ps 3 (iv 0)] (oc (by first|omega|(simp only [List.length_append,List.length_cons,List.length_nil];omega):((([45]:TX).length+(Lib.repeatL ([100]:TX) ((min (0-m) 7).toNat)).length:Nat):Int)≤9223372036854775807) (oc (qJ _ _:st ([45]:TX)++st (Lib.repeatL ([100]:TX) ((min (0-m) 7).toNat))=st (([45]:TX)++(Lib.repeatL ([100]:TX) ((min (0-m) 7).toNat)))) (oi (x+1) (by omega) (yC 648 (zx (x+1) (by omega) (by omega)) (oc (by first|omega|(simp only [List.length_append,List.length_cons,List.length_nil];omega):(((([45]:TX)++(Lib.repeatL ([100]:TX) ((min (0-m) 7).toNat))).length+(Lib.itoa (x+1)).length:Nat):Int)≤9223372036854775807) (oc (qJ _ _:st (([45]:TX)++(Lib.repeatL ([100]:TX) ((min (0-m) 7).toNat)))++st (Lib.itoa (x+1))=st ((([45]:TX)++(Lib.repeatL ([100]:TX) ((min (0-m) 7).toNat)))++(Lib.itoa (x+1)))) oz)))))) ?_
    rw [yX (s:=s) (h:=h) h1 (.inl h2) (Eq.trans (by rw [← hx,← hy]) (yT (by rw [← hm];exact (ZP h3 h5 h7)) h8))]
    exact zy hc0 [2,3] []
   refine zj (b:=(qV x)) rfl (Bool.eq_false_iff.2 h7)<|qA<|qK mxd [.k3,.d,.n,.r] [ps 77 (bv (decide (m=(-1))))] ?_
   by_cases h9:m=(-1)
   ·refine qQ (zO h9)<|qK mxd [.k2,.d,.n,.d,.r] [ps 8 (sv (st ([109]:TX)))]<|zE<|qA<|qA<|qK mxd [.k3,.n,.r] [ps 82 (bv false)]<|zj (b:=false) rfl rfl<|qE<|qA<|qj mxd [(2,.val (.av (.string (st (([45]:TX)++([109]:TX)))))),(6,.call [] [(iv (x+1))] [] (sv (st (Lib.itoa (x+1)))) []),(7,.val (.av (.string (st ((([45]:TX)++([109]:TX))++(Lib.itoa (x+1)))))))] [ps 2 (sv (st ((([45]:TX)++([109]:TX))++(Lib.itoa (x+1))))),ps 3 (iv 0)] (oc (by first|omega|(simp <;> omega):((([45]:TX).length+([109]:TX).length:Nat):Int)≤9223372036854775807) (oc (qJ _ _:st ([45]:TX)++st ([109]:TX)=st (([45]:TX)++([109]:TX))) (oi (x+1) (by omega) (yC 640 (zx (x+1) (by omega) (by omega)) (oc (by first|omega|(simp <;> omega):(((([45]:TX)++([109]:TX)).length+(Lib.itoa (x+1)).length:Nat):Int)≤9223372036854775807) (oc (qJ _ _:st (([45]:TX)++([109]:TX))++st (Lib.itoa (x+1))=st ((([45]:TX)++([109]:TX))++(Lib.itoa (x+1)))) oz)))))) ?_
    rw [yX (s:=s) (h:=h) h1 (.inl h2) (Eq.trans (by rw [← hx,← hy]) (yT (q:=[109]) (by rw [← hm];exact (qex h9 h7)) (by decide)))]
    exact zy hc0 [2,3] []
   refine qT (zM h9)<|zX mxd [(4,.call [] [(sv (st ([100]:TX))),(nv ((min ((0-m)-1) 7).toNat))] [] (sv (st (Lib.repeatL ([100]:TX) ((min ((0-m)-1) 7).toNat)))) [])] [.k2,.d,.n,.d,.r] [ps 8 (sv (st (Lib.repeatL ([100]:TX) ((min ((0-m)-1) 7).toNat))))] (oi (0-m) (by omega) (oi ((0-m)-1) (by omega) (oc (vw ([100]:TX) ((min ((0-m)-1) 7).toNat) (by omega) (by simp only [List.length_cons,List.length_nil];omega)) (oc (congrArg (fun z=>[(sv (st ([100]:TX))),iv z]) (show min ((0-m)-1) 7=(((min ((0-m)-1) 7).toNat:Nat):Int) from by omega):[(sv (st ([100]:TX))),(iv (min ((0-m)-1) 7))]=qM (qY [] 592) [(sv (st ([100]:TX))),(nv ((min ((0-m)-1) 7).toNat))]) oz)))) ?_
   refine zE<|qA<|qA<|qK mxd [.k3,.n,.r] [ps 82 (bv (decide (6<(((Lib.repeatL ([100]:TX) ((min ((0-m)-1) 7).toNat)).length:Nat):Int))))] ?_
   by_cases h10:6<(((Lib.repeatL ([100]:TX) ((min ((0-m)-1) 7).toNat)).length:Nat):Int)
   ·refine qQ (zO h10)<|qA<|qj mxd [] [ps 2 se,ps 3 (iv 3)] (oz) ?_
    rw [yX (s:=s) (h:=h) h1 (.inl h2) (Eq.trans (by rw [← hx,← hy]) (vT (by rw [← hm];exact (QA h3 h5 h7 h9)) h10))]
    exact zy hc0 [2,3] []
   refine qT (zM h10)<|qE<|qA<|qj mxd [(2,.val (.av (.string (st (([45]:TX)++(Lib.repeatL ([100]:TX) ((min ((0-m)-1) 7).toNat))))))),(6,.call [] [(iv (x+1))] [] (sv (st (Lib.itoa (x+1)))) []),(7,.val (.av (.string (st ((([45]:TX)++(Lib.repeatL ([100]:TX) ((min ((0-m)-1) 7).toNat)))++(Lib.itoa (x+1)))))))] [ps 2 (sv (st ((([45]:TX)++(Lib.repeatL ([100]:TX) ((min ((0-m)-1) 7).toNat)))++(Lib.itoa (x+1))))),ps 3 (iv 0)] (oc (by first|omega|(simp only [List.length_append,List.length_cons,List.length_nil];omega):((([45]:TX).length+(Lib.repeatL ([100]:TX) ((min ((0-m)-1) 7).toNat)).length:Nat):Int)≤9223372036854775807) (oc (qJ _ _:st ([45]:TX)++st (Lib.repeatL ([100]:TX) ((min ((0-m)-1) 7).toNat))=st (([45]:TX)++(Lib.repeatL ([100]:TX) ((min ((0-m)-1) 7).toNat)))) (oi (x+1) (by omega) (yC 680 (zx (x+1) (by omega) (by omega)) (oc (by first|omega|(simp only [List.length_append,List.length_cons,List.length_nil];omega):(((([45]:TX)++(Lib.repeatL ([100]:TX) ((min ((0-m)-1) 7).toNat))).length+(Lib.itoa (x+1)).length:Nat):Int)≤9223372036854775807) (oc (qJ _ _:st (([45]:TX)++(Lib.repeatL ([100]:TX) ((min ((0-m)-1) 7).toNat)))++st (Lib.itoa (x+1))=st ((([45]:TX)++(Lib.repeatL ([100]:TX) ((min ((0-m)-1) 7).toNat)))++(Lib.itoa (x+1)))) oz)))))) ?_
   rw [yX (s:=s) (h:=h) h1 (.inl h2) (Eq.trans (by rw [← hx,← hy]) (yT (by rw [← hm];exact (QA h3 h5 h7 h9)) h10))]
   exact zy hc0 [2,3] []
  by_cases h11:s=0
  ·refine zX mxd (gn 4 4++gy 8 3++[(11,.gd false (.yes true)),(12,.yes false)]) [.k2,.n,.r] [ps 24 (bv (decide (h<0)))] (on 4 (zM h2) (on 3 (zO h11) (oc (zM h2) (oc (zO h11) (oc (zM h2) oz))))) ?_
   by_cases h12:h<0
   ·refine qQ (zO h12)<|qA<|qK mxd [.k1,.d,.n,.d,.r] [ps 4 (sv (st ([45]:TX)))]<|zX mxd [] [.k2,.d,.n] [pb 0 41 [(iv (0-s)),(iv (0-h))]] (oi (0-s) (by omega) (oi (0-h) (by omega) oz))<|qA ?_
    obtain ⟨x,hx⟩:∃ x,x=0-s:=⟨_,rfl⟩
    obtain ⟨y,hy⟩:∃ y,y=0-h:=⟨_,rfl⟩
    refine qX (Wk.eq (show _=[ps 1 (.opt 0 0),ps 4 (sv (st ([45]:TX))),pb 0 41 [(iv x),(iv y)]] from by rw [hx,hy])) ?_
    have hnb:=Pi.nat7_range (x % 7)
    have hl2:=jD (o:=x+1) (by omega) (by omega)
    refine vJ mxd 2 [.k2,.n,.n,.r] [ps 5 (iv (x / 7)),ps 6 (iv (x % 7))] (yC 264 (ZY x (by omega) (by omega)) oz)<|qA<|QJ mxd [(6,.call [] [(iv (x % 7))] [] (iv (Pi.nat7 (x % 7))) [])] (bfr [(0,0),(0,1),(0,0),(2,1),(0,4),(0,0),(5,1),(0,7),(0,8)]) [([78],[2]),([80],[1,78]),([82],[10]),([84],[82]),([86],[80,84]),([88],[12]),([90],[88]),([92],[86,90]),([14],[92])] [.k2,.d,.d,.n,.r] [ps 7 (iv ((y-(12*(x / 7)))-(Pi.nat7 (x % 7))))] (oi (12*(x / 7)) (by omega) (oi (y-(12*(x / 7))) (by omega) (yC 360 (YG (x % 7)) (oi ((y-(12*(x / 7)))-(Pi.nat7 (x % 7))) (by omega) oz))))<|qA ?_
    obtain ⟨m,hm⟩:∃ m,m=vZ x y:=⟨_,rfl⟩
    have hmb : -9000≤m∧m≤9000:=by rw [hm];unfold vZ;omega
    refine qX (Wk.eq (show _=[ps 1 (.opt 0 0),ps 4 (sv (st ([45]:TX))),ps 7 (iv m),pb 0 41 [(iv x),(iv y)]] from by rw [hm];rfl)) ?_
    refine qK mxd [.r] []<|qA<|qU<|qA<|qK mxd [.k3,.n,.r] [ps 52 (bv (decide (0<m)))] ?_
    by_cases h13:0<m
    ·refine qQ (zO h13)<|zX mxd [(2,.call [] [(sv (st ([65]:TX))),(nv ((min m 7).toNat))] [] (sv (st (Lib.repeatL ([65]:TX) ((min m 7).toNat)))) [])] [.k2,.d,.n,.d,.r] [ps 8 (sv (st (Lib.repeatL ([65]:TX) ((min m 7).toNat))))] (oc (vw ([65]:TX) ((min m 7).toNat) (by omega) (by simp only [List.length_cons,List.length_nil];omega)) (oc (congrArg (fun z=>[(sv (st ([65]:TX))),iv z]) (show min m 7=(((min m 7).toNat:Nat):Int) from by omega):[(sv (st ([65]:TX))),(iv (min m 7))]=qM (qY [] 432) [(sv (st ([65]:TX))),(nv ((min m 7).toNat))]) oz)) ?_
     refine zE<|qA<|qA<|qK mxd [.k3,.n,.r] [ps 82 (bv (decide (6<(((Lib.repeatL ([65]:TX) ((min m 7).toNat)).length:Nat):Int))))] ?_
     by_cases h14:6<(((Lib.repeatL ([65]:TX) ((min m 7).toNat)).length:Nat):Int)
     ·refine qQ (zO h14)<|qA<|qj mxd [] [ps 2 se,ps 3 (iv 3)] (oz) ?_
      rw [yX (s:=s) (h:=h) h1 (.inr ⟨h11,h12⟩) (Eq.trans (by rw [← hx,← hy]) (vT (by rw [← hm];exact (jy h13)) h14))]
      exact zy hc0 [2,3] []
     refine qT (zM h14)<|qE<|qA<|qj mxd [(2,.val (.av (.string (st (([45]:TX)++(Lib.repeatL ([65]:TX) ((min m 7).toNat))))))),(6,.call [] [(iv (x+1))] [] (sv (st (Lib.itoa (x+1)))) []),(7,.val (.av (.string (st ((([45]:TX)++(Lib.repeatL ([65]:TX) ((min m 7).toNat)))++(Lib.itoa (x+1)))))))] [ps 2 (sv (st ((([45]:TX)++(Lib.repeatL ([65]:TX) ((min m 7).toNat)))++(Lib.itoa (x+1))))),ps 3 (iv 0)] (oc (by first|omega|(simp <;> omega):((([45]:TX).length+(Lib.repeatL ([65]:TX) ((min m 7).toNat)).length:Nat):Int)≤9223372036854775807) (oc (qJ _ _:st ([45]:TX)++st (Lib.repeatL ([65]:TX) ((min m 7).toNat))=st (([45]:TX)++(Lib.repeatL ([65]:TX) ((min m 7).toNat)))) (oi (x+1) (by omega) (yC 520 (zx (x+1) (by omega) (by omega)) (oc (by first|omega|(simp <;> omega):(((([45]:TX)++(Lib.repeatL ([65]:TX) ((min m 7).toNat))).length+(Lib.itoa (x+1)).length:Nat):Int)≤9223372036854775807) (oc (qJ _ _:st (([45]:TX)++(Lib.repeatL ([65]:TX) ((min m 7).toNat)))++st (Lib.itoa (x+1))=st ((([45]:TX)++(Lib.repeatL ([65]:TX) ((min m 7).toNat)))++(Lib.itoa (x+1)))) oz)))))) ?_
     rw [yX (s:=s) (h:=h) h1 (.inr ⟨h11,h12⟩) (Eq.trans (by rw [← hx,← hy]) (yT (by rw [← hm];exact (jy h13)) h14))]
     exact zy hc0 [2,3] []
    refine qT (zM h13)<|qA ?_
    by_cases h15:m=0
    ·refine zX mxd (gy 3 2++[(5,.gd true (.call [] [(iv x)] [] (bv (qV x)) [])),(6,.yes true)]) [.k3,.d,.n,.r] [ps 58 (bv (qV x))] (on 3 (zO h15) (yC 456 (wY x (by omega)) (oc (zO h15) oz))) ?_
     by_cases h16:(qV x)=true
     ·refine yJ (b:=(qV x)) rfl h16<|qK mxd [.k2,.d,.n,.d,.r] [ps 8 (sv (st ([80]:TX)))]<|zE<|qA<|qA<|qK mxd [.k3,.n,.r] [ps 82 (bv false)]<|zj (b:=false) rfl rfl<|qE<|qA<|qj mxd [(2,.val (.av (.string (st (([45]:TX)++([80]:TX)))))),(6,.call [] [(iv (x+1))] [] (sv (st (Lib.itoa (x+1)))) []),(7,.val (.av (.string (st ((([45]:TX)++([80]:TX))++(Lib.itoa (x+1)))))))] [ps 2 (sv (st ((([45]:TX)++([80]:TX))++(Lib.itoa (x+1))))),ps 3 (iv 0)] (oc (by first|omega|(simp <;> omega):((([45]:TX).length+([80]:TX).length:Nat):Int)≤9223372036854775807) (oc (qJ _ _:st ([45]:TX)++st ([80]:TX)=st (([45]:TX)++([80]:TX))) (oi (x+1) (by omega) (yC 560 (zx (x+1) (by omega) (by omega)) (oc (by first|omega|(simp <;> omega):(((([45]:TX)++([80]:TX)).length+(Lib.itoa (x+1)).length:Nat):Int)≤9223372036854775807) (oc (qJ _ _:st (([45]:TX)++([80]:TX))++st (Lib.itoa (x+1))=st ((([45]:TX)++([80]:TX))++(Lib.itoa (x+1)))) oz)))))) ?_
      rw [yX (s:=s) (h:=h) h1 (.inr ⟨h11,h12⟩) (Eq.trans (by rw [← hx,← hy]) (yT (q:=[80]) (by rw [← hm];exact (VP h15 h16)) (by decide)))]
      exact zy hc0 [2,3] []
     refine zj (b:=(qV x)) rfl (Bool.eq_false_iff.2 h16)<|qA<|qK mxd [.k3,.d,.n,.r] [ps 66 (bv (decide (m=0)))]<|qQ (zO h15)<|qK mxd [.k2,.d,.n,.d,.r] [ps 8 (sv (st ([77]:TX)))]<|zE<|qA<|qA<|qK mxd [.k3,.n,.r] [ps 82 (bv false)]<|zj (b:=false) rfl rfl<|qE<|qA<|qj mxd [(2,.val (.av (.string (st (([45]:TX)++([77]:TX)))))),(6,.call [] [(iv (x+1))] [] (sv (st (Lib.itoa (x+1)))) []),(7,.val (.av (.string (st ((([45]:TX)++([77]:TX))++(Lib.itoa (x+1)))))))] [ps 2 (sv (st ((([45]:TX)++([77]:TX))++(Lib.itoa (x+1))))),ps 3 (iv 0)] (oc (by first|omega|(simp <;> omega):((([45]:TX).length+([77]:TX).length:Nat):Int)≤9223372036854775807) (oc (qJ _ _:st ([45]:TX)++st ([77]:TX)=st (([45]:TX)++([77]:TX))) (oi (x+1) (by omega) (yC 584 (zx (x+1) (by omega) (by omega)) (oc (by first|omega|(simp <;> omega):(((([45]:TX)++([77]:TX)).length+(Lib.itoa (x+1)).length:Nat):Int)≤9223372036854775807) (oc (qJ _ _:st (([45]:TX)++([77]:TX))++st (Lib.itoa (x+1))=st ((([45]:TX)++([77]:TX))++(Lib.itoa (x+1)))) oz)))))) ?_
     rw [yX (s:=s) (h:=h) h1 (.inr ⟨h11,h12⟩) (Eq.trans (by rw [← hx,← hy]) (yT (q:=[77]) (by rw [← hm];exact (qey h15 h16)) (by decide)))]
     exact zy hc0 [2,3] []
    refine zX mxd (gn 3 3++[(6,.yes false)]) [.k3,.d,.n,.r] [ps 58 (bv false)] (on 4 (zM h15) oz)<|zj (b:=false) rfl rfl<|qA<|qK mxd [.k3,.d,.n,.r] [ps 66 (bv (decide (m=0)))]<|qT (zM h15)<|qA<|vJ mxd 2 [.k3,.d,.n,.r] [ps 69 (bv (qV x))] (yC 520 (wY x (by omega)) oz) ?_
    by_cases h17:(qV x)=true
    ·refine yJ (b:=(qV x)) rfl h17<|zX mxd [(3,.call [] [(sv (st ([100]:TX))),(nv ((min (0-m) 7).toNat))] [] (sv (st (Lib.repeatL ([100]:TX) ((min (0-m) 7).toNat)))) [])] [.k2,.d,.n,.d,.r] [ps 8 (sv (st (Lib.repeatL ([100]:TX) ((min (0-m) 7).toNat))))] (oi (0-m) (by omega) (oc (vw ([100]:TX) ((min (0-m) 7).toNat) (by omega) (by simp only [List.length_cons,List.length_nil];omega)) (oc (congrArg (fun z=>[(sv (st ([100]:TX))),iv z]) (show min (0-m) 7=(((min (0-m) 7).toNat:Nat):Int) from by omega):[(sv (st ([100]:TX))),(iv (min (0-m) 7))]=qM (qY [] 560) [(sv (st ([100]:TX))),(nv ((min (0-m) 7).toNat))]) oz))) ?_
     refine zE<|qA<|qA<|qK mxd [.k3,.n,.r] [ps 82 (bv (decide (6<(((Lib.repeatL ([100]:TX) ((min (0-m) 7).toNat)).length:Nat):Int))))] ?_
     by_cases h18:6<(((Lib.repeatL ([100]:TX) ((min (0-m) 7).toNat)).length:Nat):Int)
     ·refine qQ (zO h18)<|qA<|qj mxd [] [ps 2 se,ps 3 (iv 3)] (oz) ?_
      rw [yX (s:=s) (h:=h) h1 (.inr ⟨h11,h12⟩) (Eq.trans (by rw [← hx,← hy]) (vT (by rw [← hm];exact (ZP h13 h15 h17)) h18))]
      exact zy hc0 [2,3] []
     refine qT (zM h18)<|qE<|qA<|qj mxd [(2,.val (.av (.string (st (([45]:TX)++(Lib.repeatL ([100]:TX) ((min (0-m) 7).toNat))))))),(6,.call [] [(iv (x+1))] [] (sv (st (Lib.itoa (x+1)))) []),(7,.val (.av (.string (st ((([45]:TX)++(Lib.repeatL ([100]:TX) ((min (0-m) 7).toNat)))++(Lib.itoa (x+1)))))))] [ps 2 (sv (st ((([45]:TX)++(Lib.repeatL ([100]:TX) ((min (0-m) 7).toNat)))++(Lib.itoa (x+1))))),ps 3 (iv 0)] (oc (by first|omega|(simp only [List.length_append,List.length_cons,List.length_nil];omega):((([45]:TX).length+(Lib.repeatL ([100]:TX) ((min (0-m) 7).toNat)).length:Nat):Int)≤9223372036854775807) (oc (qJ _ _:st ([45]:TX)++st (Lib.repeatL ([100]:TX) ((min (0-m) 7).toNat))=st (([45]:TX)++(Lib.repeatL ([100]:TX) ((min (0-m) 7).toNat)))) (oi (x+1) (by omega) (yC 648 (zx (x+1) (by omega) (by omega)) (oc (by first|omega|(simp only [List.length_append,List.length_cons,List.length_nil];omega):(((([45]:TX)++(Lib.repeatL ([100]:TX) ((min (0-m) 7).toNat))).length+(Lib.itoa (x+1)).length:Nat):Int)≤9223372036854775807) (oc (qJ _ _:st (([45]:TX)++(Lib.repeatL ([100]:TX) ((min (0-m) 7).toNat)))++st (Lib.itoa (x+1))=st ((([45]:TX)++(Lib.repeatL ([100]:TX) ((min (0-m) 7).toNat)))++(Lib.itoa (x+1)))) oz)))))) ?_
     rw [yX (s:=s) (h:=h) h1 (.inr ⟨h11,h12⟩) (Eq.trans (by rw [← hx,← hy]) (yT (by rw [← hm];exact (ZP h13 h15 h17)) h18))]
     exact zy hc0 [2,3] []
    refine zj (b:=(qV x)) rfl (Bool.eq_false_iff.2 h17)<|qA<|qK mxd [.k3,.d,.n,.r] [ps 77 (bv (decide (m=(-1))))] ?_
    by_cases h19:m=(-1)
    ·refine qQ (zO h19)<|qK mxd [.k2,.d,.n,.d,.r] [ps 8 (sv (st ([109]:TX)))]<|zE<|qA<|qA<|qK mxd [.k3,.n,.r] [ps 82 (bv false)]<|zj (b:=false) rfl rfl<|qE<|qA<|qj mxd [(2,.val (.av (.string (st (([45]:TX)++([109]:TX)))))),(6,.call [] [(iv (x+1))] [] (sv (st (Lib.itoa (x+1)))) []),(7,.val (.av (.string (st ((([45]:TX)++([109]:TX))++(Lib.itoa (x+1)))))))] [ps 2 (sv (st ((([45]:TX)++([109]:TX))++(Lib.itoa (x+1))))),ps 3 (iv 0)] (oc (by first|omega|(simp <;> omega):((([45]:TX).length+([109]:TX).length:Nat):Int)≤9223372036854775807) (oc (qJ _ _:st ([45]:TX)++st ([109]:TX)=st (([45]:TX)++([109]:TX))) (oi (x+1) (by omega) (yC 640 (zx (x+1) (by omega) (by omega)) (oc (by first|omega|(simp <;> omega):(((([45]:TX)++([109]:TX)).length+(Lib.itoa (x+1)).length:Nat):Int)≤9223372036854775807) (oc (qJ _ _:st (([45]:TX)++([109]:TX))++st (Lib.itoa (x+1))=st ((([45]:TX)++([109]:TX))++(Lib.itoa (x+1)))) oz)))))) ?_
     rw [yX (s:=s) (h:=h) h1 (.inr ⟨h11,h12⟩) (Eq.trans (by rw [← hx,← hy]) (yT (q:=[109]) (by rw [← hm];exact (qex h19 h17)) (by decide)))]
     exact zy hc0 [2,3] []
    refine qT (zM h19)<|zX mxd [(4,.call [] [(sv (st ([100]:TX))),(nv ((min ((0-m)-1) 7).toNat))] [] (sv (st (Lib.repeatL ([100]:TX) ((min ((0-m)-1) 7).toNat)))) [])] [.k2,.d,.n,.d,.r] [ps 8 (sv (st (Lib.repeatL ([100]:TX) ((min ((0-m)-1) 7).toNat))))] (oi (0-m) (by omega) (oi ((0-m)-1) (by omega) (oc (vw ([100]:TX) ((min ((0-m)-1) 7).toNat) (by omega) (by simp only [List.length_cons,List.length_nil];omega)) (oc (congrArg (fun z=>[(sv (st ([100]:TX))),iv z]) (show min ((0-m)-1) 7=(((min ((0-m)-1) 7).toNat:Nat):Int) from by omega):[(sv (st ([100]:TX))),(iv (min ((0-m)-1) 7))]=qM (qY [] 592) [(sv (st ([100]:TX))),(nv ((min ((0-m)-1) 7).toNat))]) oz)))) ?_
    refine zE<|qA<|qA<|qK mxd [.k3,.n,.r] [ps 82 (bv (decide (6<(((Lib.repeatL ([100]:TX) ((min ((0-m)-1) 7).toNat)).length:Nat):Int))))] ?_
    by_cases h20:6<(((Lib.repeatL ([100]:TX) ((min ((0-m)-1) 7).toNat)).length:Nat):Int)
    ·refine qQ (zO h20)<|qA<|qj mxd [] [ps 2 se,ps 3 (iv 3)] (oz) ?_
     rw [yX (s:=s) (h:=h) h1 (.inr ⟨h11,h12⟩) (Eq.trans (by rw [← hx,← hy]) (vT (by rw [← hm];exact (QA h13 h15 h17 h19)) h20))]
     exact zy hc0 [2,3] []
    refine qT (zM h20)<|qE<|qA<|qj mxd [(2,.val (.av (.string (st (([45]:TX)++(Lib.repeatL ([100]:TX) ((min ((0-m)-1) 7).toNat))))))),(6,.call [] [(iv (x+1))] [] (sv (st (Lib.itoa (x+1)))) []),(7,.val (.av (.string (st ((([45]:TX)++(Lib.repeatL ([100]:TX) ((min ((0-m)-1) 7).toNat)))++(Lib.itoa (x+1)))))))] [ps 2 (sv (st ((([45]:TX)++(Lib.repeatL ([100]:TX) ((min ((0-m)-1) 7).toNat)))++(Lib.itoa (x+1))))),ps 3 (iv 0)] (oc (by first|omega|(simp only [List.length_append,List.length_cons,List.length_nil];omega):((([45]:TX).length+(Lib.repeatL ([100]:TX) ((min ((0-m)-1) 7).toNat)).length:Nat):Int)≤9223372036854775807) (oc (qJ _ _:st ([45]:TX)++st (Lib.repeatL ([100]:TX) ((min ((0-m)-1) 7).toNat))=st (([45]:TX)++(Lib.repeatL ([100]:TX) ((min ((0-m)-1) 7).toNat)))) (oi (x+1) (by omega) (yC 680 (zx (x+1) (by omega) (by omega)) (oc (by first|omega|(simp only [List.length_append,List.length_cons,List.length_nil];omega):(((([45]:TX)++(Lib.repeatL ([100]:TX) ((min ((0-m)-1) 7).toNat))).length+(Lib.itoa (x+1)).length:Nat):Int)≤9223372036854775807) (oc (qJ _ _:st (([45]:TX)++(Lib.repeatL ([100]:TX) ((min ((0-m)-1) 7).toNat)))++st (Lib.itoa (x+1))=st ((([45]:TX)++(Lib.repeatL ([100]:TX) ((min ((0-m)-1) 7).toNat)))++(Lib.itoa (x+1)))) oz)))))) ?_
    rw [yX (s:=s) (h:=h) h1 (.inr ⟨h11,h12⟩) (Eq.trans (by rw [← hx,← hy]) (yT (by rw [← hm];exact (QA h13 h15 h17 h19)) h20))]
    exact zy hc0 [2,3] []
   refine qT (zM h12)<|qE<|qA ?_
   obtain ⟨x,hx⟩:∃ x,x=s:=⟨_,rfl⟩
   obtain ⟨y,hy⟩:∃ y,y=h:=⟨_,rfl⟩
   refine qX (Wk.eq (show _=[ps 1 (.opt 0 0),ps 4 se,ps 24 (bv (decide (h<0))),pb 0 41 [(iv x),(iv y)]] from by rw [hx,hy])) ?_
   have hnb:=Pi.nat7_range (x % 7)
   have hl2:=jD (o:=x+1) (by omega) (by omega)
   refine vJ mxd 2 [.k2,.n,.n,.d,.r] [ps 5 (iv (x / 7)),ps 6 (iv (x % 7))] (yC 176 (ZY x (by omega) (by omega)) oz)<|qA<|QJ mxd [(6,.call [] [(iv (x % 7))] [] (iv (Pi.nat7 (x % 7))) [])] (bfr [(0,0),(0,1),(0,0),(2,1),(0,4),(0,0),(5,1),(0,7),(0,8)]) [([78],[2]),([80],[1,78]),([82],[10]),([84],[82]),([86],[80,84]),([88],[12]),([90],[88]),([92],[86,90]),([14],[92])] [.k2,.d,.d,.n,.r] [ps 7 (iv ((y-(12*(x / 7)))-(Pi.nat7 (x % 7))))] (oi (12*(x / 7)) (by omega) (oi (y-(12*(x / 7))) (by omega) (yC 272 (YG (x % 7)) (oi ((y-(12*(x / 7)))-(Pi.nat7 (x % 7))) (by omega) oz))))<|qA ?_
   obtain ⟨m,hm⟩:∃ m,m=vZ x y:=⟨_,rfl⟩
   have hmb : -9000≤m∧m≤9000:=by rw [hm];unfold vZ;omega
   refine qX (Wk.eq (show _=[ps 1 (.opt 0 0),ps 4 se,ps 7 (iv m),pb 0 41 [(iv x),(iv y)]] from by rw [hm];rfl)) ?_
   refine qK mxd [.r] []<|qA<|qU<|qA<|qK mxd [.k3,.n,.r] [ps 52 (bv (decide (0<m)))] ?_
   by_cases h21:0<m
   ·refine qQ (zO h21)<|zX mxd [(2,.call [] [(sv (st ([65]:TX))),(nv ((min m 7).toNat))] [] (sv (st (Lib.repeatL ([65]:TX) ((min m 7).toNat)))) [])] [.k2,.d,.n,.d,.r] [ps 8 (sv (st (Lib.repeatL ([65]:TX) ((min m 7).toNat))))] (oc (vw ([65]:TX) ((min m 7).toNat) (by omega) (by simp only [List.length_cons,List.length_nil];omega)) (oc (congrArg (fun z=>[(sv (st ([65]:TX))),iv z]) (show min m 7=(((min m 7).toNat:Nat):Int) from by omega):[(sv (st ([65]:TX))),(iv (min m 7))]=qM (qY [] 344) [(sv (st ([65]:TX))),(nv ((min m 7).toNat))]) oz)) ?_
    refine zE<|qA<|qA<|qK mxd [.k3,.n,.r] [ps 82 (bv (decide (6<(((Lib.repeatL ([65]:TX) ((min m 7).toNat)).length:Nat):Int))))] ?_
    by_cases h22:6<(((Lib.repeatL ([65]:TX) ((min m 7).toNat)).length:Nat):Int)
    ·refine qQ (zO h22)<|qA<|qj mxd [] [ps 2 se,ps 3 (iv 3)] (oz) ?_
     rw [yO (s:=s) (h:=h) h1 (by omega) (Eq.trans (by rw [← hx,← hy]) (vT (by rw [← hm];exact (jy h21)) h22))]
     exact zy hc0 [2,3] []
    refine qT (zM h22)<|qE<|qA<|qj mxd [(2,.val (.av (.string (st (([]:TX)++(Lib.repeatL ([65]:TX) ((min m 7).toNat))))))),(6,.call [] [(iv (x+1))] [] (sv (st (Lib.itoa (x+1)))) []),(7,.val (.av (.string (st ((([]:TX)++(Lib.repeatL ([65]:TX) ((min m 7).toNat)))++(Lib.itoa (x+1)))))))] [ps 2 (sv (st ((([]:TX)++(Lib.repeatL ([65]:TX) ((min m 7).toNat)))++(Lib.itoa (x+1))))),ps 3 (iv 0)] (oc (by first|omega|(simp <;> omega):((([]:TX).length+(Lib.repeatL ([65]:TX) ((min m 7).toNat)).length:Nat):Int)≤9223372036854775807) (oc (qJ _ _:st ([]:TX)++st (Lib.repeatL ([65]:TX) ((min m 7).toNat))=st (([]:TX)++(Lib.repeatL ([65]:TX) ((min m 7).toNat)))) (oi (x+1) (by omega) (yC 432 (zx (x+1) (by omega) (by omega)) (oc (by first|omega|(simp <;> omega):(((([]:TX)++(Lib.repeatL ([65]:TX) ((min m 7).toNat))).length+(Lib.itoa (x+1)).length:Nat):Int)≤9223372036854775807) (oc (qJ _ _:st (([]:TX)++(Lib.repeatL ([65]:TX) ((min m 7).toNat)))++st (Lib.itoa (x+1))=st ((([]:TX)++(Lib.repeatL ([65]:TX) ((min m 7).toNat)))++(Lib.itoa (x+1)))) oz)))))) ?_
    rw [yO (s:=s) (h:=h) h1 (by omega) (Eq.trans (by rw [← hx,← hy]) (yT (by rw [← hm];exact (jy h21)) h22))]
    exact zy hc0 [2,3] []
   refine qT (zM h21)<|qA ?_
   by_cases h23:m=0
   ·refine zX mxd (gy 3 2++[(5,.gd true (.call [] [(iv x)] [] (bv (qV x)) [])),(6,.yes true)]) [.k3,.d,.n,.r] [ps 58 (bv (qV x))] (on 3 (zO h23) (yC 368 (wY x (by omega)) (oc (zO h23) oz))) ?_
    by_cases h24:(qV x)=true
    ·refine yJ (b:=(qV x)) rfl h24<|qK mxd [.k2,.d,.n,.d,.r] [ps 8 (sv (st ([80]:TX)))]<|zE<|qA<|qA<|qK mxd [.k3,.n,.r] [ps 82 (bv false)]<|zj (b:=false) rfl rfl<|qE<|qA<|qj mxd [(2,.val (.av (.string (st (([]:TX)++([80]:TX)))))),(6,.call [] [(iv (x+1))] [] (sv (st (Lib.itoa (x+1)))) []),(7,.val (.av (.string (st ((([]:TX)++([80]:TX))++(Lib.itoa (x+1)))))))] [ps 2 (sv (st ((([]:TX)++([80]:TX))++(Lib.itoa (x+1))))),ps 3 (iv 0)] (oc (by first|omega|(simp <;> omega):((([]:TX).length+([80]:TX).length:Nat):Int)≤9223372036854775807) (oc (qJ _ _:st ([]:TX)++st ([80]:TX)=st (([]:TX)++([80]:TX))) (oi (x+1) (by omega) (yC 472 (zx (x+1) (by omega) (by omega)) (oc (by first|omega|(simp <;> omega):(((([]:TX)++([80]:TX)).length+(Lib.itoa (x+1)).length:Nat):Int)≤9223372036854775807) (oc (qJ _ _:st (([]:TX)++([80]:TX))++st (Lib.itoa (x+1))=st ((([]:TX)++([80]:TX))++(Lib.itoa (x+1)))) oz)))))) ?_
     rw [yO (s:=s) (h:=h) h1 (by omega) (Eq.trans (by rw [← hx,← hy]) (yT (q:=[80]) (by rw [← hm];exact (VP h23 h24)) (by decide)))]
     exact zy hc0 [2,3] []
    refine zj (b:=(qV x)) rfl (Bool.eq_false_iff.2 h24)<|qA<|qK mxd [.k3,.d,.n,.r] [ps 66 (bv (decide (m=0)))]<|qQ (zO h23)<|qK mxd [.k2,.d,.n,.d,.r] [ps 8 (sv (st ([77]:TX)))]<|zE<|qA<|qA<|qK mxd [.k3,.n,.r] [ps 82 (bv false)]<|zj (b:=false) rfl rfl<|qE<|qA<|qj mxd [(2,.val (.av (.string (st (([]:TX)++([77]:TX)))))),(6,.call [] [(iv (x+1))] [] (sv (st (Lib.itoa (x+1)))) []),(7,.val (.av (.string (st ((([]:TX)++([77]:TX))++(Lib.itoa (x+1)))))))] [ps 2 (sv (st ((([]:TX)++([77]:TX))++(Lib.itoa (x+1))))),ps 3 (iv 0)] (oc (by first|omega|(simp <;> omega):((([]:TX).length+([77]:TX).length:Nat):Int)≤9223372036854775807) (oc (qJ _ _:st ([]:TX)++st ([77]:TX)=st (([]:TX)++([77]:TX))) (oi (x+1) (by omega) (yC 496 (zx (x+1) (by omega) (by omega)) (oc (by first|omega|(simp <;> omega):(((([]:TX)++([77]:TX)).length+(Lib.itoa (x+1)).length:Nat):Int)≤9223372036854775807) (oc (qJ _ _:st (([]:TX)++([77]:TX))++st (Lib.itoa (x+1))=st ((([]:TX)++([77]:TX))++(Lib.itoa (x+1)))) oz)))))) ?_
    rw [yO (s:=s) (h:=h) h1 (by omega) (Eq.trans (by rw [← hx,← hy]) (yT (q:=[77]) (by rw [← hm];exact (qey h23 h24)) (by decide)))]
    exact zy hc0 [2,3] []
   refine zX mxd (gn 3 3++[(6,.yes false)]) [.k3,.d,.n,.r] [ps 58 (bv false)] (on 4 (zM h23) oz)<|zj (b:=false) rfl rfl<|qA<|qK mxd [.k3,.d,.n,.r] [ps 66 (bv (decide (m=0)))]<|qT (zM h23)<|qA<|vJ mxd 2 [.k3,.d,.n,.r] [ps 69 (bv (qV x))] (yC 432 (wY x (by omega)) oz) ?_
   by_cases h25:(qV x)=true
   ·refine yJ (b:=(qV x)) rfl h25<|zX mxd [(3,.call [] [(sv (st ([100]:TX))),(nv ((min (0-m) 7).toNat))] [] (sv (st (Lib.repeatL ([100]:TX) ((min (0-m) 7).toNat)))) [])] [.k2,.d,.n,.d,.r] [ps 8 (sv (st (Lib.repeatL ([100]:TX) ((min (0-m) 7).toNat))))] (oi (0-m) (by omega) (oc (vw ([100]:TX) ((min (0-m) 7).toNat) (by omega) (by simp only [List.length_cons,List.length_nil];omega)) (oc (congrArg (fun z=>[(sv (st ([100]:TX))),iv z]) (show min (0-m) 7=(((min (0-m) 7).toNat:Nat):Int) from by omega):[(sv (st ([100]:TX))),(iv (min (0-m) 7))]=qM (qY [] 472) [(sv (st ([100]:TX))),(nv ((min (0-m) 7).toNat))]) oz))) ?_
    refine zE<|qA<|qA<|qK mxd [.k3,.n,.r] [ps 82 (bv (decide (6<(((Lib.repeatL ([100]:TX) ((min (0-m) 7).toNat)).length:Nat):Int))))] ?_
    by_cases h26:6<(((Lib.repeatL ([100]:TX) ((min (0-m) 7).toNat)).length:Nat):Int)
    ·refine qQ (zO h26)<|qA<|qj mxd [] [ps 2 se,ps 3 (iv 3)] (oz) ?_
     rw [yO (s:=s) (h:=h) h1 (by omega) (Eq.trans (by rw [← hx,← hy]) (vT (by rw [← hm];exact (ZP h21 h23 h25)) h26))]
     exact zy hc0 [2,3] []
    refine qT (zM h26)<|qE<|qA<|qj mxd [(2,.val (.av (.string (st (([]:TX)++(Lib.repeatL ([100]:TX) ((min (0-m) 7).toNat))))))),(6,.call [] [(iv (x+1))] [] (sv (st (Lib.itoa (x+1)))) []),(7,.val (.av (.string (st ((([]:TX)++(Lib.repeatL ([100]:TX) ((min (0-m) 7).toNat)))++(Lib.itoa (x+1)))))))] [ps 2 (sv (st ((([]:TX)++(Lib.repeatL ([100]:TX) ((min (0-m) 7).toNat)))++(Lib.itoa (x+1))))),ps 3 (iv 0)] (oc (by first|omega|(simp only [List.length_append,List.length_cons,List.length_nil];omega):((([]:TX).length+(Lib.repeatL ([100]:TX) ((min (0-m) 7).toNat)).length:Nat):Int)≤9223372036854775807) (oc (qJ _ _:st ([]:TX)++st (Lib.repeatL ([100]:TX) ((min (0-m) 7).toNat))=st (([]:TX)++(Lib.repeatL ([100]:TX) ((min (0-m) 7).toNat)))) (oi (x+1) (by omega) (yC 560 (zx (x+1) (by omega) (by omega)) (oc (by first|omega|(simp only [List.length_append,List.length_cons,List.length_nil];omega):(((([]:TX)++(Lib.repeatL ([100]:TX) ((min (0-m) 7).toNat))).length+(Lib.itoa (x+1)).length:Nat):Int)≤9223372036854775807) (oc (qJ _ _:st (([]:TX)++(Lib.repeatL ([100]:TX) ((min (0-m) 7).toNat)))++st (Lib.itoa (x+1))=st ((([]:TX)++(Lib.repeatL ([100]:TX) ((min (0-m) 7).toNat)))++(Lib.itoa (x+1)))) oz)))))) ?_
    rw [yO (s:=s) (h:=h) h1 (by omega) (Eq.trans (by rw [← hx,← hy]) (yT (by rw [← hm];exact (ZP h21 h23 h25)) h26))]
    exact zy hc0 [2,3] []
   refine zj (b:=(qV x)) rfl (Bool.eq_false_iff.2 h25)<|qA<|qK mxd [.k3,.d,.n,.r] [ps 77 (bv (decide (m=(-1))))] ?_
   by_cases h27:m=(-1)
   ·refine qQ (zO h27)<|qK mxd [.k2,.d,.n,.d,.r] [ps 8 (sv (st ([109]:TX)))]<|zE<|qA<|qA<|qK mxd [.k3,.n,.r] [ps 82 (bv false)]<|zj (b:=false) rfl rfl<|qE<|qA<|qj mxd [(2,.val (.av (.string (st (([]:TX)++([109]:TX)))))),(6,.call [] [(iv (x+1))] [] (sv (st (Lib.itoa (x+1)))) []),(7,.val (.av (.string (st ((([]:TX)++([109]:TX))++(Lib.itoa (x+1)))))))] [ps 2 (sv (st ((([]:TX)++([109]:TX))++(Lib.itoa (x+1))))),ps 3 (iv 0)] (oc (by first|omega|(simp <;> omega):((([]:TX).length+([109]:TX).length:Nat):Int)≤9223372036854775807) (oc (qJ _ _:st ([]:TX)++st ([109]:TX)=st (([]:TX)++([109]:TX))) (oi (x+1) (by omega) (yC 552 (zx (x+1) (by omega) (by omega)) (oc (by first|omega|(simp <;> omega):(((([]:TX)++([109]:TX)).length+(Lib.itoa (x+1)).length:Nat):Int)≤9223372036854775807) (oc (qJ _ _:st (([]:TX)++([109]:TX))++st (Lib.itoa (x+1))=st ((([]:TX)++([109]:TX))++(Lib.itoa (x+1)))) oz)))))) ?_
    rw [yO (s:=s) (h:=h) h1 (by omega) (Eq.trans (by rw [← hx,← hy]) (yT (q:=[109]) (by rw [← hm];exact (qex h27 h25)) (by decide)))]
    exact zy hc0 [2,3] []
   refine qT (zM h27)<|zX mxd [(4,.call [] [(sv (st ([100]:TX))),(nv ((min ((0-m)-1) 7).toNat))] [] (sv (st (Lib.repeatL ([100]:TX) ((min ((0-m)-1) 7).toNat)))) [])] [.k2,.d,.n,.d,.r] [ps 8 (sv (st (Lib.repeatL ([100]:TX) ((min ((0-m)-1) 7).toNat))))] (oi (0-m) (by omega) (oi ((0-m)-1) (by omega) (oc (vw ([100]:TX) ((min ((0-m)-1) 7).toNat) (by omega) (by simp only [List.length_cons,List.length_nil];omega)) (oc (congrArg (fun z=>[(sv (st ([100]:TX))),iv z]) (show min ((0-m)-1) 7=(((min ((0-m)-1) 7).toNat:Nat):Int) from by omega):[(sv (st ([100]:TX))),(iv (min ((0-m)-1) 7))]=qM (qY [] 504) [(sv (st ([100]:TX))),(nv ((min ((0-m)-1) 7).toNat))]) oz)))) ?_
   refine zE<|qA<|qA<|qK mxd [.k3,.n,.r] [ps 82 (bv (decide (6<(((Lib.repeatL ([100]:TX) ((min ((0-m)-1) 7).toNat)).length:Nat):Int))))] ?_
   by_cases h28:6<(((Lib.repeatL ([100]:TX) ((min ((0-m)-1) 7).toNat)).length:Nat):Int)
   ·refine qQ (zO h28)<|qA<|qj mxd [] [ps 2 se,ps 3 (iv 3)] (oz) ?_
    rw [yO (s:=s) (h:=h) h1 (by omega) (Eq.trans (by rw [← hx,← hy]) (vT (by rw [← hm];exact (QA h21 h23 h25 h27)) h28))]
    exact zy hc0 [2,3] []
   refine qT (zM h28)<|qE<|qA<|qj mxd [(2,.val (.av (.string (st (([]:TX)++(Lib.repeatL ([100]:TX) ((min ((0-m)-1) 7).toNat))))))),(6,.call [] [(iv (x+1))] [] (sv (st (Lib.itoa (x+1)))) []),(7,.val (.av (.string (st ((([]:TX)++(Lib.repeatL ([100]:TX) ((min ((0-m)-1) 7).toNat)))++(Lib.itoa (x+1)))))))] [ps 2 (sv (st ((([]:TX)++(Lib.repeatL ([100]:TX) ((min ((0-m)-1) 7).toNat)))++(Lib.itoa (x+1))))),ps 3 (iv 0)] (oc (by first|omega|(simp only [List.length_append,List.length_cons,List.length_nil];omega):((([]:TX).length+(Lib.repeatL ([100]:TX) ((min ((0-m)-1) 7).toNat)).length:Nat):Int)≤9223372036854775807) (oc (qJ _ _:st ([]:TX)++st (Lib.repeatL ([100]:TX) ((min ((0-m)-1) 7).toNat))=st (([]:TX)++(Lib.repeatL ([100]:TX) ((min ((0-m)-1) 7).toNat)))) (oi (x+1) (by omega) (yC 592 (zx (x+1) (by omega) (by omega)) (oc (by first|omega|(simp only [List.length_append,List.length_cons,List.length_nil];omega):(((([]:TX)++(Lib.repeatL ([100]:TX) ((min ((0-m)-1) 7).toNat))).length+(Lib.itoa (x+1)).length:Nat):Int)≤9223372036854775807) (oc (qJ _ _:st (([]:TX)++(Lib.repeatL ([100]:TX) ((min ((0-m)-1) 7).toNat)))++st (Lib.itoa (x+1))=st ((([]:TX)++(Lib.repeatL ([100]:TX) ((min ((0-m)-1) 7).toNat)))++(Lib.itoa (x+1)))) oz)))))) ?_
   rw [yO (s:=s) (h:=h) h1 (by omega) (Eq.trans (by rw [← hx,← hy]) (yT (by rw [← hm];exact (QA h21 h23 h25 h27)) h28))]
   exact zy hc0 [2,3] []
  refine zX mxd (gn 4 7++[(11,.gd false (.yes false)),(12,.yes false)]) [.k2,.n,.r] [ps 24 (bv false)] (on 4 (zM h2) (on 3 (zM h11) (oc (zM h2) (oc (zM h11) (oc (zM h2) oz)))))<|zj (b:=false) rfl rfl<|qE<|qA ?_
  obtain ⟨x,hx⟩:∃ x,x=s:=⟨_,rfl⟩
  obtain ⟨y,hy⟩:∃ y,y=h:=⟨_,rfl⟩
  refine qX (Wk.eq (show _=[ps 1 (.opt 0 0),ps 4 se,ps 24 (bv false),pb 0 41 [(iv x),(iv y)]] from by rw [hx,hy])) ?_
  have hnb:=Pi.nat7_range (x % 7)
  have hl2:=jD (o:=x+1) (by omega) (by omega)
  refine vJ mxd 2 [.k2,.n,.n,.d,.r] [ps 5 (iv (x / 7)),ps 6 (iv (x % 7))] (yC 176 (ZY x (by omega) (by omega)) oz)<|qA<|QJ mxd [(6,.call [] [(iv (x % 7))] [] (iv (Pi.nat7 (x % 7))) [])] (bfr [(0,0),(0,1),(0,0),(2,1),(0,4),(0,0),(5,1),(0,7),(0,8)]) [([78],[2]),([80],[1,78]),([82],[10]),([84],[82]),([86],[80,84]),([88],[12]),([90],[88]),([92],[86,90]),([14],[92])] [.k2,.d,.d,.n,.r] [ps 7 (iv ((y-(12*(x / 7)))-(Pi.nat7 (x % 7))))] (oi (12*(x / 7)) (by omega) (oi (y-(12*(x / 7))) (by omega) (yC 272 (YG (x % 7)) (oi ((y-(12*(x / 7)))-(Pi.nat7 (x % 7))) (by omega) oz))))<|qA ?_
  obtain ⟨m,hm⟩:∃ m,m=vZ x y:=⟨_,rfl⟩
  have hmb : -9000≤m∧m≤9000:=by rw [hm];unfold vZ;omega
  refine qX (Wk.eq (show _=[ps 1 (.opt 0 0),ps 4 se,ps 7 (iv m),pb 0 41 [(iv x),(iv y)]] from by rw [hm];rfl)) ?_
  refine qK mxd [.r] []<|qA<|qU<|qA<|qK mxd [.k3,.n,.r] [ps 52 (bv (decide (0<m)))] ?_
  by_cases h29:0<m
  ·refine qQ (zO h29)<|zX mxd [(2,.call [] [(sv (st ([65]:TX))),(nv ((min m 7).toNat))] [] (sv (st (Lib.repeatL ([65]:TX) ((min m 7).toNat)))) [])] [.k2,.d,.n,.d,.r] [ps 8 (sv (st (Lib.repeatL ([65]:TX) ((min m 7).toNat))))] (oc (vw ([65]:TX) ((min m 7).toNat) (by omega) (by simp only [List.length_cons,List.length_nil];omega)) (oc (congrArg (fun z=>[(sv (st ([65]:TX))),iv z]) (show min m 7=(((min m 7).toNat:Nat):Int) from by omega):[(sv (st ([65]:TX))),(iv (min m 7))]=qM (qY [] 344) [(sv (st ([65]:TX))),(nv ((min m 7).toNat))]) oz)) ?_
   refine zE<|qA<|qA<|qK mxd [.k3,.n,.r] [ps 82 (bv (decide (6<(((Lib.repeatL ([65]:TX) ((min m 7).toNat)).length:Nat):Int))))] ?_
   by_cases h30:6<(((Lib.repeatL ([65]:TX) ((min m 7).toNat)).length:Nat):Int)
   ·refine qQ (zO h30)<|qA<|qj mxd [] [ps 2 se,ps 3 (iv 3)] (oz) ?_
    rw [yO (s:=s) (h:=h) h1 (by omega) (Eq.trans (by rw [← hx,← hy]) (vT (by rw [← hm];exact (jy h29)) h30))]
    exact zy hc0 [2,3] []
   refine qT (zM h30)<|qE<|qA<|qj mxd [(2,.val (.av (.string (st (([]:TX)++(Lib.repeatL ([65]:TX) ((min m 7).toNat))))))),(6,.call [] [(iv (x+1))] [] (sv (st (Lib.itoa (x+1)))) []),(7,.val (.av (.string (st ((([]:TX)++(Lib.repeatL ([65]:TX) ((min m 7).toNat)))++(Lib.itoa (x+1)))))))] [ps 2 (sv (st ((([]:TX)++(Lib.repeatL ([65]:TX) ((min m 7).toNat)))++(Lib.itoa (x+1))))),ps 3 (iv 0)] (oc (by first|omega|(simp <;> omega):((([]:TX).length+(Lib.repeatL ([65]:TX) ((min m 7).toNat)).length:Nat):Int)≤9223372036854775807) (oc (qJ _ _:st ([]:TX)++st (Lib.repeatL ([65]:TX) ((min m 7).toNat))=st (([]:TX)++(Lib.repeatL ([65]:TX) ((min m 7).toNat)))) (oi (x+1) (by omega) (yC 432 (zx (x+1) (by omega) (by omega)) (oc (by first|omega|(simp <;> omega):(((([]:TX)++(Lib.repeatL ([65]:TX) ((min m 7).toNat))).length+(Lib.itoa (x+1)).length:Nat):Int)≤9223372036854775807) (oc (qJ _ _:st (([]:TX)++(Lib.repeatL ([65]:TX) ((min m 7).toNat)))++st (Lib.itoa (x+1))=st ((([]:TX)++(Lib.repeatL ([65]:TX) ((min m 7).toNat)))++(Lib.itoa (x+1)))) oz)))))) ?_
   rw [yO (s:=s) (h:=h) h1 (by omega) (Eq.trans (by rw [← hx,← hy]) (yT (by rw [← hm];exact (jy h29)) h30))]
   exact zy hc0 [2,3] []
  refine qT (zM h29)<|qA ?_
  by_cases h31:m=0
  ·refine zX mxd (gy 3 2++[(5,.gd true (.call [] [(iv x)] [] (bv (qV x)) [])),(6,.yes true)]) [.k3,.d,.n,.r] [ps 58 (bv (qV x))] (on 3 (zO h31) (yC 368 (wY x (by omega)) (oc (zO h31) oz))) ?_
   by_cases h32:(qV x)=true
   ·refine yJ (b:=(qV x)) rfl h32<|qK mxd [.k2,.d,.n,.d,.r] [ps 8 (sv (st ([80]:TX)))]<|zE<|qA<|qA<|qK mxd [.k3,.n,.r] [ps 82 (bv false)]<|zj (b:=false) rfl rfl<|qE<|qA<|qj mxd [(2,.val (.av (.string (st (([]:TX)++([80]:TX)))))),(6,.call [] [(iv (x+1))] [] (sv (st (Lib.itoa (x+1)))) []),(7,.val (.av (.string (st ((([]:TX)++([80]:TX))++(Lib.itoa (x+1)))))))] [ps 2 (sv (st ((([]:TX)++([80]:TX))++(Lib.itoa (x+1))))),ps 3 (iv 0)] (oc (by first|omega|(simp <;> omega):((([]:TX).length+([80]:TX).length:Nat):Int)≤9223372036854775807) (oc (qJ _ _:st ([]:TX)++st ([80]:TX)=st (([]:TX)++([80]:TX))) (oi (x+1) (by omega) (yC 472 (zx (x+1) (by omega) (by omega)) (oc (by first|omega|(simp <;> omega):(((([]:TX)++([80]:TX)).length+(Lib.itoa (x+1)).length:Nat):Int)≤9223372036854775807) (oc (qJ _ _:st (([]:TX)++([80]:TX))++st (Lib.itoa (x+1))=st ((([]:TX)++([80]:TX))++(Lib.itoa (x+1)))) oz)))))) ?_
    rw [yO (s:=s) (h:=h) h1 (by omega) (Eq.trans (by rw [← hx,← hy]) (yT (q:=[80]) (by rw [← hm];exact (VP h31 h32)) (by decide)))]
    exact zy hc0 [2,3] []
   refine zj (b:=(qV x)) rfl (Bool.eq_false_iff.2 h32)<|qA<|qK mxd [.k3,.d,.n,.r] [ps 66 (bv (decide (m=0)))]<|qQ (zO h31)<|qK mxd [.k2,.d,.n,.d,.r] [ps 8 (sv (st ([77]:TX)))]<|zE<|qA<|qA<|qK mxd [.k3,.n,.r] [ps 82 (bv false)]<|zj (b:=false) rfl rfl<|qE<|qA<|qj mxd [(2,.val (.av (.string (st (([]:TX)++([77]:TX)))))),(6,.call [] [(iv (x+1))] [] (sv (st (Lib.itoa (x+1)))) []),(7,.val (.av (.string (st ((([]:TX)++([77]:TX))++(Lib.itoa (x+1)))))))] [ps 2 (sv (st ((([]:TX)++([77]:TX))++(Lib.itoa (x+1))))),ps 3 (iv 0)] (oc (by first|omega|(simp <;> omega):((([]:TX).length+([77]:TX).length:Nat):Int)≤9223372036854775807) (oc (qJ _ _:st ([]:TX)++st ([77]:TX)=st (([]:TX)++([77]:TX))) (oi (x+1) (by omega) (yC 496 (zx (x+1) (by omega) (by omega)) (oc (by first|omega|(simp <;> omega):(((([]:TX)++([77]:TX)).length+(Lib.itoa (x+1)).length:Nat):Int)≤9223372036854775807) (oc (qJ _ _:st (([]:TX)++([77]:TX))++st (Lib.itoa (x+1))=st ((([]:TX)++([77]:TX))++(Lib.itoa (x+1)))) oz)))))) ?_
   rw [yO (s:=s) (h:=h) h1 (by omega) (Eq.trans (by rw [← hx,← hy]) (yT (q:=[77]) (by rw [← hm];exact (qey h31 h32)) (by decide)))]
   exact zy hc0 [2,3] []
  refine zX mxd (gn 3 3++[(6,.yes false)]) [.k3,.d,.n,.r] [ps 58 (bv false)] (on 4 (zM h31) oz)<|zj (b:=false) rfl rfl<|qA<|qK mxd [.k3,.d,.n,.r] [ps 66 (bv (decide (m=0)))]<|qT (zM h31)<|qA<|vJ mxd 2 [.k3,.d,.n,.r] [ps 69 (bv (qV x))] (yC 432 (wY x (by omega)) oz) ?_
  by_cases h33:(qV x)=true
  ·refine yJ (b:=(qV x)) rfl h33<|zX mxd [(3,.call [] [(sv (st ([100]:TX))),(nv ((min (0-m) 7).toNat))] [] (sv (st (Lib.repeatL ([100]:TX) ((min (0-m) 7).toNat)))) [])] [.k2,.d,.n,.d,.r] [ps 8 (sv (st (Lib.repeatL ([100]:TX) ((min (0-m) 7).toNat))))] (oi (0-m) (by omega) (oc (vw ([100]:TX) ((min (0-m) 7).toNat) (by omega) (by simp only [List.length_cons,List.length_nil];omega)) (oc (congrArg (fun z=>[(sv (st ([100]:TX))),iv z]) (show min (0-m) 7=(((min (0-m) 7).toNat:Nat):Int) from by omega):[(sv (st ([100]:TX))),(iv (min (0-m) 7))]=qM (qY [] 472) [(sv (st ([100]:TX))),(nv ((min (0-m) 7).toNat))]) oz))) ?_
   refine zE<|qA<|qA<|qK mxd [.k3,.n,.r] [ps 82 (bv (decide (6<(((Lib.repeatL ([100]:TX) ((min (0-m) 7).toNat)).length:Nat):Int))))] ?_
   by_cases h34:6<(((Lib.repeatL ([100]:TX) ((min (0-m) 7).toNat)).length:Nat):Int)
   ·refine qQ (zO h34)<|qA<|qj mxd [] [ps 2 se,ps 3 (iv 3)] (oz) ?_
    rw [yO (s:=s) (h:=h) h1 (by omega) (Eq.trans (by rw [← hx,← hy]) (vT (by rw [← hm];exact (ZP h29 h31 h33)) h34))]
    exact zy hc0 [2,3] []
   refine qT (zM h34)<|qE<|qA<|qj mxd [(2,.val (.av (.string (st (([]:TX)++(Lib.repeatL ([100]:TX) ((min (0-m) 7).toNat))))))),(6,.call [] [(iv (x+1))] [] (sv (st (Lib.itoa (x+1)))) []),(7,.val (.av (.string (st ((([]:TX)++(Lib.repeatL ([100]:TX) ((min (0-m) 7).toNat)))++(Lib.itoa (x+1)))))))] [ps 2 (sv (st ((([]:TX)++(Lib.repeatL ([100]:TX) ((min (0-m) 7).toNat)))++(Lib.itoa (x+1))))),ps 3 (iv 0)] (oc (by first|omega|(simp only [List.length_append,List.length_cons,List.length_nil];omega):((([]:TX).length+(Lib.repeatL ([100]:TX) ((min (0-m) 7).toNat)).length:Nat):Int)≤9223372036854775807) (oc (qJ _ _:st ([]:TX)++st (Lib.repeatL ([100]:TX) ((min (0-m) 7).toNat))=st (([]:TX)++(Lib.repeatL ([100]:TX) ((min (0-m) 7).toNat)))) (oi (x+1) (by omega) (yC 560 (zx (x+1) (by omega) (by omega)) (oc (by first|omega|(simp only [List.length_append,List.length_cons,List.length_nil];omega):(((([]:TX)++(Lib.repeatL ([100]:TX) ((min (0-m) 7).toNat))).length+(Lib.itoa (x+1)).length:Nat):Int)≤9223372036854775807) (oc (qJ _ _:st (([]:TX)++(Lib.repeatL ([100]:TX) ((min (0-m) 7).toNat)))++st (Lib.itoa (x+1))=st ((([]:TX)++(Lib.repeatL ([100]:TX) ((min (0-m) 7).toNat)))++(Lib.itoa (x+1)))) oz)))))) ?_
   rw [yO (s:=s) (h:=h) h1 (by omega) (Eq.trans (by rw [← hx,← hy]) (yT (by rw [← hm];exact (ZP h29 h31 h33)) h34))]
   exact zy hc0 [2,3] []
  refine zj (b:=(qV x)) rfl (Bool.eq_false_iff.2 h33)<|qA<|qK mxd [.k3,.d,.n,.r] [ps 77 (bv (decide (m=(-1))))] ?_
  by_cases h35:m=(-1)
  ·refine qQ (zO h35)<|qK mxd [.k2,.d,.n,.d,.r] [ps 8 (sv (st ([109]:TX)))]<|zE<|qA<|qA<|qK mxd [.k3,.n,.r] [ps 82 (bv false)]<|zj (b:=false) rfl rfl<|qE<|qA<|qj mxd [(2,.val (.av (.string (st (([]:TX)++([109]:TX)))))),(6,.call [] [(iv (x+1))] [] (sv (st (Lib.itoa (x+1)))) []),(7,.val (.av (.string (st ((([]:TX)++([109]:TX))++(Lib.itoa (x+1)))))))] [ps 2 (sv (st ((([]:TX)++([109]:TX))++(Lib.itoa (x+1))))),ps 3 (iv 0)] (oc (by first|omega|(simp <;> omega):((([]:TX).length+([109]:TX).length:Nat):Int)≤9223372036854775807) (oc (qJ _ _:st ([]:TX)++st ([109]:TX)=st (([]:TX)++([109]:TX))) (oi (x+1) (by omega) (yC 552 (zx (x+1) (by omega) (by omega)) (oc (by first|omega|(simp <;> omega):(((([]:TX)++([109]:TX)).length+(Lib.itoa (x+1)).length:Nat):Int)≤9223372036854775807) (oc (qJ _ _:st (([]:TX)++([109]:TX))++st (Lib.itoa (x+1))=st ((([]:TX)++([109]:TX))++(Lib.itoa (x+1)))) oz)))))) ?_
   rw [yO (s:=s) (h:=h) h1 (by omega) (Eq.trans (by rw [← hx,← hy]) (yT (q:=[109]) (by rw [← hm];exact (qex h35 h33)) (by decide)))]
   exact zy hc0 [2,3] []
  refine qT (zM h35)<|zX mxd [(4,.call [] [(sv (st ([100]:TX))),(nv ((min ((0-m)-1) 7).toNat))] [] (sv (st (Lib.repeatL ([100]:TX) ((min ((0-m)-1) 7).toNat)))) [])] [.k2,.d,.n,.d,.r] [ps 8 (sv (st (Lib.repeatL ([100]:TX) ((min ((0-m)-1) 7).toNat))))] (oi (0-m) (by omega) (oi ((0-m)-1) (by omega) (oc (vw ([100]:TX) ((min ((0-m)-1) 7).toNat) (by omega) (by simp only [List.length_cons,List.length_nil];omega)) (oc (congrArg (fun z=>[(sv (st ([100]:TX))),iv z]) (show min ((0-m)-1) 7=(((min ((0-m)-1) 7).toNat:Nat):Int) from by omega):[(sv (st ([100]:TX))),(iv (min ((0-m)-1) 7))]=qM (qY [] 504) [(sv (st ([100]:TX))),(nv ((min ((0-m)-1) 7).toNat))]) oz)))) ?_
  refine zE<|qA<|qA<|qK mxd [.k3,.n,.r] [ps 82 (bv (decide (6<(((Lib.repeatL ([100]:TX) ((min ((0-m)-1) 7).toNat)).length:Nat):Int))))] ?_
  by_cases h36:6<(((Lib.repeatL ([100]:TX) ((min ((0-m)-1) 7).toNat)).length:Nat):Int)
  ·refine qQ (zO h36)<|qA<|qj mxd [] [ps 2 se,ps 3 (iv 3)] (oz) ?_
   rw [yO (s:=s) (h:=h) h1 (by omega) (Eq.trans (by rw [← hx,← hy]) (vT (by rw [← hm];exact (QA h29 h31 h33 h35)) h36))]
   exact zy hc0 [2,3] []
  refine qT (zM h36)<|qE<|qA<|qj mxd [(2,.val (.av (.string (st (([]:TX)++(Lib.repeatL ([100]:TX) ((min ((0-m)-1) 7).toNat))))))),(6,.call [] [(iv (x+1))] [] (sv (st (Lib.itoa (x+1)))) []),(7,.val (.av (.string (st ((([]:TX)++(Lib.repeatL ([100]:TX) ((min ((0-m)-1) 7).toNat)))++(Lib.itoa (x+1)))))))] [ps 2 (sv (st ((([]:TX)++(Lib.repeatL ([100]:TX) ((min ((0-m)-1) 7).toNat)))++(Lib.itoa (x+1))))),ps 3 (iv 0)] (oc (by first|omega|(simp only [List.length_append,List.length_cons,List.length_nil];omega):((([]:TX).length+(Lib.repeatL ([100]:TX) ((min ((0-m)-1) 7).toNat)).length:Nat):Int)≤9223372036854775807) (oc (qJ _ _:st ([]:TX)++st (Lib.repeatL ([100]:TX) ((min ((0-m)-1) 7).toNat))=st (([]:TX)++(Lib.repeatL ([100]:TX) ((min ((0-m)-1) 7).toNat)))) (oi (x+1) (by omega) (yC 592 (zx (x+1) (by omega) (by omega)) (oc (by first|omega|(simp only [List.length_append,List.length_cons,List.length_nil];omega):(((([]:TX)++(Lib.repeatL ([100]:TX) ((min ((0-m)-1) 7).toNat))).length+(Lib.itoa (x+1)).length:Nat):Int)≤9223372036854775807) (oc (qJ _ _:st (([]:TX)++(Lib.repeatL ([100]:TX) ((min ((0-m)-1) 7).toNat)))++st (Lib.itoa (x+1))=st ((([]:TX)++(Lib.repeatL ([100]:TX) ((min ((0-m)-1) 7).toNat)))++(Lib.itoa (x+1)))) oz)))))) ?_
  rw [yO (s:=s) (h:=h) h1 (by omega) (Eq.trans (by rw [← hx,← hy]) (yT (by rw [← hm];exact (QA h29 h31 h33 h35)) h36))]
  exact zy hc0 [2,3] []
 refine qQ (congrArg Bool.not (Bool.eq_false_iff.2 h1))<|qA<|qj mxd [] [ps 2 se,ps 3 (iv 3)] (oz) ?_
 rw [qfn (s:=s) (h:=h) h1]
 exact zy hc0 [2,3] []
end Go.Proofs.YtmlnilkbolcknaaGreatDoor.Pm
