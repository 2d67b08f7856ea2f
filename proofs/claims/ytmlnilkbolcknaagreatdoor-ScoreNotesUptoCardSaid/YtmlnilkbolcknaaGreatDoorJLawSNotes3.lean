/-
  SCORE: plain: a bar's items,told one by one. No program in sight. | SPANS: a leaf: a walk. (Printed by wip/pm/sp.py.) | SPANS: sharing out: a walk. (Printed by wip/pm/sp.py.) | SPANS: plain: leaves first,then where they stand: the same. | SCORE: plain: what is right with items that are counted;so many qG they take. No program in sight. | SCORE: plain: a bar's shares: as many qG as its items take;a bar told. No program in sight. | SCORE: plain: what is right with a piece that nothing is wrong with;what stays from bar to bar. No program in sight. | SCORE: plain: the notes of a bar,leaf by leaf (the document's way). No program in sight. | SCORE: plain: leaves as cells;what the document's bar needs. No program in sight. | THE WALKS of pitches,on: Between,Key,within,Sum,floor,Move,Mirror of the package. | MOVES: plain. | THE WALKS of pitches: of the reference: Abs,Right,Up,White,Steps,Halves,At,Within,Key. | THE WALKS of pitches: of the reference: At,Between,Sum,Move,Mirror. | TEXTS: small functions of pitches: the kit's kind of contracts,as contracts by values. | TEXTS: pitches moved: the kit's kind of contracts,as contracts by values. | PITCHES MOVED: walks. (Printed by wip/pm.) | THE VALUE MACHINE (PX): calls and operations that panic;functions that hand back or panic. No program in sight. | THE VALUE MACHINE: trailing dead numbers dropped where the result is a struct of values that nobody writes. No program in sight. | FROM THE ROW's LIST OF VARIABLES to what the walks ask of the world. | What every law's row of this seat needs: the arguments read qay the call as before it,whatever their types,if the call has turned nothing that was there. | THE VALUE MACHINE (Row): a law's arguments,opened to values. | SCORE: a text read: gaps and signs: walks. (Printed by wip/pm.) | SCORE: a text read: words: walks. (Printed by wip/pm.) | SCORE: the document's reader: signs and words: walks. (Printed by wip/pm.) | PITCHES AS TEXTS: signs,numbers: walks. (Printed by wip/pm.) | THE DOCUMENT's TEXTS: digits,pitches printed: walks. (Printed by wip/pm.) | THE DOCUMENT's TEXTS: numbers,intervals written: walks. (Printed by wip/pm.) | THE DOCUMENT's TEXTS: pitches read: walk. (Printed by wip/pm.) | PITCHES AS TEXTS: printed,read: walks. (Printed by wip/pm.) | SCORE: a text read: numbers and pitches: walks. (Printed by wip/pm.) | SCORE: how many ZX a text has: the kit's contract,by values. | SCORE: names,ZX: walks. (Printed by wip/pm.) | SCORE: a text read: lyrics: walk. (Printed by wip/pm.) | SCORE: the document's reader: numbers,pitches,lyrics: walks. (Printed by wip/pm.) | SCORE: plain: what the document's reader holds in its hands where a text is wrong: an item,items,pitches. No program in sight. | THE DOCUMENT's TEXTS: intervals read: walk. (Printed by wip/pm.) | CHORDS: plain,for the walks of their notes. No program in sight. | SCORE: the document's reader: items: walk. (Printed by wip/pm.) | THE VALUE MACHINE (DF): a function that puts off one call of a literal that recovers,with its two result cells lent to it. No program in sight. | SCORE: plain: what is read ends in no place,or in no piece;endings that hand on what is known. No program in sight. | SCORE: plain,for the document's reader: bars,voices,pieces: its loops;names. No program in sight. | SCORE: the document's reader: pieces: walk. (Printed by wip/pm.) | SCORE: may a text be sung: walk. (Printed by wip/pm.) | INTERVALS AS TEXTS: written: walks. (Printed by wip/pm.)
-/
import Derived.Test.YtmlnilkbolcknaaGreatDoorJLawSNotes2
import Derived.Test.YtmlnilkbolcknaaGreatDoorJLawSNotes1
import Derived.Test.YtmlnilkbolcknaaGreatDoorRows
import Derived.Lib.LaidU8T
import Derived.Lib.LaidTab
import Derived.PinnedBridge
import Derived.Lay
import Derived.WalkKit
import Derived.ProofKit
import Derived.OpenShut
import Derived.Lib.SmallJoins
import Derived.Below
import Derived.ChangeSame
import Derived.SizedLaws
import Derived.Deep.Matrix
import Derived.Shelf.Utf8.RuneCount
import Derived.Recover
set_option linter.unusedVariables false
set_option linter.unusedSimpArgs false
set_option linter.deprecated false
namespace Go.Proofs.YtmlnilkbolcknaaGreatDoor.Pm
open Go Fr
mutual
def WX (v a b:Int) (S:List Sp):It→List Iv→TsS→Int × TsS
 | .mk k s ps by_ ly ks,g,t=>if k=4 then zE v a b S ks g t else if k=5 then zE v a b S ks (by_ :: g) t else zK v a b S (.mk k s ps by_ ly ks) g t
def zE (v a b:Int) (S:List Sp):List It→List Iv→TsS→Int × TsS
 | [],_,t=>(0,t)
 | x :: l,g,t=>if (WX v a b S x g t).1=0 then zE v a b S l g (WX v a b S x g t).2 else WX v a b S x g t
end
theorem telI_eq {v a b:Int} {S:List Sp} (x:It) (g:List Iv) (t:TsS):WX v a b S x g t=if iK x=4 then zE v a b S (iC x) g t else if iK x=5 then zE v a b S (iC x) (iB x :: g) t else zK v a b S x g t:=by
 cases x with|mk k s ps by_ ly ks=>rw [WX];rfl
theorem telL_at {v a b:Int} {S:List Sp} {l:List It} {i:Nat} {g:List Iv} {t:TsS} (h:i<l.length):zE v a b S (l.drop i) g t=if (WX v a b S (l.getD i qB) g t).1=0 then zE v a b S (l.drop (i+1)) g (WX v a b S (l.getD i qB) g t).2 else WX v a b S (l.getD i qB) g t:=by
 rw [List.drop_eq_getElem_cons h,List.getD_eq_getElem?_getD,List.getElem?_eq_getElem h,zE];rfl
mutual
def lvs:It→Nat
 | .mk k _ _ _ _ ks=>if k=4∨k=5 then wv ks else 1
def wv:List It→Nat
 | []=>0
 | x :: l=>lvs x+wv l
end
theorem lvs_eq (x:It):lvs x=if iK x=4∨iK x=5 then wv (iC x) else 1:=by cases x with|mk k s ps by_ ly ks=>rw [lvs];rfl
theorem lvsL_at {l:List It} {i:Nat} (h:i<l.length):wv (l.drop i)=lvs (l.getD i qB)+wv (l.drop (i+1)):=by
 rw [List.drop_eq_getElem_cons h,List.getD_eq_getElem?_getD,List.getElem?_eq_getElem h,wv];rfl
mutual
def hgt:It→Nat
 | .mk _ _ _ _ _ ks=>hgtL ks+1
def hgtL:List It→Nat
 | []=>0
 | x :: l=>max (hgt x) (hgtL l)
end
theorem hgt_eq (x:It):hgt x=hgtL (iC x)+1:=by cases x with|mk k s ps by_ ly ks=>rw [hgt];rfl
theorem hgt_at:∀ {l:List It} {i:Nat},i<l.length→hgt (l.getD i qB)≤hgtL l
 | [],i,h=>absurd h (Nat.not_lt_zero i)
 | x :: l,0,_=>by rw [hgtL];exact Nat.le_max_left _ _
 | x :: l,i+1,h=>by
  rw [hgtL]
  have:=hgt_at (l:=l) (i:=i) (by simpa using h)
  refine Nat.le_trans ?_ (Nat.le_max_right _ _)
  simpa using this
mutual
def okI:It→Prop
 | .mk k _ ps _ _ ks=>(k=4∨k=5∨ps.length≤16)∧okL ks
def okL:List It→Prop
 | []=>True
 | x :: l=>okI x∧okL l
end
theorem okI_eq (x:It):okI x↔(iK x=4∨iK x=5∨(iP x).length≤16)∧okL (iC x):=by cases x with|mk k s ps by_ ly ks=>rw [okI];rfl
theorem ok_at:∀ {l:List It} {i:Nat},okL l→i<l.length→okI (l.getD i qB)
 | [],i,_,h=>absurd h (Nat.not_lt_zero i)
 | x :: l,0,h,_=>by rw [okL] at h;exact h.1
 | x :: l,i+1,h,hi=>by
  rw [okL] at h
  have:=ok_at (i:=i) h.2 (by simpa using hi)
  simpa using this

theorem qjy (g:List Iv):(zz g).length=g.length*2:=QH (fun i:Iv=>[iv i.1,iv i.2]) 2 (fun _=>rfl) g
theorem ivs_src (g:List Iv):0+g.length*2≤(zz g).length∧((zz g).drop 0).take (g.length*2)=zz g:=by
 rw [List.drop_zero,List.take_of_length_le (by rw [qjy];omega),qjy]
 exact ⟨by omega,rfl⟩
theorem ivs_cons (i:Iv) (g:List Iv):[iv i.1,iv i.2]++zz g=zz (i :: g):=by unfold zz;rw [List.flatMap_cons]
/-! ### what stays -/
def lgI (n:Nt):Prop:=I64 n.2.2.1.1∧I64 n.2.2.1.2
def ZR (t:TsS):Prop:=t.2.1≤t.1.length∧∀ n∈t.1,lgI n
theorem okTs_at {t:TsS} (h:ZR t):∀ i,i<t.1.length→I64 (t.1.getD i yE).2.2.1.1∧I64 (t.1.getD i yE).2.2.1.2:=fun i hi=>by
 rw [List.getD_eq_getElem?_getD,List.getElem?_eq_getElem hi]
 exact h.2 _ (List.getElem_mem hi)
theorem tieL_ok {u d:Int}:∀ l:List Nt,(tieL u d l).1.length=l.length∧((tieL u d l).2=0→(∀ n∈l,lgI n)→∀ n∈(tieL u d l).1,lgI n)
 | []=>⟨rfl,fun _ h=>h⟩
 | n :: l=>by
  have ih:=tieL_ok (u:=u) (d:=d) l
  rw [tieL]
  split
  ·rename_i h0
   refine ⟨by simp [ih.1],fun h1 h2 m hm=>?_⟩
   rcases List.mem_cons.1 hm with rfl|hm
   ·exact jN (qal h0)
   ·exact ih.2 h1 (fun n hn=>h2 n (by simp [hn])) m hm
  ·rename_i h0
   exact ⟨by simp,fun h1=>absurd h1 h0⟩
theorem tieF_ok {u d:Int} {N:List Nt} {i:Nat}:(WW u d N i).1.length=N.length∧((WW u d N i).2=0→(∀ n∈N,lgI n)→∀ n∈(WW u d N i).1,lgI n):=by
 have h:=tieL_ok (u:=u) (d:=d) (N.drop i)
 unfold WW
 refine ⟨by simp only [List.length_append,h.1,List.length_take,List.length_drop];omega,fun h1 h2 n hn=>?_⟩
 rcases List.mem_append.1 hn with hn|hn
 ·exact h2 n (List.mem_of_mem_take hn)
 ·exact h.2 h1 (fun m hm=>h2 m (List.mem_of_mem_drop hm)) n hn
theorem chord_ok {v:Int} {s gg:Int × Int} {ly:qQ} {by_:List Iv} (hg:I64 gg.1∧I64 gg.2):∀ (ps:List Pt) (N:List Nt),(wP v s gg ly by_ ps N).2=0→(∀ n∈N,lgI n) →
  (wP v s gg ly by_ ps N).1.length=N.length+ps.length∧∀ n∈(wP v s gg ly by_ ps N).1,lgI n
 | [],N,_,h2=>⟨rfl,h2⟩
 | p :: ps,N,h1,h2=>by
  rw [wP] at h1 ⊢
  split at h1
  ·rename_i h0
   rw [if_pos h0]
   have ih:=chord_ok (v:=v) (s:=s) (ly:=ly) (by_:=by_) hg ps (N++[(v,s,gg,(QE p by_).1,ly)]) h1 (fun n hn=>by
    rcases List.mem_append.1 hn with hn|hn
    ·exact h2 n hn
    ·rw [List.mem_singleton.1 hn];exact hg)
   exact ⟨by rw [ih.1];simp only [List.length_append,List.length_cons,List.length_nil];omega,ih.2⟩
  ·rename_i h0
   exact absurd h1 h0
theorem WN {v a b:Int} {S:List Sp} {x:It} {g:List Iv} {t:TsS} (hg:I64 (S.getD t.2.2 dS).2.2.1∧I64 (S.getD t.2.2 dS).2.2.2.1) (ht:ZR t) (h0:(zK v a b S x g t).1=0) :
  ZR (zK v a b S x g t).2∧(zK v a b S x g t).2.1.length≤t.1.length+(iP x).length∧(zK v a b S x g t).2.2.2=t.2.2+1:=by
 unfold zK at h0 ⊢
 split at h0
 ·rename_i c1
  rw [if_pos c1]
  split at h0
  ·rename_i c2
   rw [if_pos c2]
   exact ⟨⟨Nat.zero_le _,ht.2⟩,Nat.le_add_right _ _,rfl⟩
  ·rename_i c2
   rw [if_neg c2]
   split at h0
   ·rename_i c3
    rw [if_pos c3]
    have h:=tieF_ok (u:=(S.getD t.2.2 dS).2.2.1) (d:=(S.getD t.2.2 dS).2.2.2.1) (N:=t.1) (i:=t.1.length-t.2.1)
    exact ⟨⟨by show t.2.1≤_;rw [h.1];exact ht.1,h.2 h0 ht.2⟩,by show (WW _ _ _ _).1.length≤_;rw [h.1];omega,rfl⟩
   ·rename_i c3
    rw [if_neg c3]
    have h:=chord_ok (v:=v) (s:=((plus a b (S.getD t.2.2 dS).1 (S.getD t.2.2 dS).2.1).1,(plus a b (S.getD t.2.2 dS).1 (S.getD t.2.2 dS).2.1).2.1)) (gg:=((S.getD t.2.2 dS).2.2.1,(S.getD t.2.2 dS).2.2.2.1)) (ly:=iL x) (by_:=g) hg (iP x) t.1 h0 ht.2
    refine ⟨⟨?_,h.2⟩,by show (wP _ _ _ _ _ _ _).1.length≤_;rw [h.1];omega,rfl⟩
    show (if _ then (iP x).length else t.2.1)≤(wP _ _ _ _ _ _ _).1.length
    rw [if_pos h0,h.1]
    omega
 ·rename_i c1
  exact absurd h0 c1
mutual
theorem qgy {v a b:Int} {S:List Sp} (hS:∀ i,i<S.length→I64 (S.getD i dS).2.2.1∧I64 (S.getD i dS).2.2.2.1):∀ (x:It) (g:List Iv) (t:TsS),okI x→ZR t→t.2.2+lvs x≤S.length→(WX v a b S x g t).1=0 →
  ZR (WX v a b S x g t).2∧(WX v a b S x g t).2.1.length≤t.1.length+16*lvs x∧(WX v a b S x g t).2.2.2=t.2.2+lvs x
 | .mk k s ps by_ ly ks,g,t,ho,ht,hk,h0=>by
  rw [okI] at ho
  rw [lvs] at hk ⊢
  rw [WX] at h0 ⊢
  by_cases c4:k=4
  ·rw [if_pos c4] at h0 ⊢
   rw [if_pos (.inl c4)] at hk ⊢
   exact WD hS ks g t ho.2 ht hk h0
  rw [if_neg c4] at h0 ⊢
  by_cases c5:k=5
  ·rw [if_pos c5] at h0 ⊢
   rw [if_pos (.inr c5)] at hk ⊢
   exact WD hS ks _ t ho.2 ht hk h0
  rw [if_neg c5] at h0 ⊢
  rw [if_neg (by omega)] at hk ⊢
  have h:=WN (hS t.2.2 (by omega)) ht h0
  refine ⟨h.1,?_,h.2.2⟩
  have hp:ps.length≤16:=by omega
  have h2:=h.2.1
  simp only [iP] at h2
  omega
theorem WD {v a b:Int} {S:List Sp} (hS:∀ i,i<S.length→I64 (S.getD i dS).2.2.1∧I64 (S.getD i dS).2.2.2.1):∀ (l:List It) (g:List Iv) (t:TsS),okL l→ZR t→t.2.2+wv l≤S.length→(zE v a b S l g t).1=0 →
  ZR (zE v a b S l g t).2∧(zE v a b S l g t).2.1.length≤t.1.length+16*wv l∧(zE v a b S l g t).2.2.2=t.2.2+wv l
 | [],g,t,_,ht,_,_=>by rw [zE];exact ⟨ht,Nat.le_add_right _ _,rfl⟩
 | x :: l,g,t,ho,ht,hk,h0=>by
  rw [okL] at ho
  rw [wv] at hk ⊢
  rw [zE] at h0 ⊢
  split at h0
  ·rename_i c
   rw [if_pos c]
   have h1:=qgy hS x g t ho.1 ht (by omega) c
   have h2:=WD hS l g (WX v a b S x g t).2 ho.2 h1.1 (by omega) h0
   exact ⟨h2.1,by have:=h1.2.1;have:=h2.2.1;omega,by have:=h1.2.2;have:=h2.2.2;omega⟩
  ·rename_i c
   exact absurd h0 c
end
set_option maxRecDepth 100000
set_option maxHeartbeats 4000000
theorem snoc_len {α:Type} (L:List α) (x:α):(L++[x]).length=L.length+1:=by simp
theorem leaf_pc (k u d:Int) (L:List Sp) (a b:Int) (hr:rightB u d=true) (hs:Yy L a b) (hl:L.length≤100000):PC Tryz.prog 132 [(.opt 0 0),(iv k),(.agg [(iv u),(iv d)])] [some (159,[(.osl 1 0 L.length),(iv a),(iv b)]),some (187,(qG L))] (iv ((zv k u d L a b).1)) [some (159,[(.osl 2 0 ((zv k u d L a b).2.1.length)),(iv ((zv k u d L a b).2.2.1)),(iv ((zv k u d L a b).2.2.2))]),none,some (187,(qG ((zv k u d L a b).2.1)))]:=by
 obtain ⟨hu,hd⟩:=jN hr
 obtain ⟨ha,hb⟩:=jN hs.1
 refine zI Tryz.func132 rfl (by kernel_rfl) (Nat.le_of_ble_eq_true rfl) (by kernel_rfl) (l0:=[ps 0 (.opt 0 0),ps 1 (iv k),ps 2 (.agg [(iv u),(iv d)]),pb 0 159 [(.osl 1 0 L.length),(iv a),(iv b)],pb 1 187 (qG L)]) rfl (fun c0 Bor hc0=>?_)
 refine qA<|qL qC [.k2,.d,.n,.k2,.n] [ps 5 (.opt 2 0),pb 2 56 [(iv u),(iv d)]]<|qA<|QK qC [(5,.call [] [(.agg [(iv a),(iv b)]),(.agg [(iv u),(iv d)])] [] (.tup [(.agg [(iv ((Fr.plus a b u d).1)),(iv ((Fr.plus a b u d).2.1))]),(iv ((Fr.plus a b u d).2.2))]) [])] (bfm [[],[(0,1)],[(0,2)],[(0,3)],[],[(0,5)],[(0,6)],[(0,7)],[(0,7)],[],[(0,8),(9,1)],[(0,11)]]) [([24],[0]),([26],[24]),([28],[26]),([30],[1,28]),([32],[5,10]),([34],[30,32]),([22],[34]),([36],[22]),([38],[22]),([14,181],[]),([181],[14,36,181]),([16],[38])] [.k3,.n,.n,.k3,.n] [ps 7 (.opt 90 0),ps 8 (iv ((Fr.plus a b u d).2.2)),pb 90 56 [(iv ((Fr.plus a b u d).1)),(iv ((Fr.plus a b u d).2.1))]] (yD 58 (WK a b u d (by assumption) (by assumption) (by assumption) (by assumption)) oz)<|qA<|qA<|qL qC [.k5,.n,.r] [ps 21 (bv (!(decide (((Fr.plus a b u d).2.2)=0))))] ?_
 by_cases h1:((Fr.plus a b u d).2.2)=0
 ·refine qU (bt h1)<|qF<|qA<|qA<|qL qC [.k4,.d,.n,.d,.r] [ps 9 (nv L.length)]<|qA ?_
  by_cases h2:k=3
  ·refine zY qC (gy 3 2++[(5,.yes true)]) [.k5,.n,.r] [ps 33 (bv (decide (0<(L.length:Int))))] (oc (decide_eq_true h2) (oc (decide_eq_true h2) (oc (decide_eq_true h2) oz))) ?_
   by_cases h3:0<(L.length:Int)
   ·refine qR (decide_eq_true h3)<|qA<|zY qC [(6,.nat ((L.length-1)*5))] [.k1,.d,.k2,.d,.n,.d,.r] [ps 10 (.opt 1 ((L.length-1)*5))] (oi (((L.length:Nat):Int)-1) (by omega) (oc (by omega:(0:Int)≤(((L.length:Nat):Int)-1)∧(((L.length:Nat):Int)-1)<(L.length:Int)) (oc (by omega:0+(((L.length:Int)-1):Int).toNat*5=((L.length-1)*5)) oz)))<|qA ?_
    have hx:=jN (hs.2 (L.length-1) (by omega))
    obtain ⟨hx1,hx2⟩:=hx
    refine QK qC [(4,.cells [(iv ((L.getD (L.length-1) dS).2.2.1)),(iv ((L.getD (L.length-1) dS).2.2.2.1))]),(6,.call [] [(.agg [(iv ((L.getD (L.length-1) dS).2.2.1)),(iv ((L.getD (L.length-1) dS).2.2.2.1))]),(.agg [(iv u),(iv d)])] [] (.tup [(.agg [(iv ((Fr.plus ((L.getD (L.length-1) dS).2.2.1) ((L.getD (L.length-1) dS).2.2.2.1) u d).1)),(iv ((Fr.plus ((L.getD (L.length-1) dS).2.2.1) ((L.getD (L.length-1) dS).2.2.2.1) u d).2.1))]),(iv ((Fr.plus ((L.getD (L.length-1) dS).2.2.1) ((L.getD (L.length-1) dS).2.2.2.1) u d).2.2))]) []),(12,.cells (qG (vA L (Fr.plus (L.getD (L.length-1) dS).2.2.1 (L.getD (L.length-1) dS).2.2.2.1 u d).1 (Fr.plus (L.getD (L.length-1) dS).2.2.1 (L.getD (L.length-1) dS).2.2.2.1 u d).2.1)))] (bfm [[],[],[(1,1)],[(1,2)],[(1,3)],[],[(1,5)],[(1,6)],[(1,7)],[(1,7)],[(0,9)],[(0,9),(10,1)],[(0,9),(10,2)],[(0,13)]]) [([84],[20]),([86],[20]),([88],[86]),([90],[88]),([92],[3,90]),([94],[5,10]),([96],[92,94]),([82],[96]),([98],[82]),([100],[82]),([102],[84]),([104],[102]),([3],[3,98,104]),([16],[100])] [.k1,.d,.k1,.n,.d,.k1,.d,.n,.d,.r] [ps 8 (iv ((Fr.plus ((L.getD (L.length-1) dS).2.2.1) ((L.getD (L.length-1) dS).2.2.2.1) u d).2.2)),pb 1 187 (qG (vA L (Fr.plus (L.getD (L.length-1) dS).2.2.1 (L.getD (L.length-1) dS).2.2.2.1 u d).1 (Fr.plus (L.getD (L.length-1) dS).2.2.1 (L.getD (L.length-1) dS).2.2.2.1 u d).2.1))] (oc (yG spC 5 (fun _=>rfl) dS L (L.length-1) 2 2 (by omega) (by decide):((L.length-1)*5+2)+2≤((qG L)).length∧(((qG L)).drop ((L.length-1)*5+2)).take 2=[(iv ((L.getD (L.length-1) dS).2.2.1)),(iv ((L.getD (L.length-1) dS).2.2.2.1))]) (yD 338 (WK ((L.getD (L.length-1) dS).2.2.1) ((L.getD (L.length-1) dS).2.2.2.1) u d (by assumption) (by assumption) (by assumption) (by assumption)) (oc (qgt L _ _ (by omega):((L.length-1)*5+2)+2≤((qG L)).length∧vI (qG L) ((L.length-1)*5+2) [(iv ((Fr.plus ((L.getD (L.length-1) dS).2.2.1) ((L.getD (L.length-1) dS).2.2.2.1) u d).1)),(iv ((Fr.plus ((L.getD (L.length-1) dS).2.2.1) ((L.getD (L.length-1) dS).2.2.2.1) u d).2.1))]=(qG (vA L (Fr.plus (L.getD (L.length-1) dS).2.2.1 (L.getD (L.length-1) dS).2.2.2.1 u d).1 (Fr.plus (L.getD (L.length-1) dS).2.2.1 (L.getD (L.length-1) dS).2.2.2.1 u d).2.1))) oz))) ?_
    refine qA<|qL qC [.k3,.n,.r] [ps 54 (bv (!(decide (((Fr.plus ((L.getD (L.length-1) dS).2.2.1) ((L.getD (L.length-1) dS).2.2.2.1) u d).2.2)=0))))] ?_
    by_cases h4:((Fr.plus ((L.getD (L.length-1) dS).2.2.1) ((L.getD (L.length-1) dS).2.2.2.1) u d).2.2)=0
    ·refine qU (bt h4)<|qF<|qA<|qL qC [.d,.d,.d,.d,.d,.n,.k1,.d] [pb 0 159 [(.osl 1 0 L.length),(iv ((Fr.plus a b u d).1)),(iv ((Fr.plus a b u d).2.1))]]<|qA<|qL qC [.n,.r] [ps 6 (iv 0)] ?_
     rw [show zv k u d L a b=(0,vA L (Fr.plus (L.getD (L.length-1) dS).2.2.1 (L.getD (L.length-1) dS).2.2.2.1 u d).1 (Fr.plus (L.getD (L.length-1) dS).2.2.1 (L.getD (L.length-1) dS).2.2.2.1 u d).2.1,(Fr.plus a b u d).1,(Fr.plus a b u d).2.1) from by unfold zv;repeat (first|rw [if_pos (by assumption)]|rw [if_neg (by assumption)]|rw [if_pos (by omega)]|rw [if_neg (by omega)])]
     refine qY (Wk.eq (show _=[ps 6 (iv 0),pb 0 159 [(.osl 1 0 ((vA L (Fr.plus (L.getD (L.length-1) dS).2.2.1 (L.getD (L.length-1) dS).2.2.2.1 u d).1 (Fr.plus (L.getD (L.length-1) dS).2.2.1 (L.getD (L.length-1) dS).2.2.2.1 u d).2.1).length)),(iv ((Fr.plus a b u d).1)),(iv ((Fr.plus a b u d).2.1))],pb 1 187 (qG (vA L (Fr.plus (L.getD (L.length-1) dS).2.2.1 (L.getD (L.length-1) dS).2.2.2.1 u d).1 (Fr.plus (L.getD (L.length-1) dS).2.2.1 (L.getD (L.length-1) dS).2.2.2.1 u d).2.1))] from by rw [YJ])) ?_
     exact zj fun cx_ a_ hI_=>zV (H':=[some (159,[(.osl 2 0 ((vA L (Fr.plus (L.getD (L.length-1) dS).2.2.1 (L.getD (L.length-1) dS).2.2.2.1 u d).1 (Fr.plus (L.getD (L.length-1) dS).2.2.1 (L.getD (L.length-1) dS).2.2.2.1 u d).2.1).length)),(iv ((Fr.plus a b u d).1)),(iv ((Fr.plus a b u d).2.1))]),none,some (187,(qG (vA L (Fr.plus (L.getD (L.length-1) dS).2.2.1 (L.getD (L.length-1) dS).2.2.2.1 u d).1 (Fr.plus (L.getD (L.length-1) dS).2.2.1 (L.getD (L.length-1) dS).2.2.2.1 u d).2.1)))]) (.inr rfl) (Wk.ren3D [ps 6 (iv 0),pb 0 159 [(.osl 2 0 ((vA L (Fr.plus (L.getD (L.length-1) dS).2.2.1 (L.getD (L.length-1) dS).2.2.2.1 u d).1 (Fr.plus (L.getD (L.length-1) dS).2.2.1 (L.getD (L.length-1) dS).2.2.2.1 u d).2.1).length)),(iv ((Fr.plus a b u d).1)),(iv ((Fr.plus a b u d).2.1))],pb 2 187 (qG (vA L (Fr.plus (L.getD (L.length-1) dS).2.2.1 (L.getD (L.length-1) dS).2.2.2.1 u d).1 (Fr.plus (L.getD (L.length-1) dS).2.2.1 (L.getD (L.length-1) dS).2.2.2.1 u d).2.1))] 2 hc0 [0,1,1] [(kb 2,(qG (vA L (Fr.plus (L.getD (L.length-1) dS).2.2.1 (L.getD (L.length-1) dS).2.2.2.1 u d).1 (Fr.plus (L.getD (L.length-1) dS).2.2.1 (L.getD (L.length-1) dS).2.2.2.1 u d).2.1)))] (oc (yX _) (oz)) (by kernel_rfl) rfl (by kernel_rfl) (by kernel_rfl) (by kernel_rfl)) rfl (oc rfl (oc rfl (oz))) (fun cx_ a_ hI_=>zL (l':=[ps 6 (iv 0),pb 0 159 [(.osl 2 0 ((vA L (Fr.plus (L.getD (L.length-1) dS).2.2.1 (L.getD (L.length-1) dS).2.2.2.1 u d).1 (Fr.plus (L.getD (L.length-1) dS).2.2.1 (L.getD (L.length-1) dS).2.2.2.1 u d).2.1).length)),(iv ((Fr.plus a b u d).1)),(iv ((Fr.plus a b u d).2.1))],pb 2 187 (qG (vA L (Fr.plus (L.getD (L.length-1) dS).2.2.1 (L.getD (L.length-1) dS).2.2.2.1 u d).1 (Fr.plus (L.getD (L.length-1) dS).2.2.1 (L.getD (L.length-1) dS).2.2.2.1 u d).2.1))]) (by kernel_rfl) cx_ a_ hI_) hI_
    refine qR (bf h4)<|qA<|qL qC [.d,.n,.d,.d,.d,.k2,.d] [ps 6 (iv ((Fr.plus ((L.getD (L.length-1) dS).2.2.1) ((L.getD (L.length-1) dS).2.2.2.1) u d).2.2))] ?_
    rw [show zv k u d L a b=((Fr.plus ((L.getD (L.length-1) dS).2.2.1) ((L.getD (L.length-1) dS).2.2.2.1) u d).2.2,vA L (Fr.plus (L.getD (L.length-1) dS).2.2.1 (L.getD (L.length-1) dS).2.2.2.1 u d).1 (Fr.plus (L.getD (L.length-1) dS).2.2.1 (L.getD (L.length-1) dS).2.2.2.1 u d).2.1,a,b) from by unfold zv;repeat (first|rw [if_pos (by assumption)]|rw [if_neg (by assumption)]|rw [if_pos (by omega)]|rw [if_neg (by omega)])]
    refine qY (Wk.eq (show _=[ps 6 (iv ((Fr.plus ((L.getD (L.length-1) dS).2.2.1) ((L.getD (L.length-1) dS).2.2.2.1) u d).2.2)),pb 0 159 [(.osl 1 0 ((vA L (Fr.plus (L.getD (L.length-1) dS).2.2.1 (L.getD (L.length-1) dS).2.2.2.1 u d).1 (Fr.plus (L.getD (L.length-1) dS).2.2.1 (L.getD (L.length-1) dS).2.2.2.1 u d).2.1).length)),(iv a),(iv b)],pb 1 187 (qG (vA L (Fr.plus (L.getD (L.length-1) dS).2.2.1 (L.getD (L.length-1) dS).2.2.2.1 u d).1 (Fr.plus (L.getD (L.length-1) dS).2.2.1 (L.getD (L.length-1) dS).2.2.2.1 u d).2.1))] from by rw [YJ])) ?_
    exact zj fun cx_ a_ hI_=>zV (H':=[some (159,[(.osl 2 0 ((vA L (Fr.plus (L.getD (L.length-1) dS).2.2.1 (L.getD (L.length-1) dS).2.2.2.1 u d).1 (Fr.plus (L.getD (L.length-1) dS).2.2.1 (L.getD (L.length-1) dS).2.2.2.1 u d).2.1).length)),(iv a),(iv b)]),none,some (187,(qG (vA L (Fr.plus (L.getD (L.length-1) dS).2.2.1 (L.getD (L.length-1) dS).2.2.2.1 u d).1 (Fr.plus (L.getD (L.length-1) dS).2.2.1 (L.getD (L.length-1) dS).2.2.2.1 u d).2.1)))]) (.inr rfl) (Wk.ren3D [ps 6 (iv ((Fr.plus ((L.getD (L.length-1) dS).2.2.1) ((L.getD (L.length-1) dS).2.2.2.1) u d).2.2)),pb 0 159 [(.osl 2 0 ((vA L (Fr.plus (L.getD (L.length-1) dS).2.2.1 (L.getD (L.length-1) dS).2.2.2.1 u d).1 (Fr.plus (L.getD (L.length-1) dS).2.2.1 (L.getD (L.length-1) dS).2.2.2.1 u d).2.1).length)),(iv a),(iv b)],pb 2 187 (qG (vA L (Fr.plus (L.getD (L.length-1) dS).2.2.1 (L.getD (L.length-1) dS).2.2.2.1 u d).1 (Fr.plus (L.getD (L.length-1) dS).2.2.1 (L.getD (L.length-1) dS).2.2.2.1 u d).2.1))] 2 hc0 [0,1,1] [(kb 2,(qG (vA L (Fr.plus (L.getD (L.length-1) dS).2.2.1 (L.getD (L.length-1) dS).2.2.2.1 u d).1 (Fr.plus (L.getD (L.length-1) dS).2.2.1 (L.getD (L.length-1) dS).2.2.2.1 u d).2.1)))] (oc (yX _) (oz)) (by kernel_rfl) rfl (by kernel_rfl) (by kernel_rfl) (by kernel_rfl)) rfl (oc rfl (oc rfl (oz))) (fun cx_ a_ hI_=>zL (l':=[ps 6 (iv ((Fr.plus ((L.getD (L.length-1) dS).2.2.1) ((L.getD (L.length-1) dS).2.2.2.1) u d).2.2)),pb 0 159 [(.osl 2 0 ((vA L (Fr.plus (L.getD (L.length-1) dS).2.2.1 (L.getD (L.length-1) dS).2.2.2.1 u d).1 (Fr.plus (L.getD (L.length-1) dS).2.2.1 (L.getD (L.length-1) dS).2.2.2.1 u d).2.1).length)),(iv a),(iv b)],pb 2 187 (qG (vA L (Fr.plus (L.getD (L.length-1) dS).2.2.1 (L.getD (L.length-1) dS).2.2.2.1 u d).1 (Fr.plus (L.getD (L.length-1) dS).2.2.1 (L.getD (L.length-1) dS).2.2.2.1 u d).2.1))]) (by kernel_rfl) cx_ a_ hI_) hI_
   refine qU (decide_eq_false h3)<|QK qC [(14,.app none (some (qG (L++[(a,b,u,d,(decide (k=1)))]))))] (bfr [(0,0),(0,0),(1,1),(1,2),(1,3),(0,0),(5,1),(5,2),(5,3),(0,0),(0,0),(10,1),(5,7),(5,8),(1,13),(0,15),(0,16),(0,17)]) [([112],[0]),([114],[0]),([116],[114]),([118],[116]),([120],[1,118]),([122],[0]),([124],[122]),([126],[124]),([128],[1,126]),([130],[5,10]),([132],[2]),([134],[132]),([136],[128,130,134]),([138,661],[136]),([140,3,677],[3,120,138,661]),([142],[112]),([144],[142]),([1],[1,140,144])] [.k1,.d,.d,.k1,.d,.d,.d,.n,.d,.d,.k1,.n] [pb 0 159 [(.osl 338 0 (L.length+1)),(iv a),(iv b)],pb 338 187 (qG (L++[(a,b,u,d,(decide (k=1)))]))] (oc (qha _:((qG L)).length=L.length*5) (oc (by omega:(L.length+1)*40≤140737488355328∧L.length+1≤9223372036854775807) (oc ((wz spC L [(a,b,u,d,(decide (k=1)))]).symm:(qG L)++[(iv a),(iv b),(iv u),(iv d),(bv (decide (k=1)))]=(qG (L++[(a,b,u,d,(decide (k=1)))]))) oz)))<|qA<|qL qC [.d,.d,.d,.n,.d,.r] [pb 0 159 [(.osl 338 0 (L.length+1)),(iv ((Fr.plus a b u d).1)),(iv ((Fr.plus a b u d).2.1))]]<|qA<|qL qC [.n,.r] [ps 6 (iv 0)] ?_
   rw [show zv k u d L a b=(0,L++[(a,b,u,d,(decide (k=1)))],(Fr.plus a b u d).1,(Fr.plus a b u d).2.1) from by unfold zv;repeat (first|rw [if_pos (by assumption)]|rw [if_neg (by assumption)]|rw [if_pos (by omega)]|rw [if_neg (by omega)])]
   refine qY (Wk.eq (show _=[ps 6 (iv 0),pb 0 159 [(.osl 338 0 ((L++[(a,b,u,d,(decide (k=1)))]).length)),(iv ((Fr.plus a b u d).1)),(iv ((Fr.plus a b u d).2.1))],pb 338 187 (qG (L++[(a,b,u,d,(decide (k=1)))]))] from by rw [snoc_len])) ?_
   exact zj fun cx_ a_ hI_=>zV (H':=[some (159,[(.osl 2 0 ((L++[(a,b,u,d,(decide (k=1)))]).length)),(iv ((Fr.plus a b u d).1)),(iv ((Fr.plus a b u d).2.1))]),none,some (187,(qG (L++[(a,b,u,d,(decide (k=1)))])))]) (.inr rfl) (Wk.ren3 [ps 6 (iv 0),pb 0 159 [(.osl 2 0 ((L++[(a,b,u,d,(decide (k=1)))]).length)),(iv ((Fr.plus a b u d).1)),(iv ((Fr.plus a b u d).2.1))],pb 2 187 (qG (L++[(a,b,u,d,(decide (k=1)))]))] 2 hc0 [0,1,338] [(kb 2,(qG (L++[(a,b,u,d,(decide (k=1)))])))] (oc (yX _) (oz)) (by kernel_rfl) rfl rfl (by kernel_rfl) (by kernel_rfl)) rfl (oc rfl (oc rfl (oz))) (fun cx_ a_ hI_=>zL (l':=[ps 6 (iv 0),pb 0 159 [(.osl 2 0 ((L++[(a,b,u,d,(decide (k=1)))]).length)),(iv ((Fr.plus a b u d).1)),(iv ((Fr.plus a b u d).2.1))],pb 2 187 (qG (L++[(a,b,u,d,(decide (k=1)))]))]) (by kernel_rfl) cx_ a_ hI_) hI_
  refine zY qC (gn 3 2++[(5,.yes false)]) [.k5,.n,.r] [ps 33 (bv false)] (oc (decide_eq_false h2) (oc (decide_eq_false h2) (oc (decide_eq_false h2) oz)))<|zk (b:=false) rfl rfl<|QK qC [(14,.app none (some (qG (L++[(a,b,u,d,(decide (k=1)))]))))] (bfr [(0,0),(0,0),(1,1),(1,2),(1,3),(0,0),(5,1),(5,2),(5,3),(0,0),(0,0),(10,1),(5,7),(5,8),(1,13),(0,15),(0,16),(0,17)]) [([112],[0]),([114],[0]),([116],[114]),([118],[116]),([120],[1,118]),([122],[0]),([124],[122]),([126],[124]),([128],[1,126]),([130],[5,10]),([132],[2]),([134],[132]),([136],[128,130,134]),([138,661],[136]),([140,3,677],[3,120,138,661]),([142],[112]),([144],[142]),([1],[1,140,144])] [.k1,.d,.d,.k1,.d,.d,.d,.n,.d,.d,.k1,.n] [pb 0 159 [(.osl 338 0 (L.length+1)),(iv a),(iv b)],pb 338 187 (qG (L++[(a,b,u,d,(decide (k=1)))]))] (oc (qha _:((qG L)).length=L.length*5) (oc (by omega:(L.length+1)*40≤140737488355328∧L.length+1≤9223372036854775807) (oc ((wz spC L [(a,b,u,d,(decide (k=1)))]).symm:(qG L)++[(iv a),(iv b),(iv u),(iv d),(bv (decide (k=1)))]=(qG (L++[(a,b,u,d,(decide (k=1)))]))) oz)))<|qA<|qL qC [.d,.d,.d,.n,.d,.r] [pb 0 159 [(.osl 338 0 (L.length+1)),(iv ((Fr.plus a b u d).1)),(iv ((Fr.plus a b u d).2.1))]]<|qA<|qL qC [.n,.r] [ps 6 (iv 0)] ?_
  rw [show zv k u d L a b=(0,L++[(a,b,u,d,(decide (k=1)))],(Fr.plus a b u d).1,(Fr.plus a b u d).2.1) from by unfold zv;repeat (first|rw [if_pos (by assumption)]|rw [if_neg (by assumption)]|rw [if_pos (by omega)]|rw [if_neg (by omega)])]
  refine qY (Wk.eq (show _=[ps 6 (iv 0),pb 0 159 [(.osl 338 0 ((L++[(a,b,u,d,(decide (k=1)))]).length)),(iv ((Fr.plus a b u d).1)),(iv ((Fr.plus a b u d).2.1))],pb 338 187 (qG (L++[(a,b,u,d,(decide (k=1)))]))] from by rw [snoc_len])) ?_
  exact zj fun cx_ a_ hI_=>zV (H':=[some (159,[(.osl 2 0 ((L++[(a,b,u,d,(decide (k=1)))]).length)),(iv ((Fr.plus a b u d).1)),(iv ((Fr.plus a b u d).2.1))]),none,some (187,(qG (L++[(a,b,u,d,(decide (k=1)))])))]) (.inr rfl) (Wk.ren3 [ps 6 (iv 0),pb 0 159 [(.osl 2 0 ((L++[(a,b,u,d,(decide (k=1)))]).length)),(iv ((Fr.plus a b u d).1)),(iv ((Fr.plus a b u d).2.1))],pb 2 187 (qG (L++[(a,b,u,d,(decide (k=1)))]))] 2 hc0 [0,1,338] [(kb 2,(qG (L++[(a,b,u,d,(decide (k=1)))])))] (oc (yX _) (oz)) (by kernel_rfl) rfl rfl (by kernel_rfl) (by kernel_rfl)) rfl (oc rfl (oc rfl (oz))) (fun cx_ a_ hI_=>zL (l':=[ps 6 (iv 0),pb 0 159 [(.osl 2 0 ((L++[(a,b,u,d,(decide (k=1)))]).length)),(iv ((Fr.plus a b u d).1)),(iv ((Fr.plus a b u d).2.1))],pb 2 187 (qG (L++[(a,b,u,d,(decide (k=1)))]))]) (by kernel_rfl) cx_ a_ hI_) hI_
 refine qR (bf h1)<|qA<|qL qC [.d,.d,.d,.n,.d,.d,.d,.k2,.d,.d] [ps 6 (iv ((Fr.plus a b u d).2.2))] ?_
 rw [show zv k u d L a b=((Fr.plus a b u d).2.2,L,a,b) from by unfold zv;repeat (first|rw [if_pos (by assumption)]|rw [if_neg (by assumption)]|rw [if_pos (by omega)]|rw [if_neg (by omega)])]
 exact zj fun cx_ a_ hI_=>zV (H':=[some (159,[(.osl 2 0 ((L).length)),(iv a),(iv b)]),none,some (187,(qG L))]) (.inr rfl) (Wk.ren3D [ps 6 (iv ((Fr.plus a b u d).2.2)),pb 0 159 [(.osl 2 0 L.length),(iv a),(iv b)],pb 2 187 (qG L)] 2 hc0 [0,1,1] [(kb 2,(qG L))] (oc (yX _) (oz)) (by kernel_rfl) rfl (by kernel_rfl) (by kernel_rfl) (by kernel_rfl)) rfl (oc rfl (oc rfl (oz))) (fun cx_ a_ hI_=>zL (l':=[ps 6 (iv ((Fr.plus a b u d).2.2)),pb 0 159 [(.osl 2 0 L.length),(iv a),(iv b)],pb 2 187 (qG L)]) (by kernel_rfl) cx_ a_ hI_) hI_
abbrev aD1 (b:Beat) (i:Nat):=Fr.make (sh ((qM b).getD i dB)) (vP (qM b))
abbrev vO (b:Beat) (i:Nat) (u d:Int):=Fr.times ((aD1 b i).1) ((aD1 b i).2.1) u d
theorem WF {l:List Beat} {i:Nat} {all u d:Int} {st:StS} (h:i<l.length):yM (l.drop i) all u d st =
  if (make (sh (l.getD i dB)) all).2.2=0 then
   if (times (make (sh (l.getD i dB)) all).1 (make (sh (l.getD i dB)) all).2.1 u d).2.2=0 then
    if (qP (l.getD i dB) (times (make (sh (l.getD i dB)) all).1 (make (sh (l.getD i dB)) all).2.1 u d).1 (times (make (sh (l.getD i dB)) all).1 (make (sh (l.getD i dB)) all).2.1 u d).2.1 st).1=0
    then yM (l.drop (i+1)) all u d (qP (l.getD i dB) (times (make (sh (l.getD i dB)) all).1 (make (sh (l.getD i dB)) all).2.1 u d).1 (times (make (sh (l.getD i dB)) all).1 (make (sh (l.getD i dB)) all).2.1 u d).2.1 st).2
    else qP (l.getD i dB) (times (make (sh (l.getD i dB)) all).1 (make (sh (l.getD i dB)) all).2.1 u d).1 (times (make (sh (l.getD i dB)) all).1 (make (sh (l.getD i dB)) all).2.1 u d).2.1 st
   else ((times (make (sh (l.getD i dB)) all).1 (make (sh (l.getD i dB)) all).2.1 u d).2.2,st)
  else ((make (sh (l.getD i dB)) all).2.2,st):=by rw [WR h,yM]
theorem share_step (b:Beat) (ih:∀ c:Beat,SizeOf.sizeOf c<SizeOf.sizeOf b→∀ (u d:Int) (L:List Sp) (a b3:Int),rightB u d=true→Yy L a b3→Wq c→cnt c≤4096→L.length+cnt c≤90000→PC Tryz.prog 102 [.opt 0 0,.agg (gB c),Yk u d] [some (159,[(.osl 1 0 L.length),(iv a),(iv b3)]),some (187,(qG L))] (iv (qP c u d (L,a,b3)).1) [some (159,[(.osl 2 0 ((qP c u d (L,a,b3)).2.1.length)),(iv ((qP c u d (L,a,b3)).2.2.1)),(iv ((qP c u d (L,a,b3)).2.2.2))]),none,some (187,(qG ((qP c u d (L,a,b3)).2.1)))]) (u d:Int) (L:List Sp) (a b3:Int) (hr:rightB u d=true) (hs:Yy L a b3) (hgood:Wq b) (hc:L.length+cnt b≤90000) (hc2:cnt b≤4096):PC Tryz.prog 102 [(.opt 0 0),(.agg [(iv (kd b)),(iv (sh b)),(.ssl (kc b) 0 ((qM b).length))]),(.agg [(iv u),(iv d)])] [some (159,[(.osl 1 0 L.length),(iv a),(iv b3)]),some (187,(qG L))] (iv ((qP b u d (L,a,b3)).1)) [some (159,[(.osl 2 0 ((qP b u d (L,a,b3)).2.1.length)),(iv ((qP b u d (L,a,b3)).2.2.1)),(iv ((qP b u d (L,a,b3)).2.2.2))]),none,some (187,(qG ((qP b u d (L,a,b3)).2.1)))]:=by
 obtain ⟨hu,hd⟩:=jN hr
 refine zI Tryz.func102 rfl (by kernel_rfl) (Nat.le_of_ble_eq_true rfl) (by kernel_rfl) (l0:=[ps 0 (.opt 0 0),ps 1 (.agg [(iv (kd b)),(iv (sh b)),(.ssl (kc b) 0 ((qM b).length))]),ps 2 (.agg [(iv u),(iv d)]),pb 0 159 [(.osl 1 0 L.length),(iv a),(iv b3)],pb 1 187 (qG L)]) rfl (fun c0 Bor hc0=>?_)
 refine qA<|qL qC [.k1,.d,.d,.n,.n,.k2,.n,.n] [ps 4 (.opt 2 0),ps 5 (.opt 10 0),pb 2 125 [(iv (kd b)),(iv (sh b)),(.ssl (kc b) 0 ((qM b).length))],pb 10 56 [(iv u),(iv d)]]<|qA<|qA<|qL qC [.k3,.n,.r] [ps 16 (bv (!(decide ((kd b)=4))))] ?_
 by_cases h1:(kd b)=4
 ·refine qU (bt h1)<|qF<|qA<|qL qC [.k3,.n,.d,.r] [ps 7 (iv 0)]<|qA<|qA<|qL qC [.k4,.n,.n,.n,.r] [ps 23 (.ssl (kc b) 0 ((qM b).length)),ps 24 (nv ((qM b).length)),ps 25 (iv 0)]<|qV ?_
  have hk4:kd b=4:=h1
  obtain ⟨hg1,hg2,hg3,hg⟩:=(qkb b).1 hgood
  have hcn:=cnt_eq b
  have hkl:=qge (qM b)
  have hsum:=qcu hg
  have hne:0<(qM b).length:=List.length_pos_iff.2 (hg3 hk4)
  refine qY (Wk.eq (show _=[ps 0 (.opt 0 0),ps 4 (.opt 2 0),ps 5 (.opt 10 0),ps 7 (iv (vP ((qM b).take 0))),ps 23 (.ssl (kc b) 0 ((qM b).length)),ps 24 (nv ((qM b).length)),ps 25 (iv 0),pb 0 159 [(.osl 1 0 L.length),(iv a),(iv b3)],pb 1 187 (qG L),pb 2 125 [(iv (kd b)),(iv (sh b)),(.ssl (kc b) 0 ((qM b).length))],pb 10 56 [(iv u),(iv d)]] from by rfl)) ?_
  refine yC (α:={x:Nat // x≤(qM b).length}) (fun x=>[ps 0 (.opt 0 0),ps 4 (.opt 2 0),ps 5 (.opt 3 0),ps 7 (iv (vP ((qM b).take x.1))),ps 23 (.ssl (kc b) 0 ((qM b).length)),ps 24 (nv ((qM b).length)),ps 25 (nv x.1),pb 0 159 [(.osl 1 0 L.length),(iv a),(iv b3)],pb 1 187 (qG L),pb 2 125 [(iv (kd b)),(iv (sh b)),(.ssl (kc b) 0 ((qM b).length))],pb 3 56 [(iv u),(iv d)]]) (fun x=>(qM b).length-x.1) 4 ⟨0,Nat.zero_le _⟩ (Wk.ren3 _ 2 hc0 [0,1,2,10] [(kb 1,(qG L))] (oc (yX _) (oz)) (by kernel_rfl) rfl rfl (by kernel_rfl) (by kernel_rfl)) ?_
  rintro ⟨i,hi⟩
  refine qA<|qk qC [] [ps 0 (.opt 0 0),ps 4 (.opt 2 0),ps 5 (.opt 3 0),ps 7 (iv (vP ((qM b).take i))),ps 23 (.ssl (kc b) 0 ((qM b).length)),ps 24 (nv ((qM b).length)),ps 25 (nv i),ps 26 (bv (decide (((i:Nat):Int)<(((qM b).length:Nat):Int)))),pb 0 159 [(.osl 1 0 L.length),(iv a),(iv b3)],pb 1 187 (qG L),pb 2 125 [(iv (kd b)),(iv (sh b)),(.ssl (kc b) 0 ((qM b).length))],pb 3 56 [(iv u),(iv d)]] (oz)<|qA ?_
  by_cases h2:(i:Int)<(((qM b).length:Nat):Int)
  ·refine qR (decide_eq_true h2)<|qF<|qA<|qV<|qA<|zY qC [(0,.nat (i*3)),(1,.cells [(iv (kd ((qM b).getD i dB))),(iv (sh ((qM b).getD i dB))),(.ssl (kc ((qM b).getD i dB)) 0 ((qM ((qM b).getD i dB)).length))])] [.k4,.n,.k3,.d,.k4,.n] [ps 9 (.opt 28 0),pb 28 125 [(iv (kd ((qM b).getD i dB))),(iv (sh ((qM b).getD i dB))),(.ssl (kc ((qM b).getD i dB)) 0 ((qM ((qM b).getD i dB)).length))]] (oc (by omega:(0:Int)≤(i:Int)∧(i:Int)<(((qM b).length:Nat):Int)) (oc (by omega:0+(((i:Nat):Int):Int).toNat*3=(i*3)) (oc (kc_at b i 0 3 (by omega) (by decide):(i*3)+3≤((kc b)).length∧(((kc b)).drop (i*3)).take 3=[(iv (kd ((qM b).getD i dB))),(iv (sh ((qM b).getD i dB))),(.ssl (kc ((qM b).getD i dB)) 0 ((qM ((qM b).getD i dB)).length))]) oz))) ?_
   have hsb:=sumSh_bd hg (i+1) (by omega)
   rw [qek (by omega)] at hsb
   refine zY qC [] [.k3,.d,.n,.d,.k7,.d] [ps 7 (iv ((vP ((qM b).take i))+(sh ((qM b).getD i dB))))] (oi ((vP ((qM b).take i))+(sh ((qM b).getD i dB))) (by omega) oz)<|zF<|zY qC [] [.k6,.d,.n,.r] [ps 25 (iv (((i:Nat):Int)+1))] (oi (((i:Nat):Int)+1) (by omega) oz) ?_
   exact zR ⟨i+1,by omega⟩ (Wk.trans (Wk.eq (show _=[ps 0 (.opt 0 0),ps 4 (.opt 2 0),ps 5 (.opt 3 0),ps 7 (iv (vP ((qM b).take (i+1)))),ps 23 (.ssl (kc b) 0 ((qM b).length)),ps 24 (nv ((qM b).length)),ps 25 (iv (((i:Nat):Int)+1)),pb 0 159 [(.osl 1 0 L.length),(iv a),(iv b3)],pb 1 187 (qG L),pb 2 125 [(iv (kd b)),(iv (sh b)),(.ssl (kc b) 0 ((qM b).length))],pb 3 56 [(iv u),(iv d)]] from by rw [qek (by omega)])) (Wk.ren3 _ 2 hc0 [0,1,2,3] [(kb 1,(qG L))] (oc (yX _) (oz)) (by kernel_rfl) rfl rfl (by kernel_rfl) (by kernel_rfl))) (show (qM b).length-(i+1)<(qM b).length-i from by omega)
  refine qU (decide_eq_false h2)<|zS rfl rfl<|qA<|qA ?_
  obtain rfl:i=(qM b).length:=by omega
  refine qY (Wk.eq (show _=[ps 0 (.opt 0 0),ps 4 (.opt 2 0),ps 5 (.opt 3 0),ps 7 (iv (vP (qM b))),ps 23 (.ssl (kc b) 0 ((qM b).length)),ps 24 (nv ((qM b).length)),ps 25 (nv ((qM b).length)),ps 26 (bv (decide (((((qM b).length):Nat):Int)<(((qM b).length:Nat):Int)))),pb 0 159 [(.osl 1 0 L.length),(iv a),(iv b3)],pb 1 187 (qG L),pb 2 125 [(iv (kd b)),(iv (sh b)),(.ssl (kc b) 0 ((qM b).length))],pb 3 56 [(iv u),(iv d)]] from by rw [List.take_length])) ?_
  refine qL qC [.k1,.d,.k2,.d,.d,.d,.d,.n,.n,.n,.k2,.d,.r] [ps 35 (.ssl (kc b) 0 ((qM b).length)),ps 36 (nv ((qM b).length)),ps 37 (iv 0)]<|qV<|yC (α:={x:Nat × List Sp × Int × Int // x.1≤(qM b).length∧yM ((qM b).drop x.1) (vP (qM b)) u d (x.2.1,x.2.2.1,x.2.2.2)=yM (qM b) (vP (qM b)) u d (L,a,b3)∧Yy x.2.1 x.2.2.1 x.2.2.2∧x.2.1.length+ZH ((qM b).drop x.1)≤L.length+ZH (qM b)∧ZH ((qM b).drop x.1)≤ZH (qM b)}) (fun x=>[ps 0 (.opt 0 0),ps 5 (.opt 3 0),ps 7 (iv (vP (qM b))),ps 35 (.ssl (kc b) 0 ((qM b).length)),ps 36 (nv ((qM b).length)),ps 37 (nv x.1.1),pb 0 159 [(.osl 2 0 x.1.2.1.length),(iv x.1.2.2.1),(iv x.1.2.2.2)],pb 2 187 (qG x.1.2.1),pb 3 56 [(iv u),(iv d)]]) (fun x=>(qM b).length-x.1.1) 4 ⟨(0,L,a,b3),⟨Nat.zero_le _,rfl,hs,Nat.le_refl _,Nat.le_refl _⟩⟩ (Wk.ren3D _ 2 hc0 [0,1,1,3] [(kb 2,(qG L))] (oc (yX _) (oz)) (by kernel_rfl) rfl (by kernel_rfl) (by kernel_rfl) (by kernel_rfl)) ?_
  rintro ⟨⟨i,L2,a2,b2⟩,⟨hi,hL,hs2,hn,hcd⟩⟩
  dsimp only at hi hL hs2 hn hcd
  refine qA<|qk qC [] [ps 0 (.opt 0 0),ps 5 (.opt 3 0),ps 7 (iv (vP (qM b))),ps 35 (.ssl (kc b) 0 ((qM b).length)),ps 36 (nv ((qM b).length)),ps 37 (nv i),ps 38 (bv (decide (((i:Nat):Int)<(((qM b).length:Nat):Int)))),pb 0 159 [(.osl 2 0 L2.length),(iv a2),(iv b2)],pb 2 187 (qG L2),pb 3 56 [(iv u),(iv d)]] (oz)<|qA ?_
  by_cases h3:(i:Int)<(((qM b).length:Nat):Int)
  ·refine qR (decide_eq_true h3)<|qF<|qA<|qV<|qA<|zY qC [(0,.nat (i*3)),(1,.cells [(iv (kd ((qM b).getD i dB))),(iv (sh ((qM b).getD i dB))),(.ssl (kc ((qM b).getD i dB)) 0 ((qM ((qM b).getD i dB)).length))])] [.k3,.n,.k3,.d,.k3,.n] [ps 11 (.opt 28 0),pb 28 125 [(iv (kd ((qM b).getD i dB))),(iv (sh ((qM b).getD i dB))),(.ssl (kc ((qM b).getD i dB)) 0 ((qM ((qM b).getD i dB)).length))]] (oc (by omega:(0:Int)≤(i:Int)∧(i:Int)<(((qM b).length:Nat):Int)) (oc (by omega:0+(((i:Nat):Int):Int).toNat*3=(i*3)) (oc (kc_at b i 0 3 (by omega) (by decide):(i*3)+3≤((kc b)).length∧(((kc b)).drop (i*3)).take 3=[(iv (kd ((qM b).getD i dB))),(iv (sh ((qM b).getD i dB))),(.ssl (kc ((qM b).getD i dB)) 0 ((qM ((qM b).getD i dB)).length))]) oz)))<|qA ?_
   have hgx:=goodL_at hg (show i<(qM b).length by omega)
   have hgx2:=(qkb _).1 hgx
   have hca:=qkj (l:=qM b) (i:=i) (by omega)
   have hmr:(-1073741824≤(aD1 b i).1∧(aD1 b i).1≤1073741824)∧(-1073741824≤(aD1 b i).2.1∧(aD1 b i).2.1≤1073741824)∧(0≤(aD1 b i).2.2∧(aD1 b i).2.2≤4):=make_range _ _
   refine vK qC 3 [.k4,.n,.n,.k7,.n] [ps 12 (.opt 100 0),ps 13 (iv ((aD1 b i).2.2)),pb 100 56 [(iv ((aD1 b i).1)),(iv ((aD1 b i).2.1))]] (yD 68 (qjr (sh ((qM b).getD i dB)) (vP (qM b)) (by unfold Fr.I64;omega) (by unfold Fr.I64;omega)) oz)<|qA<|qA<|qL qC [.k8,.k1,.n,.r] [ps 49 (bv (decide (((aD1 b i).2.2)=0)))] ?_
   by_cases h4:((aD1 b i).2.2)=0
   ·refine qR (decide_eq_true h4)<|vK qC 2 [.k5,.d,.n,.k3,.d,.k4,.d,.n] [ps 13 (iv ((vO b i u d).2.2)),pb 100 56 [(iv ((vO b i u d).1)),(iv ((vO b i u d).2.1))]] (yD 156 (times_pc ((aD1 b i).1) ((aD1 b i).2.1) u d (by unfold Fr.I64;omega) (by unfold Fr.I64;omega) (by assumption) (by assumption)) oz)<|qA<|qA<|qL qC [.k8,.k1,.n,.r] [ps 57 (bv (decide (((vO b i u d).2.2)=0)))] ?_
    by_cases h5:((vO b i u d).2.2)=0
    ·refine qR (decide_eq_true h5)<|zY qC [(3,.call [0,2] [(.opt 0 0),(.agg [(iv (kd ((qM b).getD i dB))),(iv (sh ((qM b).getD i dB))),(.ssl (kc ((qM b).getD i dB)) 0 ((qM ((qM b).getD i dB)).length))]),(.agg [(iv ((vO b i u d).1)),(iv ((vO b i u d).2.1))])] [some (159,[(.osl 1 0 L2.length),(iv a2),(iv b2)]),some (187,(qG L2))] (iv ((qP ((qM b).getD i dB) ((vO b i u d).1) ((vO b i u d).2.1) (L2,a2,b2)).1)) [some (159,[(.osl 2 0 ((qP ((qM b).getD i dB) ((vO b i u d).1) ((vO b i u d).2.1) (L2,a2,b2)).2.1.length)),(iv ((qP ((qM b).getD i dB) ((vO b i u d).1) ((vO b i u d).2.1) (L2,a2,b2)).2.2.1)),(iv ((qP ((qM b).getD i dB) ((vO b i u d).1) ((vO b i u d).2.1) (L2,a2,b2)).2.2.2))]),none,some (187,(qG ((qP ((qM b).getD i dB) ((vO b i u d).1) ((vO b i u d).2.1) (L2,a2,b2)).2.1)))])] [.k3,.d,.d,.d,.n,.k3,.d,.d,.n,.d,.k1,.d,.d,.n] [ps 13 (iv ((qP ((qM b).getD i dB) ((vO b i u d).1) ((vO b i u d).2.1) (L2,a2,b2)).1)),pb 0 159 [(.osl 244 0 ((qP ((qM b).getD i dB) ((vO b i u d).1) ((vO b i u d).2.1) (L2,a2,b2)).2.1.length)),(iv ((qP ((qM b).getD i dB) ((vO b i u d).1) ((vO b i u d).2.1) (L2,a2,b2)).2.2.1)),(iv ((qP ((qM b).getD i dB) ((vO b i u d).1) ((vO b i u d).2.1) (L2,a2,b2)).2.2.2))],pb 244 187 (qN (yI [0,2] 244) (qG ((qP ((qM b).getD i dB) ((vO b i u d).1) ((vO b i u d).2.1) (L2,a2,b2)).2.1)))] (oc (ih ((qM b).getD i dB) (kids_lt (by omega)) _ _ L2 a2 b2 (QY h5) hs2 hgx (by omega) (by omega):PC Tryz.prog 102 [(.opt 0 0),(.agg [(iv (kd ((qM b).getD i dB))),(iv (sh ((qM b).getD i dB))),(.ssl (kc ((qM b).getD i dB)) 0 ((qM ((qM b).getD i dB)).length))]),(.agg [(iv ((vO b i u d).1)),(iv ((vO b i u d).2.1))])] [some (159,[(.osl 1 0 L2.length),(iv a2),(iv b2)]),some (187,(qG L2))] (iv ((qP ((qM b).getD i dB) ((vO b i u d).1) ((vO b i u d).2.1) (L2,a2,b2)).1)) [some (159,[(.osl 2 0 ((qP ((qM b).getD i dB) ((vO b i u d).1) ((vO b i u d).2.1) (L2,a2,b2)).2.1.length)),(iv ((qP ((qM b).getD i dB) ((vO b i u d).1) ((vO b i u d).2.1) (L2,a2,b2)).2.2.1)),(iv ((qP ((qM b).getD i dB) ((vO b i u d).1) ((vO b i u d).2.1) (L2,a2,b2)).2.2.2))]),none,some (187,(qG ((qP ((qM b).getD i dB) ((vO b i u d).1) ((vO b i u d).2.1) (L2,a2,b2)).2.1)))]) (oc (rfl:[(.opt 0 0),(.agg [(iv (kd ((qM b).getD i dB))),(iv (sh ((qM b).getD i dB))),(.ssl (kc ((qM b).getD i dB)) 0 ((qM ((qM b).getD i dB)).length))]),(.agg [(iv ((vO b i u d).1)),(iv ((vO b i u d).2.1))])]=qN (qZ [0,2] 244) [(.opt 0 0),(.agg [(iv (kd ((qM b).getD i dB))),(iv (sh ((qM b).getD i dB))),(.ssl (kc ((qM b).getD i dB)) 0 ((qM ((qM b).getD i dB)).length))]),(.agg [(iv ((vO b i u d).1)),(iv ((vO b i u d).2.1))])]) (oc (rfl:[(.osl 2 0 L2.length),(iv a2),(iv b2)]=qN (qZ [0,2] 244) [(.osl 1 0 L2.length),(iv a2),(iv b2)]) (oc ((qH (yX _)).symm:(qG L2)=qN (qZ [0,2] 244) (qG L2)) oz))))<|qY (Wk.eq (show _=[ps 0 (.opt 0 0),ps 5 (.opt 3 0),ps 7 (iv (vP (qM b))),ps 13 (iv ((qP ((qM b).getD i dB) ((vO b i u d).1) ((vO b i u d).2.1) (L2,a2,b2)).1)),ps 35 (.ssl (kc b) 0 ((qM b).length)),ps 36 (nv ((qM b).length)),ps 37 (nv i),pb 0 159 [(.osl 244 0 ((qP ((qM b).getD i dB) ((vO b i u d).1) ((vO b i u d).2.1) (L2,a2,b2)).2.1.length)),(iv ((qP ((qM b).getD i dB) ((vO b i u d).1) ((vO b i u d).2.1) (L2,a2,b2)).2.2.1)),(iv ((qP ((qM b).getD i dB) ((vO b i u d).1) ((vO b i u d).2.1) (L2,a2,b2)).2.2.2))],pb 3 56 [(iv u),(iv d)],pb 244 187 (qG ((qP ((qM b).getD i dB) ((vO b i u d).1) ((vO b i u d).2.1) (L2,a2,b2)).2.1))] from by simp only [qH (yX _)])) ?_
     refine qA<|qL qC [.k7,.n,.r] [ps 63 (bv (!(decide (((qP ((qM b).getD i dB) ((vO b i u d).1) ((vO b i u d).2.1) (L2,a2,b2)).1)=0))))] ?_
     by_cases h6:((qP ((qM b).getD i dB) ((vO b i u d).1) ((vO b i u d).2.1) (L2,a2,b2)).1)=0
     ·refine qU (bt h6)<|qF<|zF<|zY qC [] [.k3,.d,.k2,.d,.n,.d,.r] [ps 37 (iv (((i:Nat):Int)+1))] (oi (((i:Nat):Int)+1) (by omega) oz) ?_
      exact zR ⟨(i+1,(qP ((qM b).getD i dB) (vO b i u d).1 (vO b i u d).2.1 (L2,a2,b2)).2),⟨by omega,by rw [WF (by omega),if_pos (by assumption),if_pos (by assumption),if_pos (by assumption)] at hL;exact hL,qbd _ _ _ _ (QY (by assumption)) hs2 (by assumption),by have h1:=qhd ((qM b).getD i dB) (vO b i u d).1 (vO b i u d).2.1 (L2,a2,b2);have h2:=qkj (l:=qM b) (i:=i) (by omega);dsimp only at h1;show (qP ((qM b).getD i dB) (vO b i u d).1 (vO b i u d).2.1 (L2,a2,b2)).2.1.length+ZH ((qM b).drop (i+1))≤_;omega,by have h2:=qkj (l:=qM b) (i:=i) (by omega);show ZH ((qM b).drop (i+1))≤_;omega⟩⟩ (Wk.ren3 _ 2 hc0 [0,1,244,3] [(kb 2,(qG ((qP ((qM b).getD i dB) (vO b i u d).1 (vO b i u d).2.1 (L2,a2,b2)).2.1)))] (oc (yX _) (oz)) (by kernel_rfl) rfl rfl (by kernel_rfl) (by kernel_rfl)) (show (qM b).length-(i+1)<(qM b).length-i from by show (qM b).length-(i+1)<(qM b).length-i;omega)
     refine qR (bf h6)<|qA<|qL qC [.d,.d,.n,.d,.d,.d,.d,.d,.d,.k1,.d,.r] [ps 6 (iv ((qP ((qM b).getD i dB) ((vO b i u d).1) ((vO b i u d).2.1) (L2,a2,b2)).1))] ?_
     have hT:qP b u d (L,a,b3)=yM (qM b) (vP (qM b)) u d (L,a,b3):=by rw [ZW,if_pos hk4]
     rw [WF (by omega)] at hL
     repeat (first|rw [if_pos (by assumption)] at hL|rw [if_neg (by assumption)] at hL)
     rw [show qP b u d (L,a,b3)=qP ((qM b).getD i dB) (vO b i u d).1 (vO b i u d).2.1 (L2,a2,b2) from hT.trans hL.symm]
     exact zj fun cx_ a_ hI_=>qy (zV (H':=[some (159,[(.osl 2 0 ((qP ((qM b).getD i dB) (vO b i u d).1 (vO b i u d).2.1 (L2,a2,b2)).2.1.length)),(iv ((qP ((qM b).getD i dB) (vO b i u d).1 (vO b i u d).2.1 (L2,a2,b2)).2.2.1)),(iv ((qP ((qM b).getD i dB) (vO b i u d).1 (vO b i u d).2.1 (L2,a2,b2)).2.2.2))]),none,some (187,(qG ((qP ((qM b).getD i dB) (vO b i u d).1 (vO b i u d).2.1 (L2,a2,b2)).2.1)))]) (.inr rfl) (Wk.ren3 [ps 6 (iv ((qP ((qM b).getD i dB) ((vO b i u d).1) ((vO b i u d).2.1) (L2,a2,b2)).1)),pb 0 159 [(.osl 2 0 ((qP ((qM b).getD i dB) ((vO b i u d).1) ((vO b i u d).2.1) (L2,a2,b2)).2.1.length)),(iv ((qP ((qM b).getD i dB) ((vO b i u d).1) ((vO b i u d).2.1) (L2,a2,b2)).2.2.1)),(iv ((qP ((qM b).getD i dB) ((vO b i u d).1) ((vO b i u d).2.1) (L2,a2,b2)).2.2.2))],pb 2 187 (qG ((qP ((qM b).getD i dB) ((vO b i u d).1) ((vO b i u d).2.1) (L2,a2,b2)).2.1))] 2 hc0 [0,1,244] [(kb 2,(qG ((qP ((qM b).getD i dB) ((vO b i u d).1) ((vO b i u d).2.1) (L2,a2,b2)).2.1)))] (oc (yX _) (oz)) (by kernel_rfl) rfl rfl (by kernel_rfl) (by kernel_rfl)) rfl (oc rfl (oc rfl (oz))) (fun cx_ a_ hI_=>zL (l':=[ps 6 (iv ((qP ((qM b).getD i dB) ((vO b i u d).1) ((vO b i u d).2.1) (L2,a2,b2)).1)),pb 0 159 [(.osl 2 0 ((qP ((qM b).getD i dB) ((vO b i u d).1) ((vO b i u d).2.1) (L2,a2,b2)).2.1.length)),(iv ((qP ((qM b).getD i dB) ((vO b i u d).1) ((vO b i u d).2.1) (L2,a2,b2)).2.2.1)),(iv ((qP ((qM b).getD i dB) ((vO b i u d).1) ((vO b i u d).2.1) (L2,a2,b2)).2.2.2))],pb 2 187 (qG ((qP ((qM b).getD i dB) ((vO b i u d).1) ((vO b i u d).2.1) (L2,a2,b2)).2.1))]) (by kernel_rfl) cx_ a_ hI_) hI_)
    refine qU (decide_eq_false h5)<|qF<|qA<|qL qC [.k3,.d,.d,.k4,.d,.n,.k3,.d,.d] [ps 63 (bv (!(decide (((vO b i u d).2.2)=0))))]<|qR (bf h5)<|qA<|qL qC [.d,.d,.n,.d,.d,.d,.d,.d,.d,.k2,.d] [ps 6 (iv ((vO b i u d).2.2))] ?_
    have hT:qP b u d (L,a,b3)=yM (qM b) (vP (qM b)) u d (L,a,b3):=by rw [ZW,if_pos hk4]
    rw [WF (by omega)] at hL
    repeat (first|rw [if_pos (by assumption)] at hL|rw [if_neg (by assumption)] at hL)
    rw [show qP b u d (L,a,b3)=((vO b i u d).2.2,L2,a2,b2) from hT.trans hL.symm]
    exact zj fun cx_ a_ hI_=>qy (zV (H':=[some (159,[(.osl 2 0 L2.length),(iv a2),(iv b2)]),none,some (187,(qG L2))]) (.inr rfl) (Wk.ren3 [ps 6 (iv ((vO b i u d).2.2)),pb 0 159 [(.osl 2 0 L2.length),(iv a2),(iv b2)],pb 2 187 (qG L2)] 2 hc0 [0,1,2] [(kb 2,(qG L2))] (oc (yX _) (oz)) (by kernel_rfl) rfl rfl (by kernel_rfl) (by kernel_rfl)) rfl (oc rfl (oc rfl (oz))) (fun cx_ a_ hI_=>zL (l':=[ps 6 (iv ((vO b i u d).2.2)),pb 0 159 [(.osl 2 0 L2.length),(iv a2),(iv b2)],pb 2 187 (qG L2)]) (by kernel_rfl) cx_ a_ hI_) hI_)
   refine qU (decide_eq_false h4)<|qF<|qA<|qA<|qL qC [.k8,.k1,.d,.n,.r] [ps 57 (bv (decide (((aD1 b i).2.2)=0)))]<|qU (decide_eq_false h4)<|qF<|qA<|qL qC [.k3,.d,.d,.k4,.d,.n,.k3,.d,.d] [ps 63 (bv (!(decide (((aD1 b i).2.2)=0))))]<|qR (bf h4)<|qA<|qL qC [.d,.d,.n,.d,.d,.d,.d,.d,.d,.k2,.d] [ps 6 (iv ((aD1 b i).2.2))] ?_
   have hT:qP b u d (L,a,b3)=yM (qM b) (vP (qM b)) u d (L,a,b3):=by rw [ZW,if_pos hk4]
   rw [WF (by omega)] at hL
   repeat (first|rw [if_pos (by assumption)] at hL|rw [if_neg (by assumption)] at hL)
   rw [show qP b u d (L,a,b3)=((aD1 b i).2.2,L2,a2,b2) from hT.trans hL.symm]
   exact zj fun cx_ a_ hI_=>qy (zV (H':=[some (159,[(.osl 2 0 L2.length),(iv a2),(iv b2)]),none,some (187,(qG L2))]) (.inr rfl) (Wk.ren3 [ps 6 (iv ((aD1 b i).2.2)),pb 0 159 [(.osl 2 0 L2.length),(iv a2),(iv b2)],pb 2 187 (qG L2)] 2 hc0 [0,1,2] [(kb 2,(qG L2))] (oc (yX _) (oz)) (by kernel_rfl) rfl rfl (by kernel_rfl) (by kernel_rfl)) rfl (oc rfl (oc rfl (oz))) (fun cx_ a_ hI_=>zL (l':=[ps 6 (iv ((aD1 b i).2.2)),pb 0 159 [(.osl 2 0 L2.length),(iv a2),(iv b2)],pb 2 187 (qG L2)]) (by kernel_rfl) cx_ a_ hI_) hI_)
  refine qU (decide_eq_false h3)<|zS rfl rfl<|qA<|qL qC [.d,.d,.n,.d,.d,.d,.d,.d,.k2,.d] [ps 6 (iv 0)] ?_
  have hT:qP b u d (L,a,b3)=yM (qM b) (vP (qM b)) u d (L,a,b3):=by rw [ZW,if_pos hk4]
  obtain rfl:i=(qM b).length:=by omega
  rw [List.drop_length,yM] at hL
  rw [show qP b u d (L,a,b3)=(0,L2,a2,b2) from hT.trans hL.symm]
  exact zj fun cx_ a_ hI_=>zV (H':=[some (159,[(.osl 2 0 L2.length),(iv a2),(iv b2)]),none,some (187,(qG L2))]) (.inr rfl) (Wk.ren3 [ps 6 (iv 0),pb 0 159 [(.osl 2 0 L2.length),(iv a2),(iv b2)],pb 2 187 (qG L2)] 2 hc0 [0,1,2] [(kb 2,(qG L2))] (oc (yX _) (oz)) (by kernel_rfl) rfl rfl (by kernel_rfl) (by kernel_rfl)) rfl (oc rfl (oc rfl (oz))) (fun cx_ a_ hI_=>zL (l':=[ps 6 (iv 0),pb 0 159 [(.osl 2 0 L2.length),(iv a2),(iv b2)],pb 2 187 (qG L2)]) (by kernel_rfl) cx_ a_ hI_) hI_
 refine qR (bf h1)<|qA<|qk qC [(4,.call [0,1] [(.opt 0 0),(iv (kd b)),(.agg [(iv u),(iv d)])] [some (159,[(.osl 1 0 L.length),(iv a),(iv b3)]),some (187,(qG L))] (iv ((zv (kd b) u d L a b3).1)) [some (159,[(.osl 2 0 ((zv (kd b) u d L a b3).2.1.length)),(iv ((zv (kd b) u d L a b3).2.2.1)),(iv ((zv (kd b) u d L a b3).2.2.2))]),none,some (187,(qG ((zv (kd b) u d L a b3).2.1)))])] [ps 6 (iv ((zv (kd b) u d L a b3).1)),pb 0 159 [(.osl 82 0 ((zv (kd b) u d L a b3).2.1.length)),(iv ((zv (kd b) u d L a b3).2.2.1)),(iv ((zv (kd b) u d L a b3).2.2.2))],pb 82 187 (qN (yI [0,1] 82) (qG ((zv (kd b) u d L a b3).2.1)))] (oc (leaf_pc (kd b) u d L a b3 hr hs (by omega)) (oc (rfl:[(.opt 0 0),(iv (kd b)),(.agg [(iv u),(iv d)])]=qN (qZ [0,1] 82) [(.opt 0 0),(iv (kd b)),(.agg [(iv u),(iv d)])]) (oc (rfl:[(.osl 1 0 L.length),(iv a),(iv b3)]=qN (qZ [0,1] 82) [(.osl 1 0 L.length),(iv a),(iv b3)]) (oc ((qH (yX _)).symm:(qG L)=qN (qZ [0,1] 82) (qG L)) oz))))<|qY (Wk.eq (show _=[ps 6 (iv ((zv (kd b) u d L a b3).1)),pb 0 159 [(.osl 82 0 ((zv (kd b) u d L a b3).2.1.length)),(iv ((zv (kd b) u d L a b3).2.2.1)),(iv ((zv (kd b) u d L a b3).2.2.2))],pb 82 187 (qG ((zv (kd b) u d L a b3).2.1))] from by simp only [qH (yX _)])) ?_
 rw [show qP b u d (L,a,b3)=zv (kd b) u d L a b3 from by rw [ZW,if_neg (by assumption)]]
 exact zj fun cx_ a_ hI_=>zV (H':=[some (159,[(.osl 2 0 ((zv (kd b) u d L a b3).2.1.length)),(iv ((zv (kd b) u d L a b3).2.2.1)),(iv ((zv (kd b) u d L a b3).2.2.2))]),none,some (187,(qG ((zv (kd b) u d L a b3).2.1)))]) (.inr rfl) (Wk.ren3 [ps 6 (iv ((zv (kd b) u d L a b3).1)),pb 0 159 [(.osl 2 0 ((zv (kd b) u d L a b3).2.1.length)),(iv ((zv (kd b) u d L a b3).2.2.1)),(iv ((zv (kd b) u d L a b3).2.2.2))],pb 2 187 (qG ((zv (kd b) u d L a b3).2.1))] 2 hc0 [0,1,82] [(kb 2,(qG ((zv (kd b) u d L a b3).2.1)))] (oc (yX _) (oz)) (by kernel_rfl) rfl rfl (by kernel_rfl) (by kernel_rfl)) rfl (oc rfl (oc rfl (oz))) (fun cx_ a_ hI_=>zL (l':=[ps 6 (iv ((zv (kd b) u d L a b3).1)),pb 0 159 [(.osl 2 0 ((zv (kd b) u d L a b3).2.1.length)),(iv ((zv (kd b) u d L a b3).2.2.1)),(iv ((zv (kd b) u d L a b3).2.2.2))],pb 2 187 (qG ((zv (kd b) u d L a b3).2.1))]) (by kernel_rfl) cx_ a_ hI_) hI_
theorem qhe:∀ (m:Nat) (b:Beat),SizeOf.sizeOf b<m→∀ (u d:Int) (L:List Sp) (a b3:Int),rightB u d=true→Yy L a b3→Wq b→cnt b≤4096→L.length+cnt b≤90000→PC Tryz.prog 102 [.opt 0 0,.agg (gB b),Yk u d] [some (159,[(.osl 1 0 L.length),(iv a),(iv b3)]),some (187,(qG L))] (iv (qP b u d (L,a,b3)).1) [some (159,[(.osl 2 0 ((qP b u d (L,a,b3)).2.1.length)),(iv ((qP b u d (L,a,b3)).2.2.1)),(iv ((qP b u d (L,a,b3)).2.2.2))]),none,some (187,(qG ((qP b u d (L,a,b3)).2.1)))]
 | 0,_,h=>absurd h (Nat.not_lt_zero _)
 | m+1,b,h=>fun u d L a b3 h1 h2 h3 h4 h5=>share_step b (fun c hb=>qhe m c (by omega)) u d L a b3 h1 h2 h3 h5 h4
theorem share_pc (b:Beat) (u d:Int) (L:List Sp) (a b3:Int) (h1:rightB u d=true) (h2:Yy L a b3) (h3:Wq b) (h4:cnt b≤4096) (h5:L.length+cnt b≤90000):PC Tryz.prog 102 [.opt 0 0,.agg (gB b),Yk u d] [some (159,[(.osl 1 0 L.length),(iv a),(iv b3)]),some (187,(qG L))] (iv (qP b u d (L,a,b3)).1) [some (159,[(.osl 2 0 ((qP b u d (L,a,b3)).2.1.length)),(iv ((qP b u d (L,a,b3)).2.2.1)),(iv ((qP b u d (L,a,b3)).2.2.2))]),none,some (187,(qG ((qP b u d (L,a,b3)).2.1)))]:=qhe _ b (Nat.lt_succ_self _) u d L a b3 h1 h2 h3 h4 h5
open Gcd
def yR (b:Beat) (u d:Int):Int:=if Qx b=0 then if rightB u d=true then if u<1 then 3 else (qP b u d ([],0,1)).1 else 2 else Qx b
def wx (b:Beat) (u d:Int):List Sp:=(qP b u d ([],0,1)).2.1
def qen (b:Beat) (u d:Int):PV:=if yR b u d=0 then .tup [.ssl (qG (wx b u d)) 0 (wx b u d).length,iv 0] else .tup [.ssl [] 0 0,iv (yR b u d)]
theorem Qj {b:Beat} {u d e:Int} (he:yR b u d=e) (h:e≠0):qen b u d = .tup [.ssl [] 0 0,iv e]:=by unfold qen;rw [he,if_neg h]
theorem qah {b:Beat} {u d:Int} (h:yR b u d=0):qen b u d = .tup [.ssl (qG (wx b u d)) 0 (wx b u d).length,iv 0]:=by unfold qen;rw [if_pos h]
theorem st0_ok:Yy [] 0 1:=⟨by decide +kernel,fun i h=>absurd h (Nat.not_lt_zero _)⟩
theorem qad {b:Beat} (h:Qx b=0):Wq b∧cnt b≤4096:=by
 obtain ⟨h1,h2,h3⟩:=qju b 1 0 (by decide) (by decide)
 obtain ⟨h4,h5,h6⟩:=h3 h
 exact ⟨h6,by omega⟩
mutual
def gdI:It→Prop
 | .mk k _ _ _ _ ks=>((k=4∨k=5)↔ks.length≠0)∧gdL ks
def gdL:List It→Prop
 | []=>True
 | x :: l=>gdI x∧gdL l
end
theorem noteOk_kids {x:It} (h:vR x=true):(iC x).length=0∧(iP x).length≤16:=by
 unfold vR at h
 by_cases c1:(iP x).length=0
 ·rw [if_pos c1] at h;cases h
 rw [if_neg c1] at h
 by_cases c2:16<(iP x).length
 ·rw [if_pos c2] at h;cases h
 rw [if_neg c2] at h
 by_cases c3:0<(iC x).length
 ·rw [if_pos c3] at h;cases h
 omega
theorem restOk_kids {x:It} (h:vJ x=true):(iC x).length=0∧(iP x).length=0:=by
 unfold vJ at h
 by_cases c1:(iP x).length=0
 ·rw [if_pos c1] at h
  by_cases c2:(iC x).length=0
  ·exact ⟨c2,c1⟩
  ·rw [if_neg c2] at h;cases h
 ·rw [if_neg c1] at h;cases h
theorem qka {x:It} (h:yL x=true):(iC x).length≠0:=by
 unfold yL at h
 by_cases c1:(iC x).length=0
 ·rw [if_pos c1] at h;cases h
 ·exact c1
mutual
theorem itS_good:∀ (x:It) (lv n:Int),0≤n→(vz x lv n).1=true→gdI x∧okI x∧(hgt x:Int)≤32-lv∧(lvs x:Int)≤n-(vz x lv n).2
 | .mk k s ps b ly ks,lv,n,hn,h=>by
  rw [vz] at h ⊢
  rw [gdI,okI,hgt,lvs]
  by_cases c0:n-1<0∨31<lv∨s<1∨65536<s
  ·rw [if_pos c0] at h;cases h
  rw [if_neg c0] at h ⊢
  by_cases c1:k=1
  ·rw [if_pos c1] at h ⊢
   have hk:=noteOk_kids h
   simp only [iC,iP] at hk
   have hnil:ks=[]:=List.length_eq_zero_iff.1 hk.1
   subst hnil
   refine ⟨⟨by simp;omega,by rw [gdL];trivial⟩,⟨.inr (.inr hk.2),by rw [okL];trivial⟩,by rw [hgtL];omega,by rw [if_neg (by omega)];dsimp only;omega⟩
  rw [if_neg c1] at h ⊢
  by_cases c2:k=2∨k=3
  ·rw [if_pos c2] at h ⊢
   have hk:=restOk_kids h
   simp only [iC,iP] at hk
   have hnil:ks=[]:=List.length_eq_zero_iff.1 hk.1
   subst hnil
   refine ⟨⟨by simp;omega,by rw [gdL];trivial⟩,⟨.inr (.inr (by omega)),by rw [okL];trivial⟩,by rw [hgtL];omega,by rw [if_neg (by omega)];dsimp only;omega⟩
  rw [if_neg c2] at h ⊢
  by_cases c4:k=4∨k=5
  ·rw [if_pos c4] at h ⊢
   by_cases cg:yL (.mk k s ps b ly ks)=true
   ·rw [if_pos cg] at h ⊢
    have hk:=qka cg
    simp only [iC] at hk
    have ih:=ZA ks (lv+1) (n-1) (by omega) h
    refine ⟨⟨⟨fun _=>hk,fun _=>c4⟩,ih.1⟩,⟨by omega,ih.2.1⟩,by have:=ih.2.2.1 hk;omega,by rw [if_pos c4];have:=ih.2.2.2;omega⟩
   ·rw [if_neg cg] at h;cases h
  ·rw [if_neg c4] at h;cases h
theorem ZA:∀ (l:List It) (lv n:Int),0≤n→(wF l lv n).1=true→gdL l∧okL l∧(l.length≠0→(hgtL l:Int)≤32-lv)∧(wv l:Int)≤n-(wF l lv n).2
 | [],lv,n,hn,h=>by rw [gdL,okL,wF,wv];exact ⟨trivial,trivial,fun c=>absurd rfl c,by dsimp only;omega⟩
 | x :: l,lv,n,hn,h=>by
  rw [wF] at h ⊢
  by_cases c:(vz x lv n).1=true
  ·rw [if_pos c] at h ⊢
   have h1:=itS_good x lv n hn c
   have hr:=qdw x lv n hn
   have h2:=ZA l lv (vz x lv n).2 (hr.2.2 c) h
   rw [gdL,okL,hgtL,wv]
   refine ⟨⟨h1.1,h2.1⟩,⟨h1.2.1,h2.2.1⟩,fun _=>?_,by have:=h1.2.2.2;have:=h2.2.2.2;omega⟩
   by_cases cl:l.length=0
   ·have:l=[]:=List.length_eq_zero_iff.1 cl
    subst this
    rw [hgtL]
    have:=h1.2.2.1
    omega
   ·have:=h1.2.2.1;have:=h2.2.2.1 cl
    omega
  ·rw [if_neg c] at h;cases h
end
theorem leaf1_len {u d:Int} {L:List Sp} {a b:Int} (h:(zv 1 u d L a b).1=0):(zv 1 u d L a b).2.1.length=L.length+1:=by
 unfold zv at h ⊢
 split at h
 ·rename_i c
  rw [if_pos c,if_neg (by omega)]
  simp
 ·rename_i c
  exact absurd h c
mutual
theorem share_lvs:∀ (x:It) (u d:Int) (t:StS),gdI x→(qP (yW x) u d t).1=0→(qP (yW x) u d t).2.1.length=t.1.length+lvs x
 | .mk k s ps b ly ks,u,d,t,hg,h=>by
  rw [gdI] at hg
  rw [yW,qP] at h ⊢
  rw [lvs]
  by_cases c:ks.length=0
  ·have hk:¬ (k=4∨k=5):=fun q=>hg.1.1 q c
   rw [if_pos c,if_neg (by decide)] at h ⊢
   rw [if_neg hk]
   exact leaf1_len h
  ·rw [if_neg c,if_pos rfl] at h ⊢
   rw [if_pos (hg.1.2 c)]
   exact qai ks _ u d t hg.2 h
theorem qai:∀ (l:List It) (al u d:Int) (t:StS),gdL l→(yM (jO l) al u d t).1=0→(yM (jO l) al u d t).2.1.length=t.1.length+wv l
 | [],al,u,d,t,_,h=>by rw [jO,yM,wv];rfl
 | x :: l,al,u,d,t,hg,h=>by
  rw [gdL] at hg
  rw [jO,yM] at h ⊢
  rw [wv]
  dsimp only at h ⊢
  split at h
  ·rename_i c1
   rw [if_pos c1]
   split at h
   ·rename_i c2
    rw [if_pos c2]
    split at h
    ·rename_i c3
     rw [if_pos c3]
     rw [qai l _ _ _ _ hg.2 h,share_lvs x _ _ t hg.1 c3]
     omega
    ·rename_i c3
     exact absurd h c3
   ·rename_i c2
    exact absurd h c2
  ·rename_i c1
   exact absurd h c1
end
def all4 (L:List Sp):Prop:=∀ n∈L,I64 n.1∧I64 n.2.1∧I64 n.2.2.1∧I64 n.2.2.2.1
theorem leaf1_all {u d:Int} {L:List Sp} {a b:Int} (hr:rightB u d=true) (hs:Yy L a b) (h4:all4 L) (h:(zv 1 u d L a b).1=0):all4 (zv 1 u d L a b).2.1:=by
 unfold zv at h ⊢
 split at h
 ·rename_i c
  rw [if_pos c,if_neg (by omega)]
  intro n hn
  rcases List.mem_append.1 hn with hn|hn
  ·exact h4 n hn
  ·rw [List.mem_singleton.1 hn]
   exact ⟨(jN hs.1).1,(jN hs.1).2,(jN hr).1,(jN hr).2⟩
 ·rename_i c
  exact absurd h c
mutual
theorem qeq:∀ (x:It) (u d:Int) (t:StS),rightB u d=true→Yy t.1 t.2.1 t.2.2→all4 t.1→(qP (yW x) u d t).1=0→all4 (qP (yW x) u d t).2.1
 | .mk k s ps b ly ks,u,d,t,hr,hs,h4,h=>by
  rw [yW,qP] at h ⊢
  by_cases c:ks.length=0
  ·rw [if_pos c,if_neg (by decide)] at h ⊢
   exact leaf1_all hr hs h4 h
  ·rw [if_neg c,if_pos rfl] at h ⊢
   exact qdc ks _ u d t hr hs h4 h
theorem qdc:∀ (l:List It) (al u d:Int) (t:StS),rightB u d=true→Yy t.1 t.2.1 t.2.2→all4 t.1→(yM (jO l) al u d t).1=0→all4 (yM (jO l) al u d t).2.1
 | [],al,u,d,t,_,_,h4,h=>by rw [jO,yM];exact h4
 | x :: l,al,u,d,t,hr,hs,h4,h=>by
  rw [jO,yM] at h ⊢
  dsimp only at h ⊢
  split at h
  ·rename_i c1
   rw [if_pos c1]
   split at h
   ·rename_i c2
    rw [if_pos c2]
    split at h
    ·rename_i c3
     rw [if_pos c3]
     exact qdc l _ u d _ hr (qbd _ _ _ _ (QY c2) hs c3) (qeq x _ _ t (QY c2) hs h4 c3) h
    ·rename_i c3
     exact absurd h c3
   ·rename_i c2
    exact absurd h c2
  ·rename_i c1
   exact absurd h c1
end
def zZ (l:List It):It:=.mk 0 1 [] (0,0) [] l
theorem spans_share {b:Beat} {u d:Int} (h:yR b u d=0):(qP b u d ([],0,1)).1=0:=by
 unfold yR at h
 split at h
 ·split at h
  ·split at h
   ·cases h
   ·exact h
  ·cases h
 ·rename_i c;exact absurd h c
theorem qck {l:List It} {u d:Int} (hl:l.length≠0) (hg:gdL l) (h:yR (yW (zZ l)) u d=0):(wx (yW (zZ l)) u d).length=wv l:=by
 have h1:(qP (yW (zZ l)) u d ([],0,1)).1=0:=by
  unfold yR at h
  split at h
  ·split at h
   ·split at h
    ·cases h
    ·exact h
   ·cases h
  ·rename_i c;exact absurd h c
 unfold wx
 unfold zZ at h1 ⊢
 rw [yW,qP,if_neg hl,if_pos rfl] at h1 ⊢
 rw [qai l _ u d _ hg h1]
 exact Nat.zero_add _
theorem qag {l:List It} {u d:Int} (hr:rightB u d=true) (h:yR (yW (zZ l)) u d=0):all4 (wx (yW (zZ l)) u d):=by
 have h1:(qP (yW (zZ l)) u d ([],0,1)).1=0:=spans_share h
 unfold wx
 exact qeq _ u d _ hr st0_ok (fun n hn=>by cases hn) h1
theorem all4_at {L:List Sp} (h:all4 L):∀ i,i<L.length→I64 (L.getD i dS).1∧I64 (L.getD i dS).2.1∧I64 (L.getD i dS).2.2.1∧I64 (L.getD i dS).2.2.2.1:=fun i hi=>by
 rw [List.getD_eq_getElem?_getD,List.getElem?_eq_getElem hi]
 exact h _ (List.getElem_mem hi)
def vW (v:Int) (b:Br) (s:(Int × Int) × List Nt × Nat):Int × (Int × Int) × List Nt × Nat :=
 if (make b.1 b.2.1).2.2=0 then
  if yR (yW (zZ b.2.2)) (make b.1 b.2.1).1 (make b.1 b.2.1).2.1=0 then
   if (zE v s.1.1 s.1.2 (wx (yW (zZ b.2.2)) (make b.1 b.2.1).1 (make b.1 b.2.1).2.1) b.2.2 [] (s.2.1,s.2.2,0)).1=0 then
    ((plus s.1.1 s.1.2 (make b.1 b.2.1).1 (make b.1 b.2.1).2.1).2.2,((plus s.1.1 s.1.2 (make b.1 b.2.1).1 (make b.1 b.2.1).2.1).1,(plus s.1.1 s.1.2 (make b.1 b.2.1).1 (make b.1 b.2.1).2.1).2.1),
     (zE v s.1.1 s.1.2 (wx (yW (zZ b.2.2)) (make b.1 b.2.1).1 (make b.1 b.2.1).2.1) b.2.2 [] (s.2.1,s.2.2,0)).2.1,
     (zE v s.1.1 s.1.2 (wx (yW (zZ b.2.2)) (make b.1 b.2.1).1 (make b.1 b.2.1).2.1) b.2.2 [] (s.2.1,s.2.2,0)).2.2.1)
   else ((zE v s.1.1 s.1.2 (wx (yW (zZ b.2.2)) (make b.1 b.2.1).1 (make b.1 b.2.1).2.1) b.2.2 [] (s.2.1,s.2.2,0)).1,s)
  else (yR (yW (zZ b.2.2)) (make b.1 b.2.1).1 (make b.1 b.2.1).2.1,s)
 else ((make b.1 b.2.1).2.2,s)
def vk (v:Int):List Br→(Int × Int) × List Nt × Nat→Int × (Int × Int) × List Nt × Nat
 | [],s=>(0,s)
 | b :: l,s=>if (vW v b s).1=0 then vk v l (vW v b s).2 else vW v b s
def wU:List Vo→Int→List Nt→Int × List Nt
 | [],_,N=>(0,N)
 | x :: l,i,N=>if (vk i x.2 ((0,1),[],0)).1=0 then wU l (i+1) (N++(vk i x.2 ((0,1),[],0)).2.2.1) else ((vk i x.2 ((0,1),[],0)).1,[])
def zT (l:List Vo):Int × List Nt:=if qw l=0 then wU l 0 [] else (qw l,[])
theorem barE_ok {b:Br} (h:wK b=0):(wF b.2.2 1 4095).1=true∧b.2.2.length≠0:=by
 unfold wK at h
 split at h
 ·cases h
 ·split at h
  ·rename_i c;exact ⟨c.1,by omega⟩
  ·cases h
theorem qgi:∀ {l:List Br},QX l=0→∀ i,i<l.length→wK (l.getD i zB)=0
 | [],_,i,hi=>absurd hi (Nat.not_lt_zero i)
 | b :: l,h,i,hi=>by
  rw [QX] at h
  split at h
  ·rename_i c
   cases i with
   | zero=>exact c
   | succ i=>simpa using qgi h i (by simpa using hi)
  ·rename_i c;exact absurd h c
theorem qch {v:Vo} (h:zx v=0):v.2.length≤1024∧QX v.2=0:=by
 unfold zx at h
 split at h
 ·split at h
  ·cases h
  ·rename_i c;exact ⟨by omega,h⟩
 ·cases h
theorem Zw:∀ {l:List Vo},wN l=0→∀ i,i<l.length→zx (l.getD i qD)=0
 | [],_,i,hi=>absurd hi (Nat.not_lt_zero i)
 | b :: l,h,i,hi=>by
  rw [wN] at h
  split at h
  ·rename_i c
   cases i with
   | zero=>exact c
   | succ i=>simpa using Zw h i (by simpa using hi)
  ·rename_i c;exact absurd h c
theorem WC {l:List Vo} (h:qw l=0):l.length≤64∧∀ i,i<l.length→(l.getD i qD).2.length≤1024∧∀ j,j<(l.getD i qD).2.length→(wF ((l.getD i qD).2.getD j zB).2.2 1 4095).1=true∧((l.getD i qD).2.getD j zB).2.2.length≠0:=by
 unfold qw at h
 split at h
 ·cases h
 ·exact ⟨by omega,fun i hi=>⟨(qch (Zw h i hi)).1,fun j hj=>barE_ok (qgi (qch (Zw h i hi)).2 j hj)⟩⟩
theorem qce {v:Int} {y:Br} {a b:Int} {N:List Nt} {z:Nat} (hw:(wF y.2.2 1 4095).1=true) (hne:y.2.2.length≠0) (hok:ZR (N,z,0)) (h:(vW v y ((a,b),N,z)).1=0) :
  ZR ((vW v y ((a,b),N,z)).2.2.1,(vW v y ((a,b),N,z)).2.2.2,0)∧(vW v y ((a,b),N,z)).2.2.1.length≤N.length+65536∧I64 (vW v y ((a,b),N,z)).2.1.1∧I64 (vW v y ((a,b),N,z)).2.1.2:=by
 have hg:=ZA y.2.2 1 4095 (by decide) hw
 have hr:=WQ y.2.2 1 4095 (by decide)
 have h0:=hr.2.2 hw
 unfold vW at h ⊢
 dsimp only at h ⊢
 split at h
 ·rename_i c1
  rw [if_pos c1]
  split at h
  ·rename_i c2
   rw [if_pos c2]
   split at h
   ·rename_i c3
    rw [if_pos c3]
    have hl:=qck hne hg.1 c2
    have hk:=WD (fun i hi=>(all4_at (qag (qao c1) c2) i hi).2.2) y.2.2 [] (N,z,0) hg.2.1 hok (by show 0+wv y.2.2≤_;omega) c3
    have hp:=jN (qal h)
    have h2:=hk.2.1
    dsimp only at h2
    exact ⟨hk.1,by show (zE _ _ _ _ _ _ _).2.1.length≤_;omega,hp.1,hp.2⟩
   ·rename_i c3;exact absurd h c3
  ·rename_i c2;exact absurd h c2
 ·rename_i c1;exact absurd h c1
theorem ZE {v:Int} {l:List Br} {i:Nat} {s:(Int × Int) × List Nt × Nat} (h:i<l.length):vk v (l.drop i) s=if (vW v (l.getD i zB) s).1=0 then vk v (l.drop (i+1)) (vW v (l.getD i zB) s).2 else vW v (l.getD i zB) s:=by
 rw [List.drop_eq_getElem_cons h,List.getD_eq_getElem?_getD,List.getElem?_eq_getElem h,vk];rfl
theorem jk {l:List Vo} {i:Nat} {k:Int} {N:List Nt} (h:i<l.length):wU (l.drop i) k N=if (vk k (l.getD i qD).2 ((0,1),[],0)).1=0 then wU (l.drop (i+1)) (k+1) (N++(vk k (l.getD i qD).2 ((0,1),[],0)).2.2.1) else ((vk k (l.getD i qD).2 ((0,1),[],0)).1,[]):=by
 rw [List.drop_eq_getElem_cons h,List.getD_eq_getElem?_getD,List.getElem?_eq_getElem h,wU];rfl
abbrev Zv:=It × (Int × Int) × List Iv
abbrev yz:Zv:=(qB,(0,0),[])
def yj (l:List It):Int:=(l.map iS).sum
mutual
def VA:It→Int→Int→Int→List Iv→List Zv × Bool
 | .mk k s ps b ly ks,al,u,d,g =>
  if (make s al).2.2=0 then
   if (times (make s al).1 (make s al).2.1 u d).2.2=0 then
    if ks.length=0 then ([(.mk k s ps b ly ks,((times (make s al).1 (make s al).2.1 u d).1,(times (make s al).1 (make s al).2.1 u d).2.1),g)],true)
    else Yq ks (yj ks) (times (make s al).1 (make s al).2.1 u d).1 (times (make s al).1 (make s al).2.1 u d).2.1 (if k=5 then b :: g else g)
   else ([],false)
  else ([],false)
def Yq:List It→Int→Int→Int→List Iv→List Zv × Bool
 | [],_,_,_,_=>([],true)
 | x :: l,al,u,d,g=>if (VA x al u d g).2=true then (if (Yq l al u d g).2=true then ((VA x al u d g).1++(Yq l al u d g).1,true) else ([],false)) else ([],false)
end
def Yz (l:List It) (u d:Int) (g:List Iv):List Zv × Bool:=Yq l (yj l) u d g
theorem YI (x:It) (al u d:Int) (g:List Iv):VA x al u d g =
  if (make (iS x) al).2.2=0 then
   if (times (make (iS x) al).1 (make (iS x) al).2.1 u d).2.2=0 then
    if (iC x).length=0 then ([(x,((times (make (iS x) al).1 (make (iS x) al).2.1 u d).1,(times (make (iS x) al).1 (make (iS x) al).2.1 u d).2.1),g)],true)
    else Yz (iC x) (times (make (iS x) al).1 (make (iS x) al).2.1 u d).1 (times (make (iS x) al).1 (make (iS x) al).2.1 u d).2.1 (if iK x=5 then iB x :: g else g)
   else ([],false)
  else ([],false):=by
 cases x with|mk k s ps b ly ks=>rw [VA];rfl
def lvA (A:List Zv) (l:List It) (al u d:Int) (g:List Iv):List Zv × Bool:=if (Yq l al u d g).2=true then (A++(Yq l al u d g).1,true) else ([],false)
theorem lvA_nil (l:List It) (al u d:Int) (g:List Iv) (h:(Yq l al u d g).2=false→(Yq l al u d g).1=[]):lvA [] l al u d g=Yq l al u d g:=by
 unfold lvA
 split
 ·rename_i c
  rw [List.nil_append,← c]
 ·rename_i c
  have c':(Yq l al u d g).2=false:=by simpa using c
  rw [← h c',← c']
mutual
theorem lvI_no:∀ (x:It) (al u d:Int) (g:List Iv),(VA x al u d g).2=false→(VA x al u d g).1=[]
 | .mk k s ps b ly ks,al,u,d,g,h=>by
  rw [VA] at h ⊢
  split at h
  ·rename_i c1
   rw [if_pos c1]
   split at h
   ·rename_i c2
    rw [if_pos c2]
    split at h
    ·cases h
    ·rename_i c3
     rw [if_neg c3]
     exact lvG_no ks _ _ _ _ h
   ·rename_i c2
    rw [if_neg c2]
  ·rename_i c1
   rw [if_neg c1]
theorem lvG_no:∀ (l:List It) (al u d:Int) (g:List Iv),(Yq l al u d g).2=false→(Yq l al u d g).1=[]
 | [],al,u,d,g,h=>by rw [Yq]
 | x :: l,al,u,d,g,h=>by
  rw [Yq] at h ⊢
  split at h
  ·rename_i c1
   rw [if_pos c1]
   split at h
   ·cases h
   ·rename_i c2
    rw [if_neg c2]
  ·rename_i c1
   rw [if_neg c1]
end
theorem lvA_0 (l:List It) (al u d:Int) (g:List Iv):lvA [] l al u d g=Yq l al u d g:=lvA_nil _ _ _ _ _ (lvG_no _ _ _ _ _)
theorem qap {A:List Zv} {l:List It} {i:Nat} {al u d:Int} {g:List Iv} (h:i<l.length):lvA A (l.drop i) al u d g =
  if (VA (l.getD i qB) al u d g).2=true then lvA (A++(VA (l.getD i qB) al u d g).1) (l.drop (i+1)) al u d g else ([],false):=by
 unfold lvA
 rw [List.drop_eq_getElem_cons h,List.getD_eq_getElem?_getD,List.getElem?_eq_getElem h,Yq]
 show (if (if (VA l[i] al u d g).2=true then _ else _:List Zv × Bool).2=true then _ else _)=(if (VA l[i] al u d g).2=true then _ else _)
 by_cases c1:(VA l[i] al u d g).2=true
 ·simp only [if_pos c1]
  by_cases c2:(Yq (l.drop (i+1)) al u d g).2=true
  ·simp only [if_pos c2,if_true,List.append_assoc]
   rfl
  ·simp only [if_neg c2]
   rfl
 ·simp only [if_neg c1]
  rfl
def Qq:List Zv→Int→Int→List (Int × Int) × Bool
 | [],_,_=>([],true)
 | x :: l,a,b=>if (plus a b x.2.1.1 x.2.1.2).2.2=0 then ((a,b) :: (Qq l (plus a b x.2.1.1 x.2.1.2).1 (plus a b x.2.1.1 x.2.1.2).2.1).1,(Qq l (plus a b x.2.1.1 x.2.1.2).1 (plus a b x.2.1.1 x.2.1.2).2.1).2) else ([(a,b)],false)
def spZ:List (Int × Int)→List Zv→List Sp
 | p :: P,x :: l=>(p.1,p.2,x.2.1.1,x.2.1.2,true) :: spZ P l
 | _,_=>[]
def shF:List Zv→StS→Int × StS
 | [],st=>(0,st)
 | x :: l,st=>if (zv 1 x.2.1.1 x.2.1.2 st.1 st.2.1 st.2.2).1=0 then shF l (zv 1 x.2.1.1 x.2.1.2 st.1 st.2.1 st.2.2).2 else zv 1 x.2.1.1 x.2.1.2 st.1 st.2.1 st.2.2
theorem qix:∀ (A B:List Zv) (st:StS),shF (A++B) st=if (shF A st).1=0 then shF B (shF A st).2 else shF A st
 | [],B,st=>by rw [List.nil_append,shF,if_pos rfl]
 | x :: A,B,st=>by
  rw [List.cons_append,shF,shF]
  split
  ·exact qix A B _
  ·rfl
theorem leaf_1 (u d:Int) (L:List Sp) (a b:Int):zv 1 u d L a b=if (plus a b u d).2.2=0 then (0,L++[(a,b,u,d,true)],(plus a b u d).1,(plus a b u d).2.1) else ((plus a b u d).2.2,L,a,b):=by
 unfold zv
 split
 ·rw [if_neg (by omega)];rfl
 ·rfl
theorem shF_plcs:∀ (LV:List Zv) (L:List Sp) (a b:Int),((shF LV (L,a,b)).1=0↔(Qq LV a b).2=true)∧((shF LV (L,a,b)).1=0→(shF LV (L,a,b)).2.1=L++spZ (Qq LV a b).1 LV)
 | [],L,a,b=>⟨⟨fun _=>rfl,fun _=>rfl⟩,fun _=>(List.append_nil L).symm⟩
 | x :: l,L,a,b=>by
  rw [shF,Qq]
  dsimp only
  rw [leaf_1]
  by_cases c:(plus a b x.2.1.1 x.2.1.2).2.2=0
  ·simp only [if_pos c,if_true]
   obtain ⟨h1,h2⟩:=shF_plcs l (L++[(a,b,x.2.1.1,x.2.1.2,true)]) (plus a b x.2.1.1 x.2.1.2).1 (plus a b x.2.1.1 x.2.1.2).2.1
   exact ⟨h1,fun h=>by rw [h2 h,List.append_assoc];rfl⟩
  ·simp only [if_neg c]
   exact ⟨⟨fun h=>absurd h c,fun h=>by cases h⟩,fun h=>absurd h c⟩
theorem qir (l:List It):vP (jO l)=yj l:=by
 unfold vP yj
 rw [VH,List.map_map]
 congr 1
 exact List.map_congr_left fun x _=>qio x
mutual
theorem shareS_f:∀ (x:It) (al u d:Int) (g:List Iv) (st:StS),(make (iS x) al).2.2=0→(times (make (iS x) al).1 (make (iS x) al).2.1 u d).2.2=0 →
  ((VA x al u d g).2=true→qP (yW x) (times (make (iS x) al).1 (make (iS x) al).2.1 u d).1 (times (make (iS x) al).1 (make (iS x) al).2.1 u d).2.1 st=shF (VA x al u d g).1 st) ∧
  ((VA x al u d g).2=false→(qP (yW x) (times (make (iS x) al).1 (make (iS x) al).2.1 u d).1 (times (make (iS x) al).1 (make (iS x) al).2.1 u d).2.1 st).1≠0)
 | .mk k s ps b ly ks,al,u,d,g,st,c1,c2=>by
  have c1':(make s al).2.2=0:=c1
  have c2':(times (make s al).1 (make s al).2.1 u d).2.2=0:=c2
  rw [VA,if_pos c1',if_pos c2',yW,qP]
  by_cases c:ks.length=0
  ·rw [if_pos c,if_pos c,if_neg (by decide)]
   refine ⟨fun _=>?_,fun h=>by cases h⟩
   show zv 1 (times (make s al).1 (make s al).2.1 u d).1 (times (make s al).1 (make s al).2.1 u d).2.1 st.1 st.2.1 st.2.2=_
   rw [shF]
   dsimp only
   split
   ·rename_i e;rw [shF];rw [← e]
   ·rfl
  ·rw [if_neg c,if_neg c,if_pos rfl,qir]
   exact qer ks (yj ks) _ _ _ st
theorem qer:∀ (l:List It) (al u d:Int) (g:List Iv) (st:StS),((Yq l al u d g).2=true→yM (jO l) al u d st=shF (Yq l al u d g).1 st)∧((Yq l al u d g).2=false→(yM (jO l) al u d st).1≠0)
 | [],al,u,d,g,st=>by
  rw [jO,yM,Yq]
  exact ⟨fun _=>rfl,fun h=>by cases h⟩
 | x :: l,al,u,d,g,st=>by
  rw [jO,yM,Yq,qio]
  dsimp only
  by_cases c1:(make (iS x) al).2.2=0
  ·rw [if_pos c1]
   by_cases c2:(times (make (iS x) al).1 (make (iS x) al).2.1 u d).2.2=0
   ·rw [if_pos c2]
    obtain ⟨h1,h2⟩:=shareS_f x al u d g st c1 c2
    by_cases c3:(VA x al u d g).2=true
    ·rw [if_pos c3,h1 c3]
     by_cases c4:(shF (VA x al u d g).1 st).1=0
     ·rw [if_pos c4]
      obtain ⟨k1,k2⟩:=qer l al u d g (shF (VA x al u d g).1 st).2
      by_cases c5:(Yq l al u d g).2=true
      ·rw [if_pos c5,k1 c5]
       refine ⟨fun _=>?_,fun h=>by cases h⟩
       rw [qix,if_pos c4]
      ·rw [if_neg c5]
       exact ⟨fun h=>(by cases h),fun _=>k2 (by simpa using c5)⟩
     ·rw [if_neg c4]
      by_cases c5:(Yq l al u d g).2=true
      ·rw [if_pos c5]
       refine ⟨fun _=>?_,fun h=>by cases h⟩
       rw [qix,if_neg c4]
      ·rw [if_neg c5]
       exact ⟨fun h=>(by cases h),fun _=>c4⟩
    ·have c3':(VA x al u d g).2=false:=by simpa using c3
     have h3:=h2 c3'
     rw [if_neg c3,if_neg h3]
     exact ⟨fun h=>(by cases h),fun _=>h3⟩
   ·rw [if_neg c2]
    have e:(VA x al u d g).2=false:=by rw [YI,if_pos c1,if_neg c2]
    rw [if_neg (by rw [e];decide)]
    exact ⟨fun h=>(by cases h),fun _=>c2⟩
  ·rw [if_neg c1]
   have e:(VA x al u d g).2=false:=by rw [YI,if_neg c1]
   rw [if_neg (by rw [e];decide)]
   exact ⟨fun h=>(by cases h),fun _=>c1⟩
end
/-! ### what goes wrong is too much -/
theorem mkE4 {u d:Int} (h:1≤d):(make u d).2.2=0∨(make u d).2.2=4:=by
 unfold make
 rw [if_neg (by omega)]
 split
 ·exact .inl rfl
 ·exact .inr rfl
theorem tmE4 {a b c d:Int} (h1:rightB a b=true) (h2:rightB c d=true):(times a b c d).2.2=0∨(times a b c d).2.2=4:=by
 unfold times
 rw [h1,h2,Bool.and_self,if_pos rfl]
 have h1':=rightB_iff.1 h1
 have h2':=rightB_iff.1 h2
 exact mkE4 (by have:=Int.mul_pos h1'.1 h2'.1;omega)
theorem plE4 {a b c d:Int} (h1:rightB a b=true) (h2:rightB c d=true):(plus a b c d).2.2=0∨(plus a b c d).2.2=4:=by
 unfold plus
 rw [h1,h2,Bool.and_self,if_pos rfl]
 have h1':=rightB_iff.1 h1
 have h2':=rightB_iff.1 h2
 exact mkE4 (by have:=Int.mul_pos h1'.1 h2'.1;omega)
mutual
def s1I:It→Prop
 | .mk _ s _ _ _ ks=>1≤s∧s1L ks
def s1L:List It→Prop
 | []=>True
 | x :: l=>s1I x∧s1L l
end
theorem qis:∀ {l:List It},s1L l→(l=[]∨1≤yj l)∧0≤yj l
 | [],_=>⟨.inl rfl,Int.le_refl _⟩
 | .mk k s ps b ly ks :: l,h=>by
  rw [s1L,s1I] at h
  have:=(qis h.2).2
  have e:yj (.mk k s ps b ly ks :: l)=s+yj l:=by unfold yj;rw [List.map_cons,List.sum_cons];rfl
  rw [e]
  have:=h.1.1
  exact ⟨.inr (by omega),by omega⟩
mutual
theorem shareS_e:∀ (x:It) (u d:Int) (st:StS),s1I x→rightB u d=true→Yy st.1 st.2.1 st.2.2→(qP (yW x) u d st).1=0∨(qP (yW x) u d st).1=4
 | .mk k s ps b ly ks,u,d,st,h,hr,hs=>by
  rw [s1I] at h
  rw [yW,qP]
  by_cases c:ks.length=0
  ·rw [if_pos c,if_neg (by decide),leaf_1]
   split
   ·exact .inl rfl
   ·rename_i c2
    exact .inr ((plE4 hs.1 hr).resolve_left c2)
  ·rw [if_neg c,if_pos rfl,qir]
   exact qes ks _ u d st h.2 (((qis h.2).1).resolve_left (fun e=>c (by rw [e];rfl))) hr hs
theorem qes:∀ (l:List It) (al u d:Int) (st:StS),s1L l→1≤al→rightB u d=true→Yy st.1 st.2.1 st.2.2→(yM (jO l) al u d st).1=0∨(yM (jO l) al u d st).1=4
 | [],al,u,d,st,_,_,_,_=>by rw [jO,yM];exact .inl rfl
 | x :: l,al,u,d,st,h,ha,hr,hs=>by
  rw [s1L] at h
  rw [jO,yM]
  dsimp only
  by_cases c1:(make (sh (yW x)) al).2.2=0
  ·rw [if_pos c1]
   by_cases c2:(times (make (sh (yW x)) al).1 (make (sh (yW x)) al).2.1 u d).2.2=0
   ·rw [if_pos c2]
    by_cases c3:(qP (yW x) (times (make (sh (yW x)) al).1 (make (sh (yW x)) al).2.1 u d).1 (times (make (sh (yW x)) al).1 (make (sh (yW x)) al).2.1 u d).2.1 st).1=0
    ·rw [if_pos c3]
     exact qes l al u d _ h.2 ha hr (qbd _ _ _ _ (QY c2) hs c3)
    ·rw [if_neg c3]
     exact shareS_e x _ _ st h.1 (QY c2) hs
   ·rw [if_neg c2]
    exact tmE4 (qao c1) hr
  ·rw [if_neg c1]
   exact mkE4 ha
end
/-! ### a bar's shares are right -/
mutual
theorem look_S:∀ (x:It) (lv n:Int),1≤lv→n≤4095→(vz x lv n).1=true→yQ (yW x) (lv+1) (4096-n)=(0,4096-(vz x lv n).2)
 | .mk k s ps b ly ks,lv,n,h0,h1,h=>by
  obtain ⟨k1,hlv,s1,s2,hk⟩:=YM h
  have s1:1≤s:=s1
  have s2:s≤65536:=s2
  rw [yW,yQ,if_neg (by omega),if_neg (by omega),if_neg (by omega)]
  rcases hk with ⟨c,q,e⟩|⟨c,q,e⟩|⟨c,q,e⟩
  ·obtain rfl:ks=[]:=(YF q).2.2.1
   rw [e,if_pos (show ([]:List It).length=0 from rfl),if_pos (.inl rfl),jO,if_pos (show ([]:List Beat).length=0 from rfl)]
   exact Prod.ext rfl (by show 4096-n+1=4096-(n-1);omega)
  ·obtain rfl:ks=[]:=(YA q).2.1
   rw [e,if_pos (show ([]:List It).length=0 from rfl),if_pos (.inl rfl),jO,if_pos (show ([]:List Beat).length=0 from rfl)]
   exact Prod.ext rfl (by show 4096-n+1=4096-(n-1);omega)
  ·have hne:ks≠[]:=(Zj q).1
   have hz:¬ ks.length=0:=fun z=>hne (List.length_eq_zero_iff.1 z)
   rw [e] at h ⊢
   rw [if_neg hz,if_neg (by decide),if_pos rfl,if_neg (by rw [VH,List.length_map];exact hz)]
   have:=look_L ks (lv+1) (n-1) (by omega) (by omega) h
   rw [show (4096:Int)-(n-1)=4096-n+1 by omega] at this
   exact this
theorem look_L:∀ (l:List It) (lv n:Int),1≤lv→n≤4095→(wF l lv n).1=true→jD (jO l) (lv+1) (4096-n)=(0,4096-(wF l lv n).2)
 | [],lv,n,_,_,_=>by rw [jO,jD,wF]
 | x :: l,lv,n,h0,h1,h=>by
  obtain ⟨g1,g2,g3⟩:=Zq h
  have e:=look_S x lv n h0 h1 g1
  have hr:=qdw x lv n (by have:=(YM g1).k1;omega)
  rw [jO,jD,e,if_pos rfl,g3]
  exact look_L l lv (vz x lv n).2 h0 (by omega) g2
end
theorem root_right {l:List It} (h:(wF l 1 4095).1=true) (hne:l≠[]):Qx (yW (zZ l))=0:=by
 have hz:¬ l.length=0:=fun z=>hne (List.length_eq_zero_iff.1 z)
 unfold Qx zZ
 rw [yW,yQ,if_neg (by decide),if_neg (by decide),if_neg (by decide),if_neg hz,if_neg (by decide),if_pos rfl,if_neg (by rw [VH,List.length_map];exact hz)]
 have:=look_L l 1 4095 (by decide) (by decide) h
 rw [show ((1:Int)+1)=2 from rfl] at this
 rw [show (0:Int)+1=4096-4095 from rfl,show ((1:Int)+1)=2 from rfl,this]
mutual
theorem s1_S:∀ (x:It) (lv n:Int),(vz x lv n).1=true→s1I x
 | .mk k s ps b ly ks,lv,n,h=>by
  obtain ⟨k1,hlv,s1,s2,hk⟩:=YM h
  rw [s1I]
  refine ⟨s1,?_⟩
  rcases hk with ⟨c,q,e⟩|⟨c,q,e⟩|⟨c,q,e⟩
  ·obtain rfl:ks=[]:=(YF q).2.2.1
   rw [s1L];trivial
  ·obtain rfl:ks=[]:=(YA q).2.1
   rw [s1L];trivial
  ·rw [e] at h
   exact s1_L ks _ _ h
theorem s1_L:∀ (l:List It) (lv n:Int),(wF l lv n).1=true→s1L l
 | [],_,_,_=>by rw [s1L];trivial
 | x :: l,lv,n,h=>by
  obtain ⟨g1,g2,_⟩:=Zq h
  rw [s1L]
  exact ⟨s1_S x lv n g1,s1_L l _ _ g2⟩
end
/-! ### notes,leaf by leaf -/
def noF (v a b:Int) (S:List Sp):List Zv→TsS→Int × TsS
 | [],t=>(0,t)
 | x :: l,t=>if (zK v a b S x.1 x.2.2 t).1=0 then noF v a b S l (zK v a b S x.1 x.2.2 t).2 else zK v a b S x.1 x.2.2 t
theorem noF_app {v a b:Int} {S:List Sp}:∀ (A B:List Zv) (t:TsS),noF v a b S (A++B) t=if (noF v a b S A t).1=0 then noF v a b S B (noF v a b S A t).2 else noF v a b S A t
 | [],B,t=>by rw [List.nil_append,noF,if_pos rfl]
 | x :: A,B,t=>by
  rw [List.cons_append,noF,noF]
  split
  ·exact noF_app A B _
  ·rfl
theorem qct {v a b:Int} {S:List Sp} {l:List Zv} {i:Nat} {t:TsS} (h:i<l.length):noF v a b S (l.drop i) t=if (zK v a b S (l.getD i yz).1 (l.getD i yz).2.2 t).1=0 then noF v a b S (l.drop (i+1)) (zK v a b S (l.getD i yz).1 (l.getD i yz).2.2 t).2 else zK v a b S (l.getD i yz).1 (l.getD i yz).2.2 t:=by
 rw [List.drop_eq_getElem_cons h,List.getD_eq_getElem?_getD,List.getElem?_eq_getElem h,noF];rfl
mutual
theorem telI_f {v a b:Int} {S:List Sp}:∀ (x:It) (al u d:Int) (g:List Iv) (t:TsS),gdI x→(VA x al u d g).2=true→WX v a b S x g t=noF v a b S (VA x al u d g).1 t
 | .mk k s ps by_ ly ks,al,u,d,g,t,hg,h=>by
  rw [gdI] at hg
  rw [VA] at h ⊢
  split at h
  ·rename_i c1
   rw [if_pos c1]
   split at h
   ·rename_i c2
    rw [if_pos c2]
    rw [WX]
    by_cases c:ks.length=0
    ·have hk:¬ (k=4∨k=5):=fun q=>hg.1.1 q c
     rw [if_neg (by omega),if_neg (by omega),if_pos c,noF]
     dsimp only
     split
     ·rename_i e;rw [noF];rw [← e]
     ·rfl
    ·have hk:=hg.1.2 c
     rw [if_neg c] at h ⊢
     by_cases c4:k=4
     ·rw [if_pos c4,if_neg (by omega)] 
      rw [if_neg (by omega)] at h
      exact qiq ks _ _ _ g t hg.2 h
     ·rw [if_neg c4,if_pos (by omega),if_pos (by omega)]
      rw [if_pos (by omega)] at h
      exact qiq ks _ _ _ (by_ :: g) t hg.2 h
   ·cases h
  ·cases h
theorem qiq {v a b:Int} {S:List Sp}:∀ (l:List It) (al u d:Int) (g:List Iv) (t:TsS),gdL l→(Yq l al u d g).2=true→zE v a b S l g t=noF v a b S (Yq l al u d g).1 t
 | [],al,u,d,g,t,_,_=>by rw [zE,Yq,noF]
 | x :: l,al,u,d,g,t,hg,h=>by
  rw [gdL] at hg
  rw [Yq] at h ⊢
  split at h
  ·rename_i c1
   rw [if_pos c1]
   split at h
   ·rename_i c2
    rw [if_pos c2,zE,telI_f x al u d g t hg.1 c1,noF_app]
    split
    ·exact qiq l al u d g _ hg.2 c2
    ·rfl
   ·cases h
  ·cases h
end
def nbT (v:Int) (y:Br) (s:(Int × Int) × List Nt × Nat):Int × List Nt × Nat :=
 if (make y.1 y.2.1).2.2=0 then
  if (Yz y.2.2 (make y.1 y.2.1).1 (make y.1 y.2.1).2.1 []).2=true∧(Qq (Yz y.2.2 (make y.1 y.2.1).1 (make y.1 y.2.1).2.1 []).1 0 1).2=true then
   ((noF v s.1.1 s.1.2 (spZ (Qq (Yz y.2.2 (make y.1 y.2.1).1 (make y.1 y.2.1).2.1 []).1 0 1).1 (Yz y.2.2 (make y.1 y.2.1).1 (make y.1 y.2.1).2.1 []).1) (Yz y.2.2 (make y.1 y.2.1).1 (make y.1 y.2.1).2.1 []).1 (s.2.1,s.2.2,0)).1,
    (noF v s.1.1 s.1.2 (spZ (Qq (Yz y.2.2 (make y.1 y.2.1).1 (make y.1 y.2.1).2.1 []).1 0 1).1 (Yz y.2.2 (make y.1 y.2.1).1 (make y.1 y.2.1).2.1 []).1) (Yz y.2.2 (make y.1 y.2.1).1 (make y.1 y.2.1).2.1 []).1 (s.2.1,s.2.2,0)).2.1,
    (noF v s.1.1 s.1.2 (spZ (Qq (Yz y.2.2 (make y.1 y.2.1).1 (make y.1 y.2.1).2.1 []).1 0 1).1 (Yz y.2.2 (make y.1 y.2.1).1 (make y.1 y.2.1).2.1 []).1) (Yz y.2.2 (make y.1 y.2.1).1 (make y.1 y.2.1).2.1 []).1 (s.2.1,s.2.2,0)).2.2.1)
  else (4,s.2.1,s.2.2)
 else ((make y.1 y.2.1).2.2,s.2.1,s.2.2)
theorem qkq {v:Int} {y:Br} {s:(Int × Int) × List Nt × Nat} (hy:wK y=0):vW v y s =
  if (nbT v y s).1=0 then ((plus s.1.1 s.1.2 (make y.1 y.2.1).1 (make y.1 y.2.1).2.1).2.2,((plus s.1.1 s.1.2 (make y.1 y.2.1).1 (make y.1 y.2.1).2.1).1,(plus s.1.1 s.1.2 (make y.1 y.2.1).1 (make y.1 y.2.1).2.1).2.1),(nbT v y s).2.1,(nbT v y s).2.2)
  else ((nbT v y s).1,s):=by
 obtain ⟨⟨b1,b2⟩,⟨b3,b4⟩,b5,b6⟩:=qkp hy
 have hg:=ZA y.2.2 1 4095 (by decide) b5
 have hw:=root_right b5 b6
 have hs1:=s1_L _ _ _ b5
 have hz:¬ y.2.2.length=0:=fun z=>b6 (List.length_eq_zero_iff.1 z)
 unfold vW nbT
 by_cases c1:(make y.1 y.2.1).2.2=0
 ·rw [if_pos c1,if_pos c1]
  have hr:=qao c1
  have hmk:=qdt (show make y.1 y.2.1=((make y.1 y.2.1).1,(make y.1 y.2.1).2.1,0) from by rw [← c1])
  have hup:¬ (make y.1 y.2.1).1<1:=fun q=>by
   have hd:=(rightB_iff.1 hr).1
   have h1:=hmk.2.2
   have h2:0<y.1*(make y.1 y.2.1).2.1:=Int.mul_pos (by omega) hd
   have h3:(make y.1 y.2.1).1*y.2.1≤0:=Int.mul_nonpos_of_nonpos_of_nonneg (by omega) (by omega)
   omega
  have hE:yR (yW (zZ y.2.2)) (make y.1 y.2.1).1 (make y.1 y.2.1).2.1=(yM (jO y.2.2) (yj y.2.2) (make y.1 y.2.1).1 (make y.1 y.2.1).2.1 ([],0,1)).1:=by
   unfold yR
   rw [if_pos hw,if_pos hr,if_neg hup]
   unfold zZ
   rw [yW,qP,if_neg hz,if_pos rfl,qir]
  have hL:wx (yW (zZ y.2.2)) (make y.1 y.2.1).1 (make y.1 y.2.1).2.1=(yM (jO y.2.2) (yj y.2.2) (make y.1 y.2.1).1 (make y.1 y.2.1).2.1 ([],0,1)).2.1:=by
   unfold wx zZ
   rw [yW,qP,if_neg hz,if_pos rfl,qir]
  obtain ⟨f1,f2⟩:=qer y.2.2 (yj y.2.2) (make y.1 y.2.1).1 (make y.1 y.2.1).2.1 [] ([],0,1)
  have he:=qes y.2.2 (yj y.2.2) (make y.1 y.2.1).1 (make y.1 y.2.1).2.1 ([],0,1) hs1 ((qis hs1).1.resolve_left b6) hr st0_ok
  by_cases c2:(Yz y.2.2 (make y.1 y.2.1).1 (make y.1 y.2.1).2.1 []).2=true
  ·have c2':(Yq y.2.2 (yj y.2.2) (make y.1 y.2.1).1 (make y.1 y.2.1).2.1 []).2=true:=c2
   have e1:=f1 c2'
   obtain ⟨p1,p2⟩:=shF_plcs (Yq y.2.2 (yj y.2.2) (make y.1 y.2.1).1 (make y.1 y.2.1).2.1 []).1 [] 0 1
   by_cases c3:(Qq (Yz y.2.2 (make y.1 y.2.1).1 (make y.1 y.2.1).2.1 []).1 0 1).2=true
   ·have c3':=p1.2 c3
    rw [e1] at hE hL
    rw [if_pos (show _∧_ from ⟨c2,c3⟩),if_pos (show yR (yW (zZ y.2.2)) (make y.1 y.2.1).1 (make y.1 y.2.1).2.1=0 from by rw [hE];exact c3'),hL,p2 c3',List.nil_append,qiq y.2.2 (yj y.2.2) (make y.1 y.2.1).1 (make y.1 y.2.1).2.1 [] _ hg.1 c2']
    rfl
   ·have c4:¬ (yM (jO y.2.2) (yj y.2.2) (make y.1 y.2.1).1 (make y.1 y.2.1).2.1 ([],0,1)).1=0:=by rw [e1];exact fun q=>c3 (p1.1 q)
    have c5:¬ ((Yz y.2.2 (make y.1 y.2.1).1 (make y.1 y.2.1).2.1 []).2=true∧(Qq (Yz y.2.2 (make y.1 y.2.1).1 (make y.1 y.2.1).2.1 []).1 0 1).2=true):=fun q=>c3 q.2
    rw [if_neg (show ¬ yR (yW (zZ y.2.2)) (make y.1 y.2.1).1 (make y.1 y.2.1).2.1=0 from by rw [hE];exact c4),if_neg c5,hE,he.resolve_left c4]
    exact (if_neg (by decide:¬ (4:Int)=0)).symm
  ·have c4:=f2 (show (Yz y.2.2 (make y.1 y.2.1).1 (make y.1 y.2.1).2.1 []).2=false from by simpa using c2)
   have c5:¬ ((Yz y.2.2 (make y.1 y.2.1).1 (make y.1 y.2.1).2.1 []).2=true∧(Qq (Yz y.2.2 (make y.1 y.2.1).1 (make y.1 y.2.1).2.1 []).1 0 1).2=true):=fun q=>c2 q.1
   rw [if_neg (show ¬ yR (yW (zZ y.2.2)) (make y.1 y.2.1).1 (make y.1 y.2.1).2.1=0 from by rw [hE];exact c4),if_neg c5,hE,he.resolve_left c4]
   exact (if_neg (by decide:¬ (4:Int)=0)).symm
 ·rw [if_neg c1,if_neg c1,if_neg c1]
def lfvC (x:Zv):List PV:=[iv (iK x.1),iv (iS x.1),.ssl (zG (iP x.1)) 0 (iP x.1).length,iv (iB x.1).1,iv (iB x.1).2,sv (st (iL x.1)),.ssl (qO (iC x.1)) 0 (iC x.1).length,iv x.2.1.1,iv x.2.1.2,.ssl (zz x.2.2) 0 x.2.2.length]
def zO (l:List Zv):List PV:=l.flatMap lfvC
theorem VW (l:List Zv):jW (zO l):=jG lfvC (fun _=>rfl) l
theorem VX (l:List Zv):(zO l).length=l.length*10:=QH lfvC 10 (fun _=>rfl) l
theorem lfvs_src (l:List Zv):0+l.length*10≤(zO l).length∧((zO l).drop 0).take (l.length*10)=zO l:=by
 rw [List.drop_zero,List.take_of_length_le (by rw [VX];omega),VX]
 exact ⟨by omega,rfl⟩
/-! ### shares -/
mutual
def shI:It→Prop
 | .mk _ s _ _ _ ks=>(1≤s∧s≤65536)∧shL ks
def shL:List It→Prop
 | []=>True
 | x :: l=>shI x∧shL l
end
theorem qiw (x:It):shI x↔(1≤iS x∧iS x≤65536)∧shL (iC x):=by cases x with|mk k s ps b ly ks=>rw [shI];rfl
theorem sh_at:∀ {l:List It} {i:Nat},shL l→i<l.length→shI (l.getD i qB)
 | [],i,_,h=>absurd h (Nat.not_lt_zero i)
 | x :: l,0,h,_=>by rw [shL] at h;exact h.1
 | x :: l,i+1,h,hi=>by
  rw [shL] at h
  have:=sh_at (l:=l) (i:=i) h.2 (by simpa using hi)
  simpa using this
mutual
theorem sh_S:∀ (x:It) (lv n:Int),(vz x lv n).1=true→shI x
 | .mk k s ps b ly ks,lv,n,h=>by
  obtain ⟨k1,hlv,s1,s2,hk⟩:=YM h
  rw [shI]
  refine ⟨⟨s1,s2⟩,?_⟩
  rcases hk with ⟨c,q,e⟩|⟨c,q,e⟩|⟨c,q,e⟩
  ·obtain rfl:ks=[]:=(YF q).2.2.1
   rw [shL];trivial
  ·obtain rfl:ks=[]:=(YA q).2.1
   rw [shL];trivial
  ·rw [e] at h
   exact sh_L ks _ _ h
theorem sh_L:∀ (l:List It) (lv n:Int),(wF l lv n).1=true→shL l
 | [],_,_,_=>by rw [shL];trivial
 | x :: l,lv,n,h=>by
  obtain ⟨g1,g2,_⟩:=Zq h
  rw [shL]
  exact ⟨sh_S x lv n g1,sh_L l _ _ g2⟩
end
theorem sum_next {l:List It} {i:Nat} (h:i<l.length):yj (l.take (i+1))=yj (l.take i)+iS (l.getD i qB):=by
 unfold yj
 rw [List.take_succ_eq_append_getElem h,List.map_append,List.sum_append,List.getD_eq_getElem?_getD,List.getElem?_eq_getElem h,List.map_cons,List.sum_cons]
 show _+(iS l[i]+0)=_+iS l[i]
 omega
theorem sum_end {l:List It} {i:Nat} (h:l.length≤i):yj (l.take i)=yj l:=by rw [List.take_of_length_le h]
/-! ### leaves -/
def gLf (z:Zv):Prop:=(I64 z.2.1.1∧I64 z.2.1.2)∧wdI z.1∧(iP z.1).length≤16∧z.2.2.length≤100000
mutual
theorem lvI_good:∀ (x:It) (al u d:Int) (g:List Iv),wdI x→okI x→gdI x→g.length+cnI x≤100000→(∀ z∈(VA x al u d g).1,gLf z)∧(VA x al u d g).1.length≤cnI x
 | .mk k s ps b ly ks,al,u,d,g,hw,ho,hg,hc=>by
  rw [gdI] at hg
  rw [okI] at ho
  rw [cnI] at hc ⊢
  rw [VA]
  split
  ·rename_i c1
   split
   ·rename_i c2
    split
    ·rename_i c3
     have hk:¬ (k=4∨k=5):=fun q=>hg.1.1 q c3
     refine ⟨fun z hz=>?_,by show 1≤_;omega⟩
     rw [List.mem_singleton.1 hz]
     exact ⟨jN (QY c2),hw,ho.1.elim (fun q=>absurd (.inl q) hk) (fun q=>q.elim (fun q=>absurd (.inr q) hk) (fun q=>q)),by show g.length≤_;omega⟩
    ·have h:=qfr ks (yj ks) (times (make s al).1 (make s al).2.1 u d).1 (times (make s al).1 (make s al).2.1 u d).2.1 (if k=5 then b :: g else g) ((qcg _).1 hw).2 ho.2 hg.2 (by split <;> (try rw [List.length_cons]) <;> omega)
     exact ⟨h.1,by omega⟩
   ·exact ⟨fun z hz=>(by cases hz),Nat.zero_le _⟩
  ·exact ⟨fun z hz=>(by cases hz),Nat.zero_le _⟩
theorem qfr:∀ (l:List It) (al u d:Int) (g:List Iv),wdL l→okL l→gdL l→g.length+jT l≤100000→(∀ z∈(Yq l al u d g).1,gLf z)∧(Yq l al u d g).1.length≤jT l
 | [],al,u,d,g,_,_,_,_=>by rw [Yq];exact ⟨fun z hz=>(by cases hz),Nat.zero_le _⟩
 | x :: l,al,u,d,g,hw,ho,hg,hc=>by
  rw [wdL] at hw
  rw [okL] at ho
  rw [gdL] at hg
  rw [jT] at hc ⊢
  have h1:=lvI_good x al u d g hw.1 ho.1 hg.1 (by omega)
  have h2:=qfr l al u d g hw.2 ho.2 hg.2 (by omega)
  rw [Yq]
  split
  ·split
   ·refine ⟨fun z hz=>(List.mem_append.1 hz).elim (h1.1 z) (h2.1 z),?_⟩
    rw [List.length_append]
    have:=h1.2
    have:=h2.2
    omega
   ·exact ⟨fun z hz=>(by cases hz),Nat.zero_le _⟩
  ·exact ⟨fun z hz=>(by cases hz),Nat.zero_le _⟩
end
mutual
theorem qjs:∀ (x:It) (al u d:Int) (g:List Iv),(VA x al u d g).1.length≤cnI x
 | .mk k s ps b ly ks,al,u,d,g=>by
  rw [cnI,VA]
  split
  ·split
   ·split
    ·show 1≤_;omega
    ·have h:=qjt ks (yj ks) (times (make s al).1 (make s al).2.1 u d).1 (times (make s al).1 (make s al).2.1 u d).2.1 (if k=5 then b :: g else g)
     omega
   ·exact Nat.zero_le _
  ·exact Nat.zero_le _
theorem qjt:∀ (l:List It) (al u d:Int) (g:List Iv),(Yq l al u d g).1.length≤jT l
 | [],al,u,d,g=>by rw [Yq];exact Nat.zero_le _
 | x :: l,al,u,d,g=>by
  have h1:=qjs x al u d g
  have h2:=qjt l al u d g
  rw [jT,Yq]
  split
  ·split
   ·rw [List.length_append]
    omega
   ·exact Nat.zero_le _
  ·exact Nat.zero_le _
end
theorem lvT_len (l:List It) (u d:Int) (g:List Iv):(Yz l u d g).1.length≤jT l:=qjt l _ u d g
theorem lf_at {l:List Zv} (h:∀ z∈l,gLf z):∀ i,i<l.length→gLf (l.getD i yz):=fun i hi=>by
 rw [List.getD_eq_getElem?_getD,List.getElem?_eq_getElem hi]
 exact h _ (List.getElem_mem hi)
/-! ### places -/
theorem plcs_at {l:List Zv} {i:Nat} {a b:Int} (h:i<l.length):Qq (l.drop i) a b=if (plus a b (l.getD i yz).2.1.1 (l.getD i yz).2.1.2).2.2=0 then ((a,b) :: (Qq (l.drop (i+1)) (plus a b (l.getD i yz).2.1.1 (l.getD i yz).2.1.2).1 (plus a b (l.getD i yz).2.1.1 (l.getD i yz).2.1.2).2.1).1,(Qq (l.drop (i+1)) (plus a b (l.getD i yz).2.1.1 (l.getD i yz).2.1.2).1 (plus a b (l.getD i yz).2.1.1 (l.getD i yz).2.1.2).2.1).2) else ([(a,b)],false):=by
 rw [List.drop_eq_getElem_cons h,List.getD_eq_getElem?_getD,List.getElem?_eq_getElem h,Qq];rfl
def plA (P:List Iv) (l:List Zv) (a b:Int):List Iv × Bool:=(P++(Qq l a b).1,(Qq l a b).2)
theorem plA_go {P:List Iv} {l:List Zv} {i:Nat} {a b:Int} (h:i<l.length) (c:(plus a b (l.getD i yz).2.1.1 (l.getD i yz).2.1.2).2.2=0):plA P (l.drop i) a b=plA (P++[(a,b)]) (l.drop (i+1)) (plus a b (l.getD i yz).2.1.1 (l.getD i yz).2.1.2).1 (plus a b (l.getD i yz).2.1.1 (l.getD i yz).2.1.2).2.1:=by
 unfold plA
 rw [plcs_at h,if_pos c,List.append_assoc]
 rfl
theorem plA_no {P:List Iv} {l:List Zv} {i:Nat} {a b:Int} (h:i<l.length) (c:¬ (plus a b (l.getD i yz).2.1.1 (l.getD i yz).2.1.2).2.2=0):(plA P (l.drop i) a b).2=false:=by
 unfold plA
 rw [plcs_at h,if_neg c]
theorem plA_end {P:List Iv} {l:List Zv} {i:Nat} {a b:Int} (h:l.length≤i):plA P (l.drop i) a b=(P,true):=by
 unfold plA
 rw [List.drop_eq_nil_of_le h,Qq,List.append_nil]
theorem sp_at:∀ {P:List Iv} {l:List Zv} {i:Nat},P.length=l.length→i<l.length→(spZ P l).getD i dS=((P.getD i vB).1,(P.getD i vB).2,(l.getD i yz).2.1.1,(l.getD i yz).2.1.2,true)
 | [],[],_,_,h=>absurd h (Nat.not_lt_zero _)
 | [],_ :: _,_,h,_=>by cases h
 | _ :: _,[],_,h,_=>by cases h
 | p :: P,x :: l,0,_,_=>rfl
 | p :: P,x :: l,i+1,h,hi=>by
  rw [spZ,List.getD_cons_succ,List.getD_cons_succ,List.getD_cons_succ]
  exact sp_at (P:=P) (l:=l) (i:=i) (by simpa using h) (by simpa using hi)
def okIv (P:List Iv):Prop:=∀ q∈P,I64 q.1∧I64 q.2
theorem okIv_at {P:List Iv} (h:okIv P):∀ i,i<P.length→I64 (P.getD i vB).1∧I64 (P.getD i vB).2:=fun i hi=>by
 rw [List.getD_eq_getElem?_getD,List.getElem?_eq_getElem hi]
 exact h _ (List.getElem_mem hi)
theorem okIv_more {P:List Iv} {a b:Int} (h:okIv P) (ha:I64 a) (hb:I64 b):okIv (P++[(a,b)]):=fun q hq=>by
 rcases List.mem_append.1 hq with hq|hq
 ·exact h q hq
 ·rw [List.mem_singleton.1 hq];exact ⟨ha,hb⟩
/-! ### a pitch,moved -/
def mvZ (p:Pt) (g:List Iv):Pt × Int:=if (QE p g).2=0 then QE p g else ((0,0,0),(QE p g).2)
theorem mvZ_yes {p:Pt} {g:List Iv} (h:(QE p g).2=0):mvZ p g=((QE p g).1,0):=by
 unfold mvZ
 rw [if_pos h]
 exact Prod.ext rfl h
theorem mvZ_no {p:Pt} {g:List Iv} (h:¬ (QE p g).2=0):mvZ p g=((0,0,0),(QE p g).2):=if_neg h
theorem mv_sign (l a o s h:Int):Pi.I64 (Pi.move l a o s h).2.1:=by
 have:=Pi.rightB_iff.1 (Pi.move_right l a o s h)
 unfold Pi.I64
 omega
/-! ### what a bar keeps to -/
structure BarG (y:Br):Prop where
 u:I64 y.1
 d:I64 y.2.1
 sh:shL y.2.2
 fit:wy y.2.2
 wd:wdL y.2.2
 ok:okL y.2.2
 gd:gdL y.2.2
 cn:jT y.2.2≤4095
theorem bar_g {y:Br} (hy:qaw y) (hw:wdL y.2.2) (hi:(wF y.2.2 1 4095).1=true) (hne:y.2.2.length≠0):BarG y:=by
 have hg:=ZA y.2.2 1 4095 (by decide) hi
 have hc:=(qbu y.2.2 1 4095 (.inl fun e=>hne (by rw [e];rfl))).1.1 hi
 exact ⟨hy.1,hy.2.1,sh_L _ _ _ hi,hy.2.2.2,hw,hg.2.1,hg.1,by omega⟩
theorem lv_good {y:Br} (h:BarG y) (u d:Int):(∀ z∈(Yz y.2.2 u d []).1,gLf z)∧(Yz y.2.2 u d []).1.length≤4095:=by
 have:=qfr y.2.2 (yj y.2.2) u d [] h.wd h.ok h.gd (by have:=h.cn;show 0+_≤_;omega)
 exact ⟨this.1,Nat.le_trans this.2 h.cn⟩
theorem barE_of {l:List Vo} {i j:Nat} (h:qw l=0) (hi:i<l.length) (hj:j<(l.getD i qD).2.length):wK ((l.getD i qD).2.getD j zB)=0:=by
 unfold qw at h
 split at h
 ·cases h
 ·exact qgi (qch (Zw h i hi)).2 j hj
theorem nb_no1 {v:Int} {y:Br} {a b:Int} {N:List Nt} {z:Nat} (h:¬ (make y.1 y.2.1).2.2=0):(nbT v y ((a,b),N,z)).1=(make y.1 y.2.1).2.2:=by
 unfold nbT
 rw [if_neg h]
theorem nb_no2 {v:Int} {y:Br} {a b:Int} {N:List Nt} {z:Nat} {V:List Zv × Bool} (h:(make y.1 y.2.1).2.2=0) (hV:V=Yz y.2.2 (make y.1 y.2.1).1 (make y.1 y.2.1).2.1 []) (hx:¬ (V.2=true∧(Qq V.1 0 1).2=true)):(nbT v y ((a,b),N,z)).1=4:=by
 unfold nbT
 rw [if_pos h,← hV,if_neg hx]
theorem nb_go {v:Int} {y:Br} {a b:Int} {N:List Nt} {z:Nat} {V:List Zv × Bool} {P:List Iv} (h:(make y.1 y.2.1).2.2=0) (hV:V=Yz y.2.2 (make y.1 y.2.1).1 (make y.1 y.2.1).2.1 []) (h2:V.2=true) (hp:Qq V.1 0 1=(P,true)):nbT v y ((a,b),N,z)=((noF v a b (spZ P V.1) V.1 (N,z,0)).1,(noF v a b (spZ P V.1) V.1 (N,z,0)).2.1,(noF v a b (spZ P V.1) V.1 (N,z,0)).2.2.1):=by
 unfold nbT
 rw [if_pos h,← hV,if_pos (show V.2=true∧(Qq V.1 0 1).2=true from ⟨h2,by rw [hp]⟩),hp]
end Go.Proofs.YtmlnilkbolcknaaGreatDoor.Pm
set_option maxRecDepth 100000
set_option maxHeartbeats 4000000
namespace Go.Proofs.YtmlnilkbolcknaaGreatDoor.Pi
open Go.RowKit
def R3 (r:Int × Int × Int):Value:=.tuple #[.agg #[.int .i64 r.1,.int .i64 r.2.1],.int .i64 r.2.2]
def R2 (r:Int × Int):Value:=.tuple #[.int .i64 r.1,.int .i64 r.2]
theorem ret_R2 {r:Int × Int} {a b:Int} (h:r=(a,b)):Ending.returned (.tuple #[.int .i64 a,.int .i64 b]) = .returned (R2 r):=by rw [h];rfl
theorem three {n m:Nat} (h:n+1+1+1≤m):n<m∧n+1<m∧n+1+1<m:=by omega
theorem qeb:wrap64 9223372036854775808 = -9223372036854775808:=by unfold wrap64;decide

theorem within_any (s h:Int) (w:World) (hs:I64 s) (hh:I64 h) :
  Calls Tryz.prog 121 #[.agg #[.int .i64 s,.int .i64 h]] w fun e w'=>e = .returned (.bool (withinB s h))∧Below w.heap.size w w':=by
 unfold I64 at hs hh
 have hw:=qeb
 have cs:s = -9223372036854775808∨(-9223372036854775808<s∧s < -200)∨(-200≤s∧s≤200)∨200<s:=by omega
 have ch:h = -9223372036854775808∨(-9223372036854775808<h∧h < -4096)∨(-4096≤h∧h≤4096)∨4096<h:=by omega
 rcases cs with rfl|⟨c1,c2⟩|⟨c1,c2⟩|c1 <;> rcases ch with rfl|⟨d1,d2⟩|⟨d1,d2⟩|d1
 all_goals
  go_enter Tryz.func121,Tryz.ntmps121
  go_wp2
  all_goals
   go_ret
   refine ⟨yO ?_,(by repeat (first|exact Below.refl _ _|assumption|refine qz ?_ _|refine Below.drew ?_|refine zJ ?_ _|refine Below.setCell ?_ (by first|omega|(simp <;> omega)) _|refine zD (by assumption) ?_))⟩
   rw [Bool.eq_iff_iff,withinB_iff]
   simp
   try omega


theorem tq (n k:Int) (hk:0<k):k*n.tdiv k+n.tmod k=n ∧ -k<n.tmod k∧n.tmod k<k:=by
 have h1:=Int.natAbs_tmod n k
 have h2:=Nat.mod_lt n.natAbs (show 0<k.natAbs by omega)
 exact ⟨Int.mul_tdiv_add_tmod n k,by omega,by omega⟩

set_option maxHeartbeats 1000000 in
theorem floor_any (n:Int) (w:World) (h1 : -1000≤n) (h2:n≤1000) :
  Calls Tryz.prog 122 #[.int .i64 n,.int .i64 7] w fun e w'=>e = .returned (R2 (n / 7,n % 7))∧∃ k,w'=w.drewN k:=by
 have t:=tq n 7 (by omega)
 have e1:IntKind.i64.wrap (n.tdiv 7)=n.tdiv 7:=IntWalk.i64_in _ (by omega)
 by_cases hc:n.tmod 7<0
 ·have HR:=Lib.hid (show n.tdiv 7-1=n / 7∧n.tmod 7+7=n % 7 by omega)
  have q1 : -1000≤n.tdiv 7∧n.tdiv 7≤1000:=by omega
  have q2 : -7≤n.tmod 7:=by omega
  clear t
  go_enter Tryz.func122,Tryz.ntmps122
  go_wp2
  go_quiet (fail)
  go_wp2
  go_ret2
  exact ⟨ret_R2 (by rw [HR.out.1,HR.out.2]),nq,rfl⟩
 ·have HR:=Lib.hid (show n.tdiv 7=n / 7∧n.tmod 7=n % 7 by omega)
  have hc':0≤n.tmod 7:=by omega
  clear t
  go_enter Tryz.func122,Tryz.ntmps122
  go_wp2
  go_quiet (fail)
  go_wp2
  go_ret2
  exact ⟨ret_R2 (by rw [HR.out.1,HR.out.2]),nq,rfl⟩

theorem move_no1 {l a o s h:Int} (k:rightB l a o=false):move l a o s h=(0,0,0,2):=by simp [move,k]
theorem move_no2 {l a o s h:Int} (k:rightB l a o=true) (k2:withinB s h=false):move l a o s h=(0,0,0,3):=by simp [move,k,k2]

theorem at_yes {S H:Int} (k:rightB (S % 7) (H-halves (S % 7) 0 (S / 7)) (S / 7)=true):at_ S H=(S % 7,H-halves (S % 7) 0 (S / 7),S / 7,0):=by
 have e:H-halves (S % 7) 0 (S / 7)=H-(12*(S / 7)+nat7 (S % 7)):=by unfold halves;omega
 rw [e] at k ⊢
 unfold at_
 rw [if_pos k]
theorem at_no {S H:Int} (k:rightB (S % 7) (H-halves (S % 7) 0 (S / 7)) (S / 7)=false):at_ S H=(0,0,0,3):=by
 have e:H-halves (S % 7) 0 (S / 7)=H-(12*(S / 7)+nat7 (S % 7)):=by unfold halves;omega
 rw [e] at k
 unfold at_
 rw [if_neg (by rw [k];exact Bool.false_ne_true)]
theorem halves_bd (S:Int) (h : -1000≤S∧S≤1000) : -2000≤halves (S % 7) 0 (S / 7)∧halves (S % 7) 0 (S / 7)≤2000:=by
 have:=nat7_range (S % 7)
 unfold halves
 omega
theorem abs_any (n:Int) (w:World) (h1 : -9223372036854775808<n) (h2:n≤9223372036854775807) :
  Calls Tryz.prog 55 #[.int .i64 n] w fun e w'=>e = .returned (.int .i64 (n.natAbs:Int))∧w=w':=by
 go_enter Tryz.func55,Tryz.ntmps55
 go_wp2
 all_goals
  go_ret
  exact ⟨jH (by omega),rfl⟩
theorem abs_least (w:World) :
  Calls Tryz.prog 55 #[.int .i64 (-9223372036854775808)] w fun e w'=>e = .returned (.int .i64 (-9223372036854775808))∧w=w':=by
 have hw:=qeb
 go_enter Tryz.func55,Tryz.ntmps55
 go_wp2
 go_ret
 exact ⟨jH hw,rfl⟩

theorem ref_right_any (l a o:Int) (w:World) (ha:I64 a) :
  Calls Tryz.prog 49 #[.agg #[.int .i64 l,.int .i64 a,.int .i64 o]] w fun e w'=>e = .returned (.bool (rightB l a o))∧Below w.heap.size w w':=by
 unfold I64 at ha
 have cl:l<0∨6<l∨(0≤l∧l≤6):=by omega
 have ca:a = -9223372036854775808∨(-9223372036854775808<a∧3<(a.natAbs:Int))∨(-3≤a∧(a.natAbs:Int)≤3):=by omega
 have co:o < -12∨12<o∨(-12≤o∧o≤12):=by omega
 rcases cl with c1|c1|⟨c1,c2⟩
 ·go_enter Tryz.func49,Tryz.ntmps49
  go_wp2
  go_ret
  refine ⟨yO ?_,(by repeat (first|exact Below.refl _ _|assumption|refine qz ?_ _|refine Below.drew ?_|refine zJ ?_ _|refine Below.setCell ?_ (by first|omega|(simp <;> omega)) _|refine zD (by assumption) ?_))⟩
  rw [eq_comm,← Bool.not_eq_true,rightB_iff];omega
 ·go_enter Tryz.func49,Tryz.ntmps49
  go_wp2
  go_ret
  refine ⟨yO ?_,(by repeat (first|exact Below.refl _ _|assumption|refine qz ?_ _|refine Below.drew ?_|refine zJ ?_ _|refine Below.setCell ?_ (by first|omega|(simp <;> omega)) _|refine zD (by assumption) ?_))⟩
  rw [eq_comm,← Bool.not_eq_true,rightB_iff];omega
 ·rcases ca with rfl|⟨d1,d2⟩|⟨d1,d2⟩
  ·rcases co with k1|k1|⟨k1,k2⟩
   all_goals
    go_enter Tryz.func49,Tryz.ntmps49
    go_wp2_with (go_at_call 55;refine (abs_least _).mono ?_;rintro e w1 ⟨rfl,rfl⟩)
    go_ret
    refine ⟨yO ?_,(by repeat (first|exact Below.refl _ _|assumption|refine qz ?_ _|refine Below.drew ?_|refine zJ ?_ _|refine Below.setCell ?_ (by first|omega|(simp <;> omega)) _|refine zD (by assumption) ?_))⟩
    rw [eq_comm,← Bool.not_eq_true,rightB_iff];omega
  ·go_enter Tryz.func49,Tryz.ntmps49
   go_wp2_with (go_at_call 55;refine (abs_any a _ (by omega) (by omega)).mono ?_;rintro e w1 ⟨rfl,rfl⟩)
   go_ret
   refine ⟨yO ?_,(by repeat (first|exact Below.refl _ _|assumption|refine qz ?_ _|refine Below.drew ?_|refine zJ ?_ _|refine Below.setCell ?_ (by first|omega|(simp <;> omega)) _|refine zD (by assumption) ?_))⟩
   rw [eq_comm,← Bool.not_eq_true,rightB_iff];omega
  ·rcases co with k1|k1|⟨k1,k2⟩
   all_goals
    go_enter Tryz.func49,Tryz.ntmps49
    go_wp2_with (go_at_call 55;refine (abs_any a _ (by omega) (by omega)).mono ?_;rintro e w1 ⟨rfl,rfl⟩)
    go_ret
    refine ⟨yO ?_,(by repeat (first|exact Below.refl _ _|assumption|refine qz ?_ _|refine Below.drew ?_|refine zJ ?_ _|refine Below.setCell ?_ (by first|omega|(simp <;> omega)) _|refine zD (by assumption) ?_))⟩
    rw [Bool.eq_iff_iff,rightB_iff]
    simp
    try omega

theorem up_any (l:Int) (w:World) :
  Calls Tryz.prog 114 #[.int .i64 l] w fun e w'=>e = .returned (.int .i64 (up l))∧w=w':=by
 by_cases h2:l=2
 ·subst h2
  go_enter Tryz.func114,Tryz.ntmps114
  go_wp2
  go_ret
  exact ⟨rfl,rfl⟩
 ·by_cases h6:l=6
  ·subst h6
   go_enter Tryz.func114,Tryz.ntmps114
   go_wp2
   go_ret
   exact ⟨rfl,rfl⟩
  ·have HU:=Lib.hid (show up l=2 by unfold up;rw [if_neg (by omega)])
   replace h2:(l == 2)=false:=by simpa using h2
   replace h6:(l == 6)=false:=by simpa using h6
   go_enter Tryz.func114,Tryz.ntmps114
   go_wp2
   go_ret
   exact ⟨jH HU.out.symm,rfl⟩

set_option maxHeartbeats 2000000 in
theorem white_pos (n:Int) (w:World) (h0:0≤n) (h1:n≤1000) :
  Calls Tryz.prog 81 #[.int .i64 n] w fun e w'=>e = .returned (.int .i64 (white n))∧w=w':=by
 go_enter Tryz.func81,Tryz.ntmps81
 go_wp2
 go_loop [0,3,4] (fun x m l=>∃ t:Int,0≤t∧t≤n∧x = .int .i64 (n-t)∧m = .int .i64 (white t)∧l = .int .i64 (t % 7)) (fun x _ _=>(intOf x).toNat)
 case atStart=>exact ⟨0,by omega,h0,by go_num,by go_num,by go_num⟩
 case round =>
  obtain ⟨t,ht0,ht1,rfl,rfl,rfl⟩:=hrel
  have hb:=white_bd t (by omega)
  have hu:=up_range (t % 7)
  have hl:0≤t % 7∧t % 7≤6:=by omega
  have HS:=Lib.hid (qef t)
  have HL:=Lib.hid (show (t % 7+1) % 7=(t+1) % 7 by omega)
  by_cases hc:t<n
  ·have hc':0<n-t:=by omega
   go_wp2_with (go_at_call 114;refine (up_any (t % 7) _).mono ?_;rintro e w1 ⟨rfl,rfl⟩)
   go_round
   case rel=>exact ⟨t+1,by omega,by omega,by go_num,by rw [HS.out],by rw [HL.out]⟩
   case measure=>(simp [intOf] <;> omega)
  ·obtain rfl:t=n:=by omega
   have hz:t-t=0:=by omega
   go_wp2
   refine wp_loop_rounds 1 ?_
   rw [rounds_succ]
   go_wp2
   go_ret
   exact ⟨rfl,rfl⟩

set_option maxHeartbeats 2000000 in
theorem white_neg (n:Int) (w:World) (h0:n<0) (h1 : -1000≤n) :
  Calls Tryz.prog 81 #[.int .i64 n] w fun e w'=>e = .returned (.int .i64 (white n))∧w=w':=by
 go_enter Tryz.func81,Tryz.ntmps81
 go_wp2
 refine wp_loop_rounds 1 ?_
 rw [rounds_succ]
 go_wp2
 go_loop [0,3,4] (fun x m l=>∃ t:Int,t≤0∧n≤t∧x = .int .i64 (n-t)∧m = .int .i64 (white t)∧l = .int .i64 (t % 7)) (fun x _ _=>(-(intOf x)).toNat)
 case atStart=>exact ⟨0,by omega,by omega,by go_num,by go_num,by go_num⟩
 case round =>
  obtain ⟨t,ht0,ht1,rfl,rfl,rfl⟩:=hrel
  have hb:=white_bd t (by omega)
  have hu:=up_range ((t-1) % 7)
  have hl:0≤t % 7∧t % 7≤6:=by omega
  have HS:=Lib.hid (white_pred t)
  have hL:(t % 7+6) % 7=(t-1) % 7:=by omega
  by_cases hc:n<t
  ·have hc':n-t<0:=by omega
   go_wp2_with (go_at_call 114;refine (up_any ((t-1) % 7) _).mono ?_;rintro e w1 ⟨rfl,rfl⟩)
   go_round
   case rel=>exact ⟨t-1,by omega,by omega,by go_num,by rw [HS.out],rfl⟩
   case measure=>(simp [intOf] <;> omega)
  ·obtain rfl:t=n:=by omega
   have hz:t-t=0:=by omega
   go_wp2
   go_ret
   exact ⟨rfl,rfl⟩

theorem qcf (n:Int) (w:World) (h0 : -1000≤n) (h1:n≤1000) :
  Calls Tryz.prog 81 #[.int .i64 n] w fun e w'=>e = .returned (.int .i64 (white n))∧w=w':=by
 by_cases h:0≤n
 ·exact white_pos n w h h1
 ·exact white_neg n w (by omega) h0

set_option maxHeartbeats 1000000 in
theorem Wx (l a o:Int) (w:World) (h:rightB l a o=true) :
  Calls Tryz.prog 52 #[.agg #[.int .i64 l,.int .i64 a,.int .i64 o]] w fun e w'=>e = .returned (.int .i64 (steps l o))∧Below w.heap.size w w':=by
 have hr:=rightB_iff.1 h
 go_enter Tryz.func52,Tryz.ntmps52
 go_wp2
 go_ret
 exact ⟨jH rfl,(by repeat (first|exact Below.refl _ _|assumption|refine qz ?_ _|refine Below.drew ?_|refine zJ ?_ _|refine Below.setCell ?_ (by first|omega|(simp <;> omega)) _|refine zD (by assumption) ?_))⟩

set_option maxHeartbeats 1000000 in
theorem qex (l a o:Int) (w:World) (h:rightB l a o=true) :
  Calls Tryz.prog 53 #[.agg #[.int .i64 l,.int .i64 a,.int .i64 o]] w fun e w'=>e = .returned (.int .i64 (halves l a o))∧Below w.heap.size w w':=by
 have hr:=rightB_iff.1 h
 have hb:=(bounds h).1
 have hwb:=white_bd (steps l o) (by omega)
 have HW:=Lib.hid (qim h)
 go_enter Tryz.func53,Tryz.ntmps53
 go_wp2
 have hE:=Ext.cells (w.alloc (Obj.cells #[Value.int .i64 l,Value.int .i64 a,Value.int .i64 o] 52))
 refine qgo (by kernel_rfl) (by kernel_rfl) ?_
 repeat go_big_quiet_step ((first|(go_at_call 52;with_reducible refine ext_call (Wx l a o _ h))|(go_at_call 81;with_reducible refine ext_same (qcf (steps l o) _ (by omega) (by omega)))))
 refine wpQuiet_nil ?_
 rintro wd ⟨⟨_,hbd⟩,rfl⟩
 go_wp2
 go_ret
 exact ⟨jH HW.out,(by repeat (first|exact Below.refl _ _|assumption|refine qz ?_ _|refine Below.drew ?_|refine zJ ?_ _|refine Below.setCell ?_ (by first|omega|(simp <;> omega)) _|refine zD (by assumption) ?_))⟩

theorem qeu (s h:Int) (w:World) :
  Calls Tryz.prog 50 #[.agg #[.int .i64 s,.int .i64 h]] w fun e w'=>e = .returned (.bool (withinB s h))∧Below w.heap.size w w':=by
 have cs:s < -200∨200<s∨(-200≤s∧s≤200):=by omega
 have ch:h < -4096∨4096<h∨(-4096≤h∧h≤4096):=by omega
 rcases cs with c1|c1|⟨c1,c2⟩ <;> rcases ch with d1|d1|⟨d1,d2⟩
 all_goals
  go_enter Tryz.func50,Tryz.ntmps50
  go_wp2
  go_ret
  refine ⟨yO ?_,(by repeat (first|exact Below.refl _ _|assumption|refine qz ?_ _|refine Below.drew ?_|refine zJ ?_ _|refine Below.setCell ?_ (by first|omega|(simp <;> omega)) _|refine zD (by assumption) ?_))⟩
  rw [Bool.eq_iff_iff,withinB_iff]
  simp
  try omega

def RA (s h:Int):Value:=.tuple #[.agg #[.int .i64 (s % 7),.int .i64 (h-white s),.int .i64 (s / 7)],.bool (rightB (s % 7) (h-white s) (s / 7))]

theorem ref_at_any (s h:Int) (w:World) (h0 : -1000≤s∧s≤1000) (h1 : -100000≤h∧h≤100000) :
  Calls Tryz.prog 51 #[.int .i64 s,.int .i64 h] w fun e w'=>e = .returned (RA s h)∧Below w.heap.size w w':=by
 have hwb:=white_bd s h0
 have hA:I64 (h-white s):=by unfold I64;omega
 have hL:0≤s % 7∧s % 7≤6:=by omega
 have hO : -1000≤s / 7∧s / 7≤1000:=by omega
 go_enter Tryz.func51,Tryz.ntmps51
 go_wp2
 go_loop [6,7] (fun x y=>∃ q:Int,x = .int .i64 q∧y = .int .i64 (s-7*q) ∧ -1000≤q∧q≤0∧(q=0∨s-7*q<7)) (fun _ y=>(-(intOf y)).toNat)
 case atStart=>exact ⟨0,rfl,by go_num,by omega,by omega,by omega⟩
 case round =>
  obtain ⟨q,rfl,rfl,q1,q2,q3⟩:=hrel
  by_cases hc:s-7*q<0
  ·go_wp2
   go_round
   case rel=>exact ⟨q-1,rfl,by go_num,by omega,by omega,by omega⟩
   case measure=>(simp [intOf] <;> omega)
  ·have hc':0≤s-7*q:=by omega
   clear hc
   go_wp2
   go_loop [6,7] (fun x y=>∃ r:Int,x = .int .i64 r∧y = .int .i64 (s-7*r) ∧ -1000≤r∧0≤s-7*r∧r≤1000) (fun _ y=>(intOf y).toNat)
   case atStart=>exact ⟨q,rfl,rfl,by omega,by omega,by omega⟩
   case round =>
    obtain ⟨r,rfl,rfl,r1,r2,r3⟩:=hrel
    clear hc' q3 q1 q2
    by_cases hd:6<s-7*r
    ·go_wp2
     go_round
     case rel=>exact ⟨r+1,rfl,by go_num,by omega,by omega,by omega⟩
     case measure=>(simp [intOf] <;> omega)
    ·obtain ⟨rO,rL⟩:r=s / 7∧s-7*r=s % 7:=by omega
     subst rO
     have HL:=Lib.hid rL
     clear rL
     have hd':s-7*(s / 7)≤6:=by omega
     clear hd
     go_wp2_with (go_at_call 81;refine (qcf s _ h0.1 h0.2).mono ?_;rintro e w1 ⟨rfl,rfl⟩)
     obtain ⟨m,hm⟩:∃ m,m=s-7*(s / 7):=⟨_,rfl⟩
     rw [← hm]
     have HM:=Lib.hid (hm.trans HL.out)
     clear hm
     obtain ⟨W,hW⟩:∃ W,W=(w.alloc (Obj.cells #[Value.int .i64 0,Value.int .i64 0,Value.int .i64 0] 52)).alloc (Obj.cells #[Value.int .i64 m,Value.int .i64 (h-white s),Value.int .i64 (s / 7)] 52):=⟨_,rfl⟩
     have zr:w.heap.size<W.heap.size:=by rw [hW];simp;omega
     have zq:w.heap.size+1<W.heap.size:=by rw [hW];simp
     have cr0:W.cell? ⟨w.heap.size,0,none⟩=some (.int .i64 (0)):=by rw [hW];go_simp
     have fr0:W.frozen? ⟨w.heap.size,0,none⟩=false:=by rw [hW];go_simp
     have cr1:W.cell? ⟨w.heap.size,1,none⟩=some (.int .i64 (0)):=by rw [hW];go_simp
     have fr1:W.frozen? ⟨w.heap.size,1,none⟩=false:=by rw [hW];go_simp
     have cr2:W.cell? ⟨w.heap.size,2,none⟩=some (.int .i64 (0)):=by rw [hW];go_simp
     have fr2:W.frozen? ⟨w.heap.size,2,none⟩=false:=by rw [hW];go_simp
     have cq0:W.cell? ⟨w.heap.size+1,0,none⟩=some (.int .i64 (m)):=by rw [hW];go_simp
     have cq1:W.cell? ⟨w.heap.size+1,1,none⟩=some (.int .i64 (h-white s)):=by rw [hW];go_simp
     have cq2:W.cell? ⟨w.heap.size+1,2,none⟩=some (.int .i64 (s / 7)):=by rw [hW];go_simp
     have hBW:Below w.heap.size w W:=by rw [hW];exact (by repeat (first|exact Below.refl _ _|assumption|refine qz ?_ _|refine Below.drew ?_|refine zJ ?_ _|refine Below.setCell ?_ (by first|omega|(simp <;> omega)) _|refine zD (by assumption) ?_))
     rw [← hW]
     clear hW
     have hE:=Ext.cells W
     refine qaf 3 (by kernel_rfl) (by kernel_rfl) ?_
     simp only [List.take_succ_cons,List.take_zero,List.drop_succ_cons,List.drop_zero]
     repeat go_big_quiet_step ((first|(go_at_call 49;with_reducible refine ext_call (ref_right_any m (h-white s) (s / 7) _ hA))))
     refine wpQuiet_nil ?_
     rintro wd ⟨⟨_,hbd⟩,rfl⟩
     have kr0:=qcz cr0 hbd
     have kr1:=qcz cr1 hbd
     have kr2:=qcz cr2 hbd
     have lr0:=(hbd.frozen (p:=⟨w.heap.size,0,none⟩) zr).trans fr0
     have lr1:=(hbd.frozen (p:=⟨w.heap.size,1,none⟩) zr).trans fr1
     have lr2:=(hbd.frozen (p:=⟨w.heap.size,2,none⟩) zr).trans fr2
     have hBd:Below w.heap.size w wd:=zD hbd hBW
     go_wp2
     exact bodyPost_ret (v:=.tuple #[.agg #[.int .i64 m,.int .i64 (h-white s),.int .i64 (s / 7)],.bool (rightB m (h-white s) (s / 7))])
      (by simp [results,Tryz.results51,go_sem,kr0,kr1,kr2]) rfl ⟨by rw [RA,HM.out],(by repeat (first|exact Below.refl _ _|assumption|refine qz ?_ _|refine Below.drew ?_|refine zJ ?_ _|refine Below.setCell ?_ (by first|omega|(simp <;> omega)) _|refine zD (by assumption) ?_))⟩

end Go.Proofs.YtmlnilkbolcknaaGreatDoor.Pi
namespace Go.Proofs.YtmlnilkbolcknaaGreatDoor.Pm
open Go Go.Proofs.YtmlnilkbolcknaaGreatDoor.Pi
abbrev pitP (l a o:Int):PV:=.agg [iv l,iv a,iv o]
abbrev invP (s h:Int):PV:=.agg [iv s,iv h]
theorem YH (l:Int):PC Tryz.prog 123 [iv l] [] (iv (Pi.nat7 l)) [] :=
 vD (wG Tryz.func123 (by kernel_rfl) (by kernel_rfl)) rfl rfl fun w=>(qde l w).mono fun _ w' ⟨e1,e2⟩=>⟨e1,e2▸RowKit.Below.refl _ _⟩
theorem WJ (l a o:Int):PC Tryz.prog 89 [pitP l a o] [] (bv (rightB l a o)) [] :=
 vD (wG Tryz.func89 (by kernel_rfl) (by kernel_rfl)) rfl rfl fun w=>right_any l a o w
theorem qfa (s h:Int) (i1:Pi.I64 s) (i2:Pi.I64 h):PC Tryz.prog 121 [invP s h] [] (bv (withinB s h)) [] :=
 vD (wG Tryz.func121 (by kernel_rfl) (by kernel_rfl)) rfl rfl fun w=>within_any s h w i1 i2
theorem ZZ (n:Int) (h1 : -1000≤n) (h2:n≤1000):PC Tryz.prog 122 [iv n,iv 7] [] (.tup [iv (n / 7),iv (n % 7)]) [] :=
 vD (wG Tryz.func122 (by kernel_rfl) (by kernel_rfl)) rfl rfl fun w=>(floor_any n w h1 h2).mono fun _ w' ⟨e1,k,e2⟩=>⟨e1,by rw [e2];exact ⟨rfl,rfl,rfl,Nat.le_refl _,fun _ _=>rfl⟩⟩
theorem ZP (l a o:Int) (ha:Pi.I64 a):PC Tryz.prog 49 [pitP l a o] [] (bv (rightB l a o)) [] :=
 vD (wG Tryz.func49 (by kernel_rfl) (by kernel_rfl)) rfl rfl fun w=>ref_right_any l a o w ha
theorem VO (s h:Int):PC Tryz.prog 50 [invP s h] [] (bv (withinB s h)) [] :=
 vD (wG Tryz.func50 (by kernel_rfl) (by kernel_rfl)) rfl rfl fun w=>qeu s h w
abbrev M4P (r:Int × Int × Int × Int):PV:=.tup [.agg [iv r.1,iv r.2.1,iv r.2.2.1],iv r.2.2.2]
theorem psteps_pc (l a o:Int) (h:rightB l a o=true):PC Tryz.prog 154 [pitP l a o] [] (iv (Pi.steps l o)) [] :=
 vD (wG Tryz.func154 (by kernel_rfl) (by kernel_rfl)) rfl rfl fun w=>steps_any l a o w h
theorem qff (l a o:Int) (ha : -1000000≤a∧a≤1000000) (ho : -1000000≤o∧o≤1000000):PC Tryz.prog 155 [pitP l a o] [] (iv (Pi.halves l a o)) [] :=
 vD (wG Tryz.func155 (by kernel_rfl) (by kernel_rfl)) rfl rfl fun w=>halves_any l a o w ha ho
theorem qgr (l a o:Int) (h:rightB l a o=true):PC Tryz.prog 52 [pitP l a o] [] (iv (Pi.steps l o)) [] :=
 vD (wG Tryz.func52 (by kernel_rfl) (by kernel_rfl)) rfl rfl fun w=>Wx l a o w h
theorem qev (l a o:Int) (h:rightB l a o=true):PC Tryz.prog 53 [pitP l a o] [] (iv (Pi.halves l a o)) [] :=
 vD (wG Tryz.func53 (by kernel_rfl) (by kernel_rfl)) rfl rfl fun w=>qex l a o w h
theorem ref_pat_pc (s h:Int) (h0 : -1000≤s∧s≤1000) (h1 : -100000≤h∧h≤100000):PC Tryz.prog 51 [iv s,iv h] [] (.tup [.agg [iv (s % 7),iv (h-white s),iv (s / 7)],bv (rightB (s % 7) (h-white s) (s / 7))]) [] :=
 vD (wG Tryz.func51 (by kernel_rfl) (by kernel_rfl)) rfl rfl fun w=>ref_at_any s h w h0 h1
set_option maxRecDepth 100000
set_option maxHeartbeats 4000000
theorem move_pc0 (l a o s h:Int) (is:Pi.I64 s) (ih:Pi.I64 h):PC Tryz.prog 134 [(.agg [(iv l),(iv a),(iv o)]),(.agg [(iv s),(iv h)])] [] (M4P (Pi.move l a o s h)) [none]:=by
 refine zI Tryz.func134 rfl (by kernel_rfl) (Nat.le_of_ble_eq_true rfl) (by kernel_rfl) (l0:=[ps 0 (.agg [(iv l),(iv a),(iv o)]),ps 1 (.agg [(iv s),(iv h)])]) rfl (fun c0 Bor hc0=>?_)
 refine qA<|qk qC [] [ps 2 (.opt 0 0),ps 3 (.opt 8 0),ps 4 (.opt 16 0),pb 0 52 [(iv l),(iv a),(iv o)],pb 8 41 [(iv s),(iv h)],pb 16 52 [(iv 0),(iv 0),(iv 0)]] (oz)<|qA<|qA<|ZF qC 1 [ps 2 (.opt 0 0),ps 3 (.opt 8 0),ps 4 (.opt 16 0),ps 9 (bv (!(rightB l a o))),pb 0 52 [(iv l),(iv a),(iv o)],pb 8 41 [(iv s),(iv h)],pb 16 52 [(iv 0),(iv 0),(iv 0)]] (yD 40 (WJ l a o) oz) ?_
 by_cases h1:(rightB l a o)=true
 ·refine qU (congrArg Bool.not h1)<|qF<|qA<|qA<|ZF qC 1 [ps 2 (.opt 0 0),ps 3 (.opt 8 0),ps 4 (.opt 16 0),ps 13 (bv (!(withinB s h))),pb 0 52 [(iv l),(iv a),(iv o)],pb 8 41 [(iv s),(iv h)],pb 16 52 [(iv 0),(iv 0),(iv 0)]] (yD 64 (qfa s h is ih) oz) ?_
  by_cases h2:(withinB s h)=true
  ·refine qU (congrArg Bool.not h2)<|qF<|qA ?_
   have hb:=bounds h1
   have hr:=rightB_iff.1 h1
   have hw:=withinB_iff.1 h2
   have hq:=halves_bd (Pi.steps l o+s) (by omega)
   refine qk qC [] [ps 2 (.opt 0 0),ps 3 (.opt 8 0),ps 4 (.opt 16 0),ps 6 (.opt 80 0),pb 0 52 [(iv l),(iv a),(iv o)],pb 8 41 [(iv s),(iv h)],pb 16 52 [(iv 0),(iv 0),(iv 0)],pb 80 52 [(iv 0),(iv 0),(iv 0)]] (oz)<|qA<|wR qC [(1,.call [] [(.agg [(iv l),(iv a),(iv o)])] [] (iv (Pi.steps l o)) []),(5,.call [] [(iv ((Pi.steps l o)+s)),(iv 7)] [] (.tup [(iv (((Pi.steps l o)+s) / 7)),(iv (((Pi.steps l o)+s) % 7))]) [])] (bfm [[],[(0,1)],[],[(2,1)],[(0,4)],[(0,5)],[(0,6)],[(0,7)],[(0,7)],[(0,8)],[(0,8),(9,1)],[(0,11)],[(0,12)]]) [([32],[1,4]),([34],[32]),([36],[6]),([38],[17,36]),([40],[34,38]),([42],[40]),([30],[42]),([44],[30]),([46],[30]),([48],[12]),([161],[44,48,161]),([50],[12]),([161],[46,50,161])] [ps 2 (.opt 0 0),ps 3 (.opt 8 0),ps 4 (.opt 16 0),ps 6 (.opt 80 0),pb 0 52 [(iv l),(iv a),(iv o)],pb 8 41 [(iv s),(iv h)],pb 16 52 [(iv 0),(iv 0),(iv 0)],pb 80 52 [(iv (((Pi.steps l o)+s) % 7)),(iv 0),(iv (((Pi.steps l o)+s) / 7))]] (yD 96 (psteps_pc l a o h1) (oi ((Pi.steps l o)+s) (by omega) (yD 128 (ZZ ((Pi.steps l o)+s) (by omega) (by omega)) oz)))<|qA<|wR qC [(1,.call [] [(.agg [(iv l),(iv a),(iv o)])] [] (iv (Pi.halves l a o)) []),(6,.call [] [(.agg [(iv (((Pi.steps l o)+s) % 7)),(iv 0),(iv (((Pi.steps l o)+s) / 7))])] [] (iv (Pi.halves (((Pi.steps l o)+s) % 7) 0 (((Pi.steps l o)+s) / 7))) [])] (bfm [[],[(0,1)],[],[(2,1)],[(0,4)],[],[(0,2),(5,1)],[(0,7)],[(0,8)],[(0,9)]]) [([52],[1,4]),([54],[52]),([56],[6]),([58],[17,56]),([60],[54,58]),([62],[12,161]),([64],[62]),([66],[60,64]),([68],[12]),([161],[66,68,161])] [ps 4 (.opt 16 0),ps 6 (.opt 80 0),pb 16 52 [(iv 0),(iv 0),(iv 0)],pb 80 52 [(iv (((Pi.steps l o)+s) % 7)),(iv (((Pi.halves l a o)+h)-(Pi.halves (((Pi.steps l o)+s) % 7) 0 (((Pi.steps l o)+s) / 7)))),(iv (((Pi.steps l o)+s) / 7))]] (yD 200 (qff l a o (by omega) (by omega)) (oi ((Pi.halves l a o)+h) (by omega) (yD 240 (qff (((Pi.steps l o)+s) % 7) 0 (((Pi.steps l o)+s) / 7) (by omega) (by omega)) (oi (((Pi.halves l a o)+h)-(Pi.halves (((Pi.steps l o)+s) % 7) 0 (((Pi.steps l o)+s) / 7))) (by omega) oz))))<|qA<|qA<|ZF qC 1 [ps 4 (.opt 16 0),ps 6 (.opt 80 0),ps 37 (bv (!(rightB (((Pi.steps l o)+s) % 7) (((Pi.halves l a o)+h)-(Pi.halves (((Pi.steps l o)+s) % 7) 0 (((Pi.steps l o)+s) / 7))) (((Pi.steps l o)+s) / 7)))),pb 16 52 [(iv 0),(iv 0),(iv 0)],pb 80 52 [(iv (((Pi.steps l o)+s) % 7)),(iv (((Pi.halves l a o)+h)-(Pi.halves (((Pi.steps l o)+s) % 7) 0 (((Pi.steps l o)+s) / 7)))),(iv (((Pi.steps l o)+s) / 7))]] (yD 280 (WJ (((Pi.steps l o)+s) % 7) (((Pi.halves l a o)+h)-(Pi.halves (((Pi.steps l o)+s) % 7) 0 (((Pi.steps l o)+s) / 7))) (((Pi.steps l o)+s) / 7)) oz) ?_
   by_cases h3:(rightB (((Pi.steps l o)+s) % 7) (((Pi.halves l a o)+h)-(Pi.halves (((Pi.steps l o)+s) % 7) 0 (((Pi.steps l o)+s) / 7))) (((Pi.steps l o)+s) / 7))=true
   ·refine qU (congrArg Bool.not h3)<|qF<|qA<|qk qC [] [ps 4 (.opt 16 0),ps 5 (iv 0),pb 16 52 [(iv (((Pi.steps l o)+s) % 7)),(iv (((Pi.halves l a o)+h)-(Pi.halves (((Pi.steps l o)+s) % 7) 0 (((Pi.steps l o)+s) / 7)))),(iv (((Pi.steps l o)+s) / 7))]] (oz) ?_
    rw [qds h1 h2,at_yes h3]
    exact yA hc0 [4,5] [16]
   refine qR (congrArg Bool.not (Bool.eq_false_iff.2 h3))<|qA<|qk qC [] [ps 4 (.opt 16 0),ps 5 (iv 3),pb 16 52 [(iv 0),(iv 0),(iv 0)]] (oz) ?_
   rw [qds h1 h2,at_no (Bool.eq_false_iff.2 h3)]
   exact yA hc0 [4,5] [16]
  refine qR (congrArg Bool.not (Bool.eq_false_iff.2 h2))<|qA<|qk qC [] [ps 4 (.opt 16 0),ps 5 (iv 3),pb 16 52 [(iv 0),(iv 0),(iv 0)]] (oz) ?_
  rw [move_no2 h1 (Bool.eq_false_iff.2 h2)]
  exact yA hc0 [4,5] [16]
 refine qR (congrArg Bool.not (Bool.eq_false_iff.2 h1))<|qA<|qk qC [] [ps 4 (.opt 16 0),ps 5 (iv 2),pb 16 52 [(iv 0),(iv 0),(iv 0)]] (oz) ?_
 rw [move_no1 (Bool.eq_false_iff.2 h1)]
 exact yA hc0 [4,5] [16]
theorem move_pc (l a o s h:Int) (is:Pi.I64 s) (ih:Pi.I64 h):PC Tryz.prog 134 [(.agg [(iv l),(iv a),(iv o)]),(.agg [(iv s),(iv h)])] [] (M4P (Pi.move l a o s h)) []:=qjm [none] rfl (fun i=>by cases i <;> rfl) (move_pc0 l a o s h is ih)
theorem qjg (l a o s h:Int) (ha:Pi.I64 a):PC Tryz.prog 19 [(.agg [(iv l),(iv a),(iv o)]),(.agg [(iv s),(iv h)])] [] (M4P (Pi.move l a o s h)) [none]:=by
 refine zI Tryz.func19 rfl (by kernel_rfl) (Nat.le_of_ble_eq_true rfl) (by kernel_rfl) (l0:=[ps 0 (.agg [(iv l),(iv a),(iv o)]),ps 1 (.agg [(iv s),(iv h)])]) rfl (fun c0 Bor hc0=>?_)
 refine qA<|qk qC [] [ps 2 (.opt 0 0),ps 3 (.opt 8 0),ps 4 (.opt 16 0),pb 0 52 [(iv l),(iv a),(iv o)],pb 8 41 [(iv s),(iv h)],pb 16 52 [(iv 0),(iv 0),(iv 0)]] (oz)<|qA<|qA<|ZF qC 1 [ps 2 (.opt 0 0),ps 3 (.opt 8 0),ps 4 (.opt 16 0),ps 10 (bv (!(rightB l a o))),pb 0 52 [(iv l),(iv a),(iv o)],pb 8 41 [(iv s),(iv h)],pb 16 52 [(iv 0),(iv 0),(iv 0)]] (yD 40 (ZP l a o ha) oz) ?_
 by_cases h1:(rightB l a o)=true
 ·refine qU (congrArg Bool.not h1)<|qF<|qA<|qA<|ZF qC 1 [ps 2 (.opt 0 0),ps 3 (.opt 8 0),ps 4 (.opt 16 0),ps 14 (bv (!(withinB s h))),pb 0 52 [(iv l),(iv a),(iv o)],pb 8 41 [(iv s),(iv h)],pb 16 52 [(iv 0),(iv 0),(iv 0)]] (yD 64 (VO s h) oz) ?_
  by_cases h2:(withinB s h)=true
  ·refine qU (congrArg Bool.not h2)<|qF<|qA ?_
   have hb:=bounds h1
   have hw:=withinB_iff.1 h2
   refine wR qC [(1,.call [] [(.agg [(iv l),(iv a),(iv o)])] [] (iv (Pi.steps l o)) []),(6,.call [] [(.agg [(iv l),(iv a),(iv o)])] [] (iv (Pi.halves l a o)) []),(10,.call [] [(iv ((Pi.steps l o)+s)),(iv ((Pi.halves l a o)+h))] [] (.tup [(.agg [(iv (((Pi.steps l o)+s) % 7)),(iv (((Pi.halves l a o)+h)-white ((Pi.steps l o)+s))),(iv (((Pi.steps l o)+s) / 7))]),(bv (rightB (((Pi.steps l o)+s) % 7) (((Pi.halves l a o)+h)-white ((Pi.steps l o)+s)) (((Pi.steps l o)+s) / 7)))]) [])] (bfm [[],[(0,1)],[],[(2,1)],[(0,4)],[],[(0,2),(5,1)],[],[(7,1)],[(0,2),(5,4)],[(0,10)],[(0,11)],[(0,12)],[(0,12)],[],[(0,13),(14,1)],[(0,16)]]) [([34],[1,4]),([36],[34]),([38],[6]),([40],[17,38]),([42],[36,40]),([44],[1,4]),([46],[44]),([48],[6]),([50],[17,48]),([52],[46,50]),([54],[42,52]),([32],[54]),([56],[32]),([58],[32]),([12,385],[]),([385],[12,56,385]),([14],[58])] [ps 4 (.opt 16 0),ps 6 (.opt 192 0),ps 7 (bv (rightB (((Pi.steps l o)+s) % 7) (((Pi.halves l a o)+h)-white ((Pi.steps l o)+s)) (((Pi.steps l o)+s) / 7))),pb 16 52 [(iv 0),(iv 0),(iv 0)],pb 192 52 [(iv (((Pi.steps l o)+s) % 7)),(iv (((Pi.halves l a o)+h)-white ((Pi.steps l o)+s))),(iv (((Pi.steps l o)+s) / 7))]] (yD 88 (qgr l a o h1) (oi ((Pi.steps l o)+s) (by omega) (yD 128 (qev l a o h1) (oi ((Pi.halves l a o)+h) (by omega) (yD 160 (ref_pat_pc ((Pi.steps l o)+s) ((Pi.halves l a o)+h) (by omega) (by omega)) oz)))))<|qA<|qA<|qk qC [] [ps 4 (.opt 16 0),ps 6 (.opt 192 0),ps 31 (bv (!(rightB (((Pi.steps l o)+s) % 7) (((Pi.halves l a o)+h)-white ((Pi.steps l o)+s)) (((Pi.steps l o)+s) / 7)))),pb 16 52 [(iv 0),(iv 0),(iv 0)],pb 192 52 [(iv (((Pi.steps l o)+s) % 7)),(iv (((Pi.halves l a o)+h)-white ((Pi.steps l o)+s))),(iv (((Pi.steps l o)+s) / 7))]] (oz) ?_
   by_cases h3:(rightB (((Pi.steps l o)+s) % 7) (((Pi.halves l a o)+h)-white ((Pi.steps l o)+s)) (((Pi.steps l o)+s) / 7))=true
   ·refine qU (congrArg Bool.not h3)<|qF<|qA<|qk qC [] [ps 4 (.opt 16 0),ps 5 (iv 0),pb 16 52 [(iv (((Pi.steps l o)+s) % 7)),(iv (((Pi.halves l a o)+h)-white ((Pi.steps l o)+s))),(iv (((Pi.steps l o)+s) / 7))]] (oz) ?_
    rw [qds h1 h2,at_white,if_pos h3]
    exact yA hc0 [4,5] [16]
   refine qR (congrArg Bool.not (Bool.eq_false_iff.2 h3))<|qA<|qk qC [] [ps 4 (.opt 16 0),ps 5 (iv 3),pb 16 52 [(iv 0),(iv 0),(iv 0)]] (oz) ?_
   rw [qds h1 h2,at_white,if_neg h3]
   exact yA hc0 [4,5] [16]
  refine qR (congrArg Bool.not (Bool.eq_false_iff.2 h2))<|qA<|qk qC [] [ps 4 (.opt 16 0),ps 5 (iv 3),pb 16 52 [(iv 0),(iv 0),(iv 0)]] (oz) ?_
  rw [move_no2 h1 (Bool.eq_false_iff.2 h2)]
  exact yA hc0 [4,5] [16]
 refine qR (congrArg Bool.not (Bool.eq_false_iff.2 h1))<|qA<|qk qC [] [ps 4 (.opt 16 0),ps 5 (iv 2),pb 16 52 [(iv 0),(iv 0),(iv 0)]] (oz) ?_
 rw [move_no1 (Bool.eq_false_iff.2 h1)]
 exact yA hc0 [4,5] [16]
theorem ref_move_pc (l a o s h:Int) (ha:Pi.I64 a):PC Tryz.prog 19 [(.agg [(iv l),(iv a),(iv o)]),(.agg [(iv s),(iv h)])] [] (M4P (Pi.move l a o s h)) []:=qjm [none] rfl (fun i=>by cases i <;> rfl) (qjg l a o s h ha)
end Go.Proofs.YtmlnilkbolcknaaGreatDoor.Pm
namespace Go.Proofs.YtmlnilkbolcknaaGreatDoor.Pm
open Go
inductive O where
 | ret (r:PV) (H':Hp)
 | pan (v:Value) (H':Hp)
def O.H:O→Hp
 | .ret _ H'=>H'
 | .pan _ H'=>H'
/-! ### an operation that panics -/
/-! ### a region in which one panics -/
section
end

/-! ### such a region reckoned -/
/-! ### in a walk -/
section
end
theorem pc_trimS {P:Program} {f:FuncId} {args rs:List PV} (H':Hp) (hr:jW rs) (_hd:∀ i,H'.getD i none=none) (h:PC P f args [] (.agg rs) H'):PC P f args [] (.agg rs) []:=by
 obtain ⟨h1,_,h2⟩:=h
 refine ⟨h1,Nat.le_refl _,fun c vs hh hrl=>(h2 c vs hh hrl).mono ?_⟩
 rintro e w' ⟨u,c',rfl,rfl,h3,h4⟩
 have hno:∀ (H:Hp),(∀ i,H.getD i none=none)→∀ i,¬ vC (WZ H) i:=fun H hH i ⟨T,cs,hx⟩=>by rw [ZB,hH] at hx;cases hx
 have hno0:=hno [] (fun i=>by simp)
 have hown:∀ i x,c.own i=some x→False:=fun i x hx=>by have:i<0:=hh.ids i x hx;omega
 have hk:=h3.keep
 refine ⟨u,⟨c'.w,c'.S,fun _=>none⟩,rfl,rfl,{ ids:=fun i x hx=>(by cases hx),blk:=fun i T cs hx=>absurd ⟨T,cs,hx⟩ (hno0 i),inj:=fun i j b T T' l1=>absurd l1 (hno0 i),apart:=fun i b T l1=>absurd l1 (hno0 i),bnd:=fun i b T hx=>(by cases hx),sok:=h3.sok,os:=h3.os,tape:=h3.tape,output:=h3.output,size:=h3.size,same:=h3.same,laid:=h3.laid,s0:=h3.s0,s1:=h3.s1,keep:=⟨hk.S,fun i x hx=>(hown i x hx).elim,hk.shape⟩ },?_⟩
 obtain ⟨us,rfl,q1,q2⟩:=ZJ h4
 have hsr:∀ i,i<rs.length→SRep c'.w c'.S (rs.getD i P0) (us.getD i undef):=fun i hi=>qiv (q2 i hi) (hr _ (by
  rw [List.getD_eq_getElem?_getD,List.getElem?_eq_getElem hi]
  exact List.getElem_mem hi))
 exact .sh (.agg q1 hsr)
open Go.Lib
theorem qej {P:Program} {W:World} {name:String} {k:IntKind} {zs:List Int} {g:Nat} {t e:TypeId} {n:Nat}
  (hg:P.globalNamed name=some g) (hty:(P.globals[g]?).map (·.type)=some t) (ht:P.underlying t=some (.array n e)) (he:P.underlying e=some (.int k)) (hce:P.cellsOf e=1) (hct:P.cellsOf t=n)
  (h:VarReads P W name (tabData k zs)):TabIs P W name k zs:=by
 obtain ⟨g',t',cs,fuel,p,hg',ht',hvar,hd⟩:=h
 obtain rfl:=Option.some.inj (hg.symm.trans hg')
 obtain rfl:=Option.some.inj (hty.symm.trans ht')
 unfold TabIs
 rw [hvar,← cells_of_tab ht he hce hct hd]
theorem Zx {w:World} {b o:Nat} {v:Value} (h:w.cell? ⟨b,o,none⟩=some v):b<w.heap.size:=by
 by_cases hb:b<w.heap.size
 ·exact hb
 ·unfold World.cell? at h
  rw [Array.getElem?_eq_none (show w.heap.size≤b from by omega)] at h
  cases h
theorem laid_of {W:World} (hL:laidMet Tryz.prog Rows.scoreNotesRow.laid W):Laid W (fun b=>b<W.heap.size):=by
 have hT : TabIs Tryz.prog W "internal/strconv.uint64pow10" .u64 pow10Tab :=
  qej (g:=0) (t:=197) (e:=178) (n:=20) (by kernel_rfl) (by kernel_rfl) Tryz.underlying197 Tryz.underlying178 (by kernel_rfl) (by kernel_rfl)
   ((show Rows.laid_internal_strconv_uint64pow10=tabData .u64 pow10Tab from by kernel_rfl)▸laidMet.reads hL (.tail _ (.tail _ (.head _))))
 have hU:Utf8Tabs 1 2 W :=
  utf8Tabs_of_readsT (ρ:=Tryz.lays197_ren) { Tryz.lays197 with } ⟨by kernel_rfl,by kernel_rfl,by kernel_rfl,by kernel_rfl,by kernel_rfl,by kernel_rfl,by kernel_rfl⟩
   ((show Rows.laid_unicode_utf8_first=firstData from Pinned.utf8First_eq)▸laidMet.reads hL (.tail _ (.tail _ (.tail _ (.tail _ (.head _)))))) ((show Rows.laid_unicode_utf8_acceptRanges=acceptData from by kernel_rfl)▸laidMet.reads hL (.tail _ (.tail _ (.tail _ (.head _)))))
 have z1:=Zx (hU.1 0 (by decide))
 have z2:=Zx (hU.2 0 (by decide)).1
 have z3:=Zx (hT.cell (g:=0) (by kernel_rfl) 0 (by decide))
 refine ⟨fun b hb=>?_,hT,hU⟩
 simp only [LB,List.mem_cons,List.not_mem_nil,or_false] at hb
 rcases hb with rfl|rfl|rfl
 ·exact z1
 ·exact z2
 ·exact z3
end Go.Proofs.YtmlnilkbolcknaaGreatDoor.Pm
namespace Go.Proofs.YtmlnilkbolcknaaGreatDoor
open Go.ChangeShapes Go.WideShapes Go.ChangeAt Go.RowKit
theorem Tryz.own:ownKnob Tryz.prog.godebug=none:=by kernel_rfl
theorem Tryz.laidOut:laidOutB Tryz.prog=true:=by kernel_rfl

section
variable {H:Type} {enc:TypeId × Value→H} {P:Program}
theorem Wv (hl:laidOutB P=true) {W W':World} {sp:Nat→Bool} (hb:Below W.heap.size W W') :
  ∀ {ts:List TypeId} {vs:List Value} {ds:List (DataW H)} {ps:List MemPlace},(ts.all fun t=>P.readableRec t && decide (t<P.types.size))=true →
   DataW.TrodAll enc P W 0 (fun _=>true) true ts vs ds ps→(∀ x∈ps,x.block<W.heap.size)→(∀ x∈ps,sp x.block=true)→DataW.TrodAll enc P W' 0 sp true ts vs ds ps
 | [],_,_,_,_,h,_,_=>by obtain ⟨rfl,rfl,rfl⟩:=trodAll_nil h;exact trodAll_mk0
 | t :: ts,_,_,_,hr,h,hlt,hsp=>by
  obtain ⟨v,vs,d,ds,p,q,rfl,rfl,rfl,h0,h1⟩:=trodAll_cons h
  simp only [List.all_cons,Bool.and_eq_true,decide_eq_true_eq] at hr
  exact trodAll_cons_mk (WideElems.Trod_stays hl hr.1.1 hr.1.2 h0 (fun x hx=>hb.same (hlt x (by simp [hx]))) (fun x hx=>hsp x (by simp [hx])))
   (Wv hl hb hr.2 h1 (fun x hx=>hlt x (by simp [hx])) (fun x hx=>hsp x (by simp [hx])))

theorem law_post {f:Func} {s:ChangeSpec} {apart fresh handsOn again:Bool} {W W':World} {args:Array Value} {ds:List (DataW H)} {before:List MemPlace} {tb:TypeId}
  (hW:DataW.Whole enc P f.params.toList s.vars apart W args.toList ds [] before) (hl:laidOutB P=true)
  (hv:s.vars=[]) (hr:(f.params.toList.all fun t=>P.readableRec t && decide (t<P.types.size))=true) (hrt:f.resultTypes = #[tb]) (htb:P.underlying tb=some .bool)
  (hs:s.fn H (ds++[])={ results:=[.lit (.bool true)],args:=ds }) (hb:Below W.heap.size W W') :
  s.post enc P f apart fresh handsOn again W args (.bool true) W':=by
 have hlt:∀ p∈before,p.block<W.heap.size:=fun p hp=>hW.lt p hp
 have hold:∀ p∈before,(fun b=>decide (b<W.heap.size)) p.block=true:=fun p hp=>by simpa using hlt p hp
 have hW0:=hW
 obtain ⟨p,q,hA,hV,hpq,hz,hn⟩:=hW
 have hq:q=[]:=by rw [hv] at hV;exact (trodVars_none hV).2
 have hpq':before=p:=by rw [hpq,hq,List.append_nil]
 subst hpq'
 have hargs:∀ sp:Nat→Bool,(∀ x∈before,sp x.block=true)→DataW.TrodAll enc P W' 0 sp true f.params.toList args.toList (s.fn H (ds++[])).args before:=fun sp hsp=>by
  rw [hs];exact Wv hl hb hr hA hlt hsp
 have hvars:∀ sp:Nat→Bool,DataW.TrodVars enc P W' sp s.vars (s.fn H (ds++[])).vars []:=fun sp=>by rw [hs,hv];rfl
 have hres:∀ (b:Nat) (sp:Nat→Bool) (hd:Bool),DataW.TrodAll enc P W' b sp hd f.resultTypes.toList (Value.resultList f.resultTypes.size (.bool true)) (s.fn H (ds++[])).results []:=fun b sp hd=>by
  rw [hrt,hs];exact trodAll_mk1 (shut_bool htb true)
 have hok:∀ (j:Nat) (t:TypeId) (r:Value),f.resultTypes[j]? = some t→(Value.resultList f.resultTypes.size (.bool true))[j]? = some r→Value.okWide P W' .any 0 t r:=by
  exact ok_one (t:=tb) hrt rfl (okWide_bool_mk htb true)
 refine ⟨ds,[],before,[],before,[],hW0,hres _ _ _,hargs _ hold,hvars _,World.keptBut_mono (fun p hp=>⟨hp,?_⟩) (hb.frame (· ∈ before)),fun _=>?_⟩
 ·exact Or.inr (Or.inl hp)
 ·refine ⟨hok,_,_,([]++before)++[],⟨[]++before,[],trodAll_append (hargs _ (fun _ _=>rfl)) (hres _ _ _),hvars _,rfl,?_,?_⟩,?_⟩
  ·intro b off hp
   have hin:MemPlace.cell b off∈before:=by simpa using hp
   rw [hb.frozen (hlt _ hin)]
   exact hz b off hin
  ·intro ha
   have:=hn ha
   simpa using this
  ·intro p hp _
   simpa using hp
end
end Go.Proofs.YtmlnilkbolcknaaGreatDoor
namespace Go.Proofs.YtmlnilkbolcknaaGreatDoor.Pm
open Go Go.Deep Go.ChangeShapes Go.WideShapes Go.ChangeAt Go.RowKit
theorem cells_from {w:World} {a:Addr} {n:Nat} {f:Nat→Value} (h:∀ c,c<n→w.cell? (a.add c)=some (f c)) (hn:0<n):∃ b o,a=⟨b,o,none⟩∧b<w.heap.size∧∀ c,c<n→w.cell? ⟨b,o+c,none⟩=some (f c):=by
 obtain ⟨b,o,s⟩:=a
 have h0:=h 0 hn
 have hs:s=none:=by
  simp only [Addr.add,if_true,World.cell?] at h0
  cases s with
  | none=>rfl
  | some s =>
   exfalso
   split at h0
   ·simp at h0
   ·cases h0
 subst hs
 refine ⟨b,o,rfl,?_,fun c hc=>?_⟩
 ·simp only [Addr.add,if_true,World.cell?] at h0
  rcases Nat.lt_or_ge b w.heap.size with hb|hb
  ·exact hb
  ·rw [Array.getElem?_eq_none hb] at h0;cases h0
 ·rw [← h c hc]
  unfold Addr.add
  by_cases e:c=0
  ·subst e;rfl
  ·rw [if_neg e]
theorem YV {H:Type} {P:Program} {e:TypeId}:∀ {l:List (DataW H)} {d:DataW H},d∈l→∀ n∈d.weights P e,n∈DataW.weightsAll P e l
 | d' :: r,d,hd,n,hn=>by
  simp only [DataW.weightsAll,List.mem_append]
  rcases List.mem_cons.1 hd with rfl|h
  ·exact Or.inl hn
  ·exact Or.inr (YV h n hn)
open Go.Proofs.YtmlnilkbolcknaaGreatDoor.Pi
end Go.Proofs.YtmlnilkbolcknaaGreatDoor.Pm
namespace Go.Proofs.YtmlnilkbolcknaaGreatDoor.Pm
open Go Go.Proofs.YtmlnilkbolcknaaGreatDoor.Pi
theorem qone_pc (t:qQ) (h:t.length≤9223372036854775807):PC Tryz.prog 143 [sv (st t)] [] (bv (Yx (st t))) [] :=
 vD (wG Tryz.func143 (by kernel_rfl) (by kernel_rfl)) rfl rfl fun w=>one_walk (st t) h w
end Go.Proofs.YtmlnilkbolcknaaGreatDoor.Pm
set_option maxRecDepth 100000
set_option maxHeartbeats 4000000
namespace Go.Proofs.YtmlnilkbolcknaaGreatDoor.Pm
open Go Go.Proofs.YtmlnilkbolcknaaGreatDoor.Pi
theorem white_pc (n:Int) (h0 : -1000≤n) (h1:n≤1000):PC Tryz.prog 81 [iv n] [] (iv (white n)) [] :=
 vD (wG Tryz.func81 (by kernel_rfl) (by kernel_rfl)) rfl rfl fun w=>(qcf n w h0 h1).mono fun _ w' ⟨e1,e2⟩=>⟨e1,e2▸RowKit.Below.refl _ _⟩
theorem qdn (n:Int) (h0 : -9223372036854775807≤n) (h1:n≤9223372036854775807) (ih:∀ m:Int,0≤m→m≤9223372036854775807→(n<0∨m<n)→PC Tryz.prog 33 [iv m] [] (sv (st (Lib.itoa m))) []):PC Tryz.prog 33 [(iv n)] [] (sv (st (Lib.itoa n))) []:=by
 refine zI Tryz.func33 rfl (by kernel_rfl) (Nat.le_of_ble_eq_true rfl) (by kernel_rfl) (l0:=[ps 0 (iv n)]) rfl (fun c0 Bor hc0=>?_)
 refine qA<|qL qC [.r] []<|qA<|qA<|qL qC [.k1,.n] [ps 4 (bv (decide (n<0)))] ?_
 by_cases h1:n<0
 ·refine qR (zP h1)<|qA ?_
  have hl1:=Lib.itoa_length_le (0-n) (by omega) (by omega)
  refine qk qC [(2,.call [] [(iv (0-n))] [] (sv (st (Lib.itoa (0-n)))) []),(3,.val (.av (.string (st (([45]:TX)++(Lib.itoa (0-n)))))))] [ps 2 (sv (st (([45]:TX)++(Lib.itoa (0-n)))))] (oi (0-n) (by omega) (yD 40 (ih (0-n) (by omega) (by omega) (.inl (by omega))) (oc (by first|omega|(simp only [List.length_append,List.length_cons,List.length_nil];omega):((([45]:TX).length+(Lib.itoa (0-n)).length:Nat):Int)≤9223372036854775807) (oc (qK _ _:st ([45]:TX)++st (Lib.itoa (0-n))=st (([45]:TX)++(Lib.itoa (0-n)))) oz)))) ?_
  rw [← itoa_min h1]
  exact yA hc0 [2] []
 refine qU (zN h1)<|qF<|qA<|qA<|qk qC [] [ps 0 (iv n),ps 10 (bv (decide (n<10)))] (oz) ?_
 by_cases h2:n<10
 ·refine qR (zP h2)<|qA<|qk qC [(4,.val (.av (.string (st [UInt8.ofNat (48+n).toNat]))))] [ps 2 (sv (st [UInt8.ofNat (48+n).toNat]))] (oi (48+n) (by omega) (oc (by simp only [InK];omega:InK .u8 (48+n)) (oc (⟨Nat.le_refl 1,Nat.le_refl 1,bytes_one (by omega) (by omega)⟩:0<1∧0+1≤([(.av (.int .u8 (48+n)))]:List PV).length∧(([(.av (.int .u8 (48+n)))]:List PV).drop 0).take 1=ZN (st [UInt8.ofNat (48+n).toNat])) oz))) ?_
  rw [itoa_dig (by omega) h2]
  exact yA hc0 [2] []
 refine qU (zN h2)<|qF<|qA ?_
 have hq:=quo_bd h2
 have hl1:=Lib.itoa_length_le (n.tdiv 10) (by omega) (by omega)
 have hl2:=Lib.itoa_length_le (n.tmod 10) (by omega) (by omega)
 refine qk qC [(2,.call [] [(iv ((n).tdiv 10))] [] (sv (st (Lib.itoa ((n).tdiv 10)))) []),(5,.call [] [(iv ((n).tmod 10))] [] (sv (st (Lib.itoa ((n).tmod 10)))) []),(6,.val (.av (.string (st ((Lib.itoa ((n).tdiv 10))++(Lib.itoa ((n).tmod 10)))))))] [ps 2 (sv (st ((Lib.itoa ((n).tdiv 10))++(Lib.itoa ((n).tmod 10)))))] (oc (by decide:10≠(0:Int)) (oi ((n).tdiv 10) (by omega) (yD 56 (ih ((n).tdiv 10) (by omega) (by omega) (.inr (by omega))) (oc (by decide:10≠(0:Int)) (yD 80 (ih ((n).tmod 10) (by omega) (by omega) (.inr (by omega))) (oc (by first|omega|(simp <;> omega):(((Lib.itoa ((n).tdiv 10)).length+(Lib.itoa ((n).tmod 10)).length:Nat):Int)≤9223372036854775807) (oc (qK _ _:st (Lib.itoa ((n).tdiv 10))++st (Lib.itoa ((n).tmod 10))=st ((Lib.itoa ((n).tdiv 10))++(Lib.itoa ((n).tmod 10)))) oz))))))) ?_
 rw [← itoa_app h2]
 exact yA hc0 [2] []
theorem qgb:∀ (u:Nat),∀ n:Int,0≤n→n≤9223372036854775807→n.toNat<u→PC Tryz.prog 33 [iv n] [] (sv (st (Lib.itoa n))) []
 | 0,n,_,_,h=>by omega
 | u+1,n,h0,h1,h=>qdn n (by omega) h1 fun m a b c=>qgb u m a b (by omega)
theorem vV (n:Int) (h0 : -9223372036854775807≤n) (h1:n≤9223372036854775807):PC Tryz.prog 33 [iv n] [] (sv (st (Lib.itoa n))) [] :=
 qdn n h0 h1 fun m a b _=>qgb (m.toNat+1) m a b (by omega)
theorem jv (k:Nat) (hk:k<7):PC Tryz.prog 96 [(nv k)] [] (sv (st ((letB.drop k).take 1))) []:=by
 refine zI Tryz.func96 rfl (by kernel_rfl) (Nat.le_of_ble_eq_true rfl) (by kernel_rfl) (l0:=[ps 0 (nv k)]) rfl (fun c0 Bor hc0=>?_)
 refine qA<|qL qC [.r] []<|qA ?_
 by_cases h1:k=0
 ·refine qk qC [(2,.nat 0)] [ps 2 (sv (st ([67]:TX)))] (oc (by omega:(0:Int)≤(k:Int)∧(k:Int)<((7:Nat):Int)) (oc (by omega:0+(((k:Nat):Int):Int).toNat*1=0) oz)) ?_
  rw [show (letB.drop k).take 1=_ from congrArg (fun z=>(letB.drop z).take 1) h1]
  exact yA hc0 [2] []
 by_cases h2:k=1
 ·refine qk qC [(2,.nat 1)] [ps 2 (sv (st ([68]:TX)))] (oc (by omega:(0:Int)≤(k:Int)∧(k:Int)<((7:Nat):Int)) (oc (by omega:0+(((k:Nat):Int):Int).toNat*1=1) oz)) ?_
  rw [show (letB.drop k).take 1=_ from congrArg (fun z=>(letB.drop z).take 1) h2]
  exact yA hc0 [2] []
 by_cases h3:k=2
 ·refine qk qC [(2,.nat 2)] [ps 2 (sv (st ([69]:TX)))] (oc (by omega:(0:Int)≤(k:Int)∧(k:Int)<((7:Nat):Int)) (oc (by omega:0+(((k:Nat):Int):Int).toNat*1=2) oz)) ?_
  rw [show (letB.drop k).take 1=_ from congrArg (fun z=>(letB.drop z).take 1) h3]
  exact yA hc0 [2] []
 by_cases h4:k=3
 ·refine qk qC [(2,.nat 3)] [ps 2 (sv (st ([70]:TX)))] (oc (by omega:(0:Int)≤(k:Int)∧(k:Int)<((7:Nat):Int)) (oc (by omega:0+(((k:Nat):Int):Int).toNat*1=3) oz)) ?_
  rw [show (letB.drop k).take 1=_ from congrArg (fun z=>(letB.drop z).take 1) h4]
  exact yA hc0 [2] []
 by_cases h5:k=4
 ·refine qk qC [(2,.nat 4)] [ps 2 (sv (st ([71]:TX)))] (oc (by omega:(0:Int)≤(k:Int)∧(k:Int)<((7:Nat):Int)) (oc (by omega:0+(((k:Nat):Int):Int).toNat*1=4) oz)) ?_
  rw [show (letB.drop k).take 1=_ from congrArg (fun z=>(letB.drop z).take 1) h5]
  exact yA hc0 [2] []
 by_cases h6:k=5
 ·refine qk qC [(2,.nat 5)] [ps 2 (sv (st ([65]:TX)))] (oc (by omega:(0:Int)≤(k:Int)∧(k:Int)<((7:Nat):Int)) (oc (by omega:0+(((k:Nat):Int):Int).toNat*1=5) oz)) ?_
  rw [show (letB.drop k).take 1=_ from congrArg (fun z=>(letB.drop z).take 1) h6]
  exact yA hc0 [2] []
 by_cases h7:k=6
 ·refine qk qC [(2,.nat 6)] [ps 2 (sv (st ([66]:TX)))] (oc (by omega:(0:Int)≤(k:Int)∧(k:Int)<((7:Nat):Int)) (oc (by omega:0+(((k:Nat):Int):Int).toNat*1=6) oz)) ?_
  rw [show (letB.drop k).take 1=_ from congrArg (fun z=>(letB.drop z).take 1) h7]
  exact yA hc0 [2] []
 ·exfalso;omega
theorem qjc (l a o:Int) (ia:Pi.I64 a):PC Tryz.prog 63 [(.agg [(iv l),(iv a),(iv o)])] [] (.tup [(sv (st ((vv l a o).1))),(iv ((vv l a o).2))]) []:=by
 unfold Pi.I64 at ia
 refine zI Tryz.func63 rfl (by kernel_rfl) (Nat.le_of_ble_eq_true rfl) (by kernel_rfl) (l0:=[ps 0 (.agg [(iv l),(iv a),(iv o)])]) rfl (fun c0 Bor hc0=>?_)
 refine qA<|qk qC [] [ps 1 (.opt 0 0),pb 0 52 [(iv l),(iv a),(iv o)]] (oz)<|qA<|qA<|vK qC 1 [.k1,.n,.r] [ps 6 (bv (!(Pi.rightB l a o)))] (yD 32 (ZP l a o (by unfold Pi.I64;omega)) oz) ?_
 by_cases h1:(Pi.rightB l a o)=true
 ·refine qU (congrArg Bool.not h1)<|qF<|qA ?_
  have hr:=Pi.rightB_iff.1 h1
  have hl1:=qaq l
  have hl2:=jE (o:=o) (by omega) (by omega)
  by_cases h2:a+3=0
  ·refine wR qC [(2,.call [] [(nv l.toNat)] [] (sv (st ((letB.drop l.toNat).take 1))) []),(7,.nat 0),(9,.val (.av (.string (st (((letB.drop l.toNat).take 1)++([240,157,132,171,226,153,173]:TX)))))),(12,.call [] [(iv o)] [] (sv (st (Lib.itoa o))) []),(13,.val (.av (.string (st ((((letB.drop l.toNat).take 1)++([240,157,132,171,226,153,173]:TX))++(Lib.itoa o))))))] (bfm [[],[(0,1)],[(0,2)],[],[],[(4,1)],[(4,2)],[(3,4)],[(3,5)],[(0,9)],[],[(10,1)],[(0,3),(10,2)],[(0,13)],[(0,14)],[(0,15)]]) [([14],[2]),([16],[1,14]),([18],[16]),([20,145],[]),([22],[2]),([24],[1,22]),([26],[24]),([28],[20,26]),([30],[28,145]),([32],[18,30]),([34],[2]),([36],[1,34]),([38],[36]),([40],[32,38]),([4],[40]),([6],[])] [ps 2 (sv (st ((((letB.drop l.toNat).take 1)++([240,157,132,171,226,153,173]:TX))++(Lib.itoa o)))),ps 3 (iv 0)] (oc (jv l.toNat (by omega)) (oc (congrArg (fun z=>[iv z]) (show l=(l.toNat:Int) from by omega):[(iv l)]=qN (qZ [] 64) [(nv l.toNat)]) (oi (a+3) (by omega) (oc (by omega:(0:Int)≤(a+3)∧(a+3)<((7:Nat):Int)) (oc (by omega:0+((a+3):Int).toNat*1=0) (oc (by first|omega|(simp <;> omega):((((letB.drop l.toNat).take 1).length+([240,157,132,171,226,153,173]:TX).length:Nat):Int)≤9223372036854775807) (oc (qK _ _:st ((letB.drop l.toNat).take 1)++st ([240,157,132,171,226,153,173]:TX)=st (((letB.drop l.toNat).take 1)++([240,157,132,171,226,153,173]:TX))) (yD 144 (vV o (by omega) (by omega)) (oc (by first|omega|(simp <;> omega):(((((letB.drop l.toNat).take 1)++([240,157,132,171,226,153,173]:TX)).length+(Lib.itoa o).length:Nat):Int)≤9223372036854775807) (oc (qK _ _:st (((letB.drop l.toNat).take 1)++([240,157,132,171,226,153,173]:TX))++st (Lib.itoa o)=st ((((letB.drop l.toNat).take 1)++([240,157,132,171,226,153,173]:TX))++(Lib.itoa o))) oz)))))))))) ?_
   rw [vM (l:=l) (a:=a) (o:=o) (S:=[240,157,132,171,226,153,173]) h1 (by rw [show a = -3 from by omega];rfl)]
   exact yA hc0 [2,3] []
  by_cases h3:a+3=1
  ·refine wR qC [(2,.call [] [(nv l.toNat)] [] (sv (st ((letB.drop l.toNat).take 1))) []),(7,.nat 1),(9,.val (.av (.string (st (((letB.drop l.toNat).take 1)++([240,157,132,171]:TX)))))),(12,.call [] [(iv o)] [] (sv (st (Lib.itoa o))) []),(13,.val (.av (.string (st ((((letB.drop l.toNat).take 1)++([240,157,132,171]:TX))++(Lib.itoa o))))))] (bfm [[],[(0,1)],[(0,2)],[],[],[(4,1)],[(4,2)],[(3,4)],[(3,5)],[(0,9)],[],[(10,1)],[(0,3),(10,2)],[(0,13)],[(0,14)],[(0,15)]]) [([14],[2]),([16],[1,14]),([18],[16]),([20,145],[]),([22],[2]),([24],[1,22]),([26],[24]),([28],[20,26]),([30],[28,145]),([32],[18,30]),([34],[2]),([36],[1,34]),([38],[36]),([40],[32,38]),([4],[40]),([6],[])] [ps 2 (sv (st ((((letB.drop l.toNat).take 1)++([240,157,132,171]:TX))++(Lib.itoa o)))),ps 3 (iv 0)] (oc (jv l.toNat (by omega)) (oc (congrArg (fun z=>[iv z]) (show l=(l.toNat:Int) from by omega):[(iv l)]=qN (qZ [] 64) [(nv l.toNat)]) (oi (a+3) (by omega) (oc (by omega:(0:Int)≤(a+3)∧(a+3)<((7:Nat):Int)) (oc (by omega:0+((a+3):Int).toNat*1=1) (oc (by first|omega|(simp <;> omega):((((letB.drop l.toNat).take 1).length+([240,157,132,171]:TX).length:Nat):Int)≤9223372036854775807) (oc (qK _ _:st ((letB.drop l.toNat).take 1)++st ([240,157,132,171]:TX)=st (((letB.drop l.toNat).take 1)++([240,157,132,171]:TX))) (yD 144 (vV o (by omega) (by omega)) (oc (by first|omega|(simp <;> omega):(((((letB.drop l.toNat).take 1)++([240,157,132,171]:TX)).length+(Lib.itoa o).length:Nat):Int)≤9223372036854775807) (oc (qK _ _:st (((letB.drop l.toNat).take 1)++([240,157,132,171]:TX))++st (Lib.itoa o)=st ((((letB.drop l.toNat).take 1)++([240,157,132,171]:TX))++(Lib.itoa o))) oz)))))))))) ?_
   rw [vM (l:=l) (a:=a) (o:=o) (S:=[240,157,132,171]) h1 (by rw [show a = -2 from by omega];rfl)]
   exact yA hc0 [2,3] []
  by_cases h4:a+3=2
  ·refine wR qC [(2,.call [] [(nv l.toNat)] [] (sv (st ((letB.drop l.toNat).take 1))) []),(7,.nat 2),(9,.val (.av (.string (st (((letB.drop l.toNat).take 1)++([226,153,173]:TX)))))),(12,.call [] [(iv o)] [] (sv (st (Lib.itoa o))) []),(13,.val (.av (.string (st ((((letB.drop l.toNat).take 1)++([226,153,173]:TX))++(Lib.itoa o))))))] (bfm [[],[(0,1)],[(0,2)],[],[],[(4,1)],[(4,2)],[(3,4)],[(3,5)],[(0,9)],[],[(10,1)],[(0,3),(10,2)],[(0,13)],[(0,14)],[(0,15)]]) [([14],[2]),([16],[1,14]),([18],[16]),([20,145],[]),([22],[2]),([24],[1,22]),([26],[24]),([28],[20,26]),([30],[28,145]),([32],[18,30]),([34],[2]),([36],[1,34]),([38],[36]),([40],[32,38]),([4],[40]),([6],[])] [ps 2 (sv (st ((((letB.drop l.toNat).take 1)++([226,153,173]:TX))++(Lib.itoa o)))),ps 3 (iv 0)] (oc (jv l.toNat (by omega)) (oc (congrArg (fun z=>[iv z]) (show l=(l.toNat:Int) from by omega):[(iv l)]=qN (qZ [] 64) [(nv l.toNat)]) (oi (a+3) (by omega) (oc (by omega:(0:Int)≤(a+3)∧(a+3)<((7:Nat):Int)) (oc (by omega:0+((a+3):Int).toNat*1=2) (oc (by first|omega|(simp <;> omega):((((letB.drop l.toNat).take 1).length+([226,153,173]:TX).length:Nat):Int)≤9223372036854775807) (oc (qK _ _:st ((letB.drop l.toNat).take 1)++st ([226,153,173]:TX)=st (((letB.drop l.toNat).take 1)++([226,153,173]:TX))) (yD 144 (vV o (by omega) (by omega)) (oc (by first|omega|(simp <;> omega):(((((letB.drop l.toNat).take 1)++([226,153,173]:TX)).length+(Lib.itoa o).length:Nat):Int)≤9223372036854775807) (oc (qK _ _:st (((letB.drop l.toNat).take 1)++([226,153,173]:TX))++st (Lib.itoa o)=st ((((letB.drop l.toNat).take 1)++([226,153,173]:TX))++(Lib.itoa o))) oz)))))))))) ?_
   rw [vM (l:=l) (a:=a) (o:=o) (S:=[226,153,173]) h1 (by rw [show a = -1 from by omega];rfl)]
   exact yA hc0 [2,3] []
  by_cases h5:a+3=3
  ·refine wR qC [(2,.call [] [(nv l.toNat)] [] (sv (st ((letB.drop l.toNat).take 1))) []),(7,.nat 3),(9,.val (.av (.string (st (((letB.drop l.toNat).take 1)++([]:TX)))))),(12,.call [] [(iv o)] [] (sv (st (Lib.itoa o))) []),(13,.val (.av (.string (st ((((letB.drop l.toNat).take 1)++([]:TX))++(Lib.itoa o))))))] (bfm [[],[(0,1)],[(0,2)],[],[],[(4,1)],[(4,2)],[(3,4)],[(3,5)],[(0,9)],[],[(10,1)],[(0,3),(10,2)],[(0,13)],[(0,14)],[(0,15)]]) [([14],[2]),([16],[1,14]),([18],[16]),([20,145],[]),([22],[2]),([24],[1,22]),([26],[24]),([28],[20,26]),([30],[28,145]),([32],[18,30]),([34],[2]),([36],[1,34]),([38],[36]),([40],[32,38]),([4],[40]),([6],[])] [ps 2 (sv (st ((((letB.drop l.toNat).take 1)++([]:TX))++(Lib.itoa o)))),ps 3 (iv 0)] (oc (jv l.toNat (by omega)) (oc (congrArg (fun z=>[iv z]) (show l=(l.toNat:Int) from by omega):[(iv l)]=qN (qZ [] 64) [(nv l.toNat)]) (oi (a+3) (by omega) (oc (by omega:(0:Int)≤(a+3)∧(a+3)<((7:Nat):Int)) (oc (by omega:0+((a+3):Int).toNat*1=3) (oc (by first|omega|(simp <;> omega):((((letB.drop l.toNat).take 1).length+([]:TX).length:Nat):Int)≤9223372036854775807) (oc (qK _ _:st ((letB.drop l.toNat).take 1)++st ([]:TX)=st (((letB.drop l.toNat).take 1)++([]:TX))) (yD 144 (vV o (by omega) (by omega)) (oc (by first|omega|(simp <;> omega):(((((letB.drop l.toNat).take 1)++([]:TX)).length+(Lib.itoa o).length:Nat):Int)≤9223372036854775807) (oc (qK _ _:st (((letB.drop l.toNat).take 1)++([]:TX))++st (Lib.itoa o)=st ((((letB.drop l.toNat).take 1)++([]:TX))++(Lib.itoa o))) oz)))))))))) ?_
   rw [vM (l:=l) (a:=a) (o:=o) (S:=[]) h1 (by rw [show a=0 from by omega];rfl)]
   exact yA hc0 [2,3] []
  by_cases h6:a+3=4
  ·refine wR qC [(2,.call [] [(nv l.toNat)] [] (sv (st ((letB.drop l.toNat).take 1))) []),(7,.nat 4),(9,.val (.av (.string (st (((letB.drop l.toNat).take 1)++([226,153,175]:TX)))))),(12,.call [] [(iv o)] [] (sv (st (Lib.itoa o))) []),(13,.val (.av (.string (st ((((letB.drop l.toNat).take 1)++([226,153,175]:TX))++(Lib.itoa o))))))] (bfm [[],[(0,1)],[(0,2)],[],[],[(4,1)],[(4,2)],[(3,4)],[(3,5)],[(0,9)],[],[(10,1)],[(0,3),(10,2)],[(0,13)],[(0,14)],[(0,15)]]) [([14],[2]),([16],[1,14]),([18],[16]),([20,145],[]),([22],[2]),([24],[1,22]),([26],[24]),([28],[20,26]),([30],[28,145]),([32],[18,30]),([34],[2]),([36],[1,34]),([38],[36]),([40],[32,38]),([4],[40]),([6],[])] [ps 2 (sv (st ((((letB.drop l.toNat).take 1)++([226,153,175]:TX))++(Lib.itoa o)))),ps 3 (iv 0)] (oc (jv l.toNat (by omega)) (oc (congrArg (fun z=>[iv z]) (show l=(l.toNat:Int) from by omega):[(iv l)]=qN (qZ [] 64) [(nv l.toNat)]) (oi (a+3) (by omega) (oc (by omega:(0:Int)≤(a+3)∧(a+3)<((7:Nat):Int)) (oc (by omega:0+((a+3):Int).toNat*1=4) (oc (by first|omega|(simp <;> omega):((((letB.drop l.toNat).take 1).length+([226,153,175]:TX).length:Nat):Int)≤9223372036854775807) (oc (qK _ _:st ((letB.drop l.toNat).take 1)++st ([226,153,175]:TX)=st (((letB.drop l.toNat).take 1)++([226,153,175]:TX))) (yD 144 (vV o (by omega) (by omega)) (oc (by first|omega|(simp <;> omega):(((((letB.drop l.toNat).take 1)++([226,153,175]:TX)).length+(Lib.itoa o).length:Nat):Int)≤9223372036854775807) (oc (qK _ _:st (((letB.drop l.toNat).take 1)++([226,153,175]:TX))++st (Lib.itoa o)=st ((((letB.drop l.toNat).take 1)++([226,153,175]:TX))++(Lib.itoa o))) oz)))))))))) ?_
   rw [vM (l:=l) (a:=a) (o:=o) (S:=[226,153,175]) h1 (by rw [show a=1 from by omega];rfl)]
   exact yA hc0 [2,3] []
  by_cases h7:a+3=5
  ·refine wR qC [(2,.call [] [(nv l.toNat)] [] (sv (st ((letB.drop l.toNat).take 1))) []),(7,.nat 5),(9,.val (.av (.string (st (((letB.drop l.toNat).take 1)++([240,157,132,170]:TX)))))),(12,.call [] [(iv o)] [] (sv (st (Lib.itoa o))) []),(13,.val (.av (.string (st ((((letB.drop l.toNat).take 1)++([240,157,132,170]:TX))++(Lib.itoa o))))))] (bfm [[],[(0,1)],[(0,2)],[],[],[(4,1)],[(4,2)],[(3,4)],[(3,5)],[(0,9)],[],[(10,1)],[(0,3),(10,2)],[(0,13)],[(0,14)],[(0,15)]]) [([14],[2]),([16],[1,14]),([18],[16]),([20,145],[]),([22],[2]),([24],[1,22]),([26],[24]),([28],[20,26]),([30],[28,145]),([32],[18,30]),([34],[2]),([36],[1,34]),([38],[36]),([40],[32,38]),([4],[40]),([6],[])] [ps 2 (sv (st ((((letB.drop l.toNat).take 1)++([240,157,132,170]:TX))++(Lib.itoa o)))),ps 3 (iv 0)] (oc (jv l.toNat (by omega)) (oc (congrArg (fun z=>[iv z]) (show l=(l.toNat:Int) from by omega):[(iv l)]=qN (qZ [] 64) [(nv l.toNat)]) (oi (a+3) (by omega) (oc (by omega:(0:Int)≤(a+3)∧(a+3)<((7:Nat):Int)) (oc (by omega:0+((a+3):Int).toNat*1=5) (oc (by first|omega|(simp <;> omega):((((letB.drop l.toNat).take 1).length+([240,157,132,170]:TX).length:Nat):Int)≤9223372036854775807) (oc (qK _ _:st ((letB.drop l.toNat).take 1)++st ([240,157,132,170]:TX)=st (((letB.drop l.toNat).take 1)++([240,157,132,170]:TX))) (yD 144 (vV o (by omega) (by omega)) (oc (by first|omega|(simp <;> omega):(((((letB.drop l.toNat).take 1)++([240,157,132,170]:TX)).length+(Lib.itoa o).length:Nat):Int)≤9223372036854775807) (oc (qK _ _:st (((letB.drop l.toNat).take 1)++([240,157,132,170]:TX))++st (Lib.itoa o)=st ((((letB.drop l.toNat).take 1)++([240,157,132,170]:TX))++(Lib.itoa o))) oz)))))))))) ?_
   rw [vM (l:=l) (a:=a) (o:=o) (S:=[240,157,132,170]) h1 (by rw [show a=2 from by omega];rfl)]
   exact yA hc0 [2,3] []
  by_cases h8:a+3=6
  ·refine wR qC [(2,.call [] [(nv l.toNat)] [] (sv (st ((letB.drop l.toNat).take 1))) []),(7,.nat 6),(9,.val (.av (.string (st (((letB.drop l.toNat).take 1)++([240,157,132,170,226,153,175]:TX)))))),(12,.call [] [(iv o)] [] (sv (st (Lib.itoa o))) []),(13,.val (.av (.string (st ((((letB.drop l.toNat).take 1)++([240,157,132,170,226,153,175]:TX))++(Lib.itoa o))))))] (bfm [[],[(0,1)],[(0,2)],[],[],[(4,1)],[(4,2)],[(3,4)],[(3,5)],[(0,9)],[],[(10,1)],[(0,3),(10,2)],[(0,13)],[(0,14)],[(0,15)]]) [([14],[2]),([16],[1,14]),([18],[16]),([20,145],[]),([22],[2]),([24],[1,22]),([26],[24]),([28],[20,26]),([30],[28,145]),([32],[18,30]),([34],[2]),([36],[1,34]),([38],[36]),([40],[32,38]),([4],[40]),([6],[])] [ps 2 (sv (st ((((letB.drop l.toNat).take 1)++([240,157,132,170,226,153,175]:TX))++(Lib.itoa o)))),ps 3 (iv 0)] (oc (jv l.toNat (by omega)) (oc (congrArg (fun z=>[iv z]) (show l=(l.toNat:Int) from by omega):[(iv l)]=qN (qZ [] 64) [(nv l.toNat)]) (oi (a+3) (by omega) (oc (by omega:(0:Int)≤(a+3)∧(a+3)<((7:Nat):Int)) (oc (by omega:0+((a+3):Int).toNat*1=6) (oc (by first|omega|(simp <;> omega):((((letB.drop l.toNat).take 1).length+([240,157,132,170,226,153,175]:TX).length:Nat):Int)≤9223372036854775807) (oc (qK _ _:st ((letB.drop l.toNat).take 1)++st ([240,157,132,170,226,153,175]:TX)=st (((letB.drop l.toNat).take 1)++([240,157,132,170,226,153,175]:TX))) (yD 144 (vV o (by omega) (by omega)) (oc (by first|omega|(simp <;> omega):(((((letB.drop l.toNat).take 1)++([240,157,132,170,226,153,175]:TX)).length+(Lib.itoa o).length:Nat):Int)≤9223372036854775807) (oc (qK _ _:st (((letB.drop l.toNat).take 1)++([240,157,132,170,226,153,175]:TX))++st (Lib.itoa o)=st ((((letB.drop l.toNat).take 1)++([240,157,132,170,226,153,175]:TX))++(Lib.itoa o))) oz)))))))))) ?_
   rw [vM (l:=l) (a:=a) (o:=o) (S:=[240,157,132,170,226,153,175]) h1 (by rw [show a=3 from by omega];rfl)]
   exact yA hc0 [2,3] []
  ·exfalso;omega
 refine qR (congrArg Bool.not (Bool.eq_false_iff.2 h1))<|qA<|qk qC [] [ps 2 se,ps 3 (iv 2)] (oz) ?_
 rw [qhi (l:=l) (a:=a) (o:=o) h1]
 exact yA hc0 [2,3] []
theorem vH (c:UInt8) (n:Int) (h0:0≤n) (h1:n≤1000):PC Tryz.prog 97 [(sv (st [c])),(iv n)] [] (sv (st (Lib.repeatL [c] n.toNat))) []:=by
 refine zI Tryz.func97 rfl (by kernel_rfl) (Nat.le_of_ble_eq_true rfl) (by kernel_rfl) (l0:=[ps 0 (sv (st [c])),ps 1 (iv n)]) rfl (fun c0 Bor hc0=>?_)
 refine qA<|qL qC [.r] []<|qA<|qL qC [.k2,.n] [ps 5 se]<|qA<|qA<|qL qC [.k3,.n] [ps 6 (iv 0)]<|qV<|yC (α:={x:Nat // (x:Int)≤n}) (fun x=>[ps 0 (sv (st [c])),ps 1 (iv n),ps 5 (sv (st (Lib.repeatL [c] x.1))),ps 6 (nv x.1)]) (fun x=>n.toNat-x.1) 0 ⟨0,by show ((0:Nat):Int)≤n;omega⟩ (Wk.ren2 _ 0 hc0 [] rfl rfl (by kernel_rfl) (by kernel_rfl)) ?_
 rintro ⟨k,hk⟩
 refine qA<|qA<|qk qC [] [ps 0 (sv (st [c])),ps 1 (iv n),ps 5 (sv (st (Lib.repeatL [c] k))),ps 6 (nv k),ps 9 (bv (decide (((k:Nat):Int)<n)))] (oz) ?_
 by_cases h1:(k:Int)<n
 ·refine qR (zP h1)<|qF<|qA<|qV ?_
  have hl:=vG c k
  refine zY qC [(2,.val (.av (.string (st ((Lib.repeatL [c] k)++[c])))))] [.k2,.d,.n,.k1,.d] [ps 5 (sv (st ((Lib.repeatL [c] k)++[c])))] (oc (by first|omega|(simp <;> omega):(((Lib.repeatL [c] k).length+[c].length:Nat):Int)≤9223372036854775807) (oc (qK _ _:st (Lib.repeatL [c] k)++st [c]=st ((Lib.repeatL [c] k)++[c])) oz))<|zF<|zY qC [] [.k3,.d,.n] [ps 6 (iv (((k:Nat):Int)+1))] (oi (((k:Nat):Int)+1) (by omega) oz) ?_
  exact zR ⟨k+1,by show ((k+1:Nat):Int)≤n;omega⟩ (Wk.trans (Wk.eq (show _=[ps 0 (sv (st [c])),ps 1 (iv n),ps 5 (sv (st (Lib.repeatL [c] (k+1)))),ps 6 (nv (k+1))] from by rw [← rep_snoc];rfl)) (Wk.ren2 _ 0 hc0 [] rfl rfl (by kernel_rfl) (by kernel_rfl))) (show n.toNat-(k+1)<n.toNat-k from by show n.toNat-(k+1)<n.toNat-k;omega)
 refine qU (zN h1)<|zS rfl rfl<|qA<|qk qC [] [ps 4 (sv (st (Lib.repeatL [c] k)))] (oz) ?_
 rw [show n.toNat=k from by omega]
 exact yA hc0 [4] []
def zW (p:Bool) (m:Int):List UInt8:=if 6<(wI p m).length then [] else wI p m
theorem jC {p:Bool} {m:Int} {q:List UInt8} (h:wI p m=q) (hl:q.length≤6):zW p m=q:=by unfold zW;rw [h,if_neg (by omega)]
theorem wH {p:Bool} {m:Int} (h:6<m∨(p=true∧m < -6)∨(¬ p=true∧m < -7)):zW p m=[]:=by
 have:=q_far h
 unfold zW
 rw [if_pos (by omega)]
theorem qw_len (p:Bool) (m:Int):(zW p m).length≤6:=by
 unfold zW
 split
 ·exact Nat.zero_le _
 ·omega
theorem qual_nn (p:Bool) (m:Int):wI p m≠[]:=by
 unfold wI
 repeat' split
 all_goals first|exact rep_ne (by omega)|(intro e;cases e)
theorem name_w0 {s h:Int} (hw:Pi.withinB s h=true) (hn:¬ (s<0∨(s=0∧h<0))) (h0:zW (qW s) (vq s h)=[]):qX s h=([],3):=by
 unfold zW at h0
 split at h0
 ·exact yP hw hn (vU rfl (by omega))
 ·exact absurd h0 (qual_nn _ _)
theorem name_w1 {s h:Int} (hw:Pi.withinB s h=true) (hn:¬ (s<0∨(s=0∧h<0))) (h0:¬ zW (qW s) (vq s h)=[]):qX s h=(zW (qW s) (vq s h)++Lib.itoa (s+1),0):=by
 unfold zW at h0 ⊢
 split at h0
 ·exact absurd rfl h0
 ·rename_i c
  rw [if_neg c]
  exact name_ok0 hw hn rfl (by omega)
theorem Wy (s h:Int) (ih:∀ x y:Int,0≤x→¬ (x=0∧y<0)→(s<0∨(s=0∧h<0))→PC Tryz.prog 64 [.agg [iv x,iv y]] [] (.tup [sv (st ((qX x y).1)),iv ((qX x y).2)]) []):PC Tryz.prog 64 [(.agg [(iv s),(iv h)])] [] (.tup [(sv (st ((qX s h).1))),(iv ((qX s h).2))]) []:=by
 refine zI Tryz.func64 rfl (by kernel_rfl) (Nat.le_of_ble_eq_true rfl) (by kernel_rfl) (l0:=[ps 0 (.agg [(iv s),(iv h)])]) rfl (fun c0 Bor hc0=>?_)
 refine qA<|qk qC [] [ps 1 (.opt 0 0),pb 0 41 [(iv s),(iv h)]] (oz)<|qA<|qA<|vK qC 1 [.k1,.n,.r] [ps 11 (bv (!(Pi.withinB s h)))] (yD 32 (VO s h) oz) ?_
 by_cases h1:(Pi.withinB s h)=true
 ·refine qU (congrArg Bool.not h1)<|qF<|qA<|qA ?_
  have hw:=Pi.withinB_iff.1 h1
  have hsh:=qfn (0-s) (0-h)
  by_cases h2:s<0
  ·refine zY qC (gy 4 4++[(11,.gd true .no),(12,.yes true)]) [.k1,.d,.n,.r] [ps 24 (bv true)] (on 6 (zP h2) oz)<|yK (b:=true) rfl rfl<|qA<|qk qC [(7,.call [] [(.agg [(iv (0-s)),(iv (0-h))])] [] (.tup [(sv (st ((qX (0-s) (0-h)).1))),(iv ((qX (0-s) (0-h)).2))]) [])] [ps 4 (sv (st ((qX (0-s) (0-h)).1))),ps 5 (iv ((qX (0-s) (0-h)).2))] (oi (0-s) (by omega) (oi (0-h) (by omega) (yD 208 (ih (0-s) (0-h) (by omega) (by omega) (by omega)) oz)))<|qA<|qA<|qL qC [.k2,.n] [ps 37 (bv (!(decide (((qX (0-s) (0-h)).2)=0))))] ?_
   by_cases h3:((qX (0-s) (0-h)).2)=0
   ·refine qU (bt h3)<|qF<|qA<|qk qC [(1,.val (.av (.string (st (([45]:TX)++((qX (0-s) (0-h)).1))))))] [ps 2 (sv (st (([45]:TX)++((qX (0-s) (0-h)).1)))),ps 3 (iv 0)] (oc (by first|omega|(simp only [List.length_append,List.length_cons,List.length_nil];omega):((([45]:TX).length+((qX (0-s) (0-h)).1).length:Nat):Int)≤9223372036854775807) (oc (qK _ _:st ([45]:TX)++st ((qX (0-s) (0-h)).1)=st (([45]:TX)++((qX (0-s) (0-h)).1))) oz)) ?_
    rw [qdf (s:=s) (h:=h) h1 (by omega) h3]
    exact yA hc0 [2,3] []
   refine qR (bf h3)<|qA<|qk qC [] [ps 2 se,ps 3 (iv ((qX (0-s) (0-h)).2))] (oz) ?_
   rw [qdg (s:=s) (h:=h) h1 (by omega) h3]
   exact yA hc0 [2,3] []
  by_cases h4:s=0
  ·refine zY qC (gn 4 4++gy 8 3++[(11,.gd false (.yes true)),(12,.yes false)]) [.k1,.d,.n,.r] [ps 24 (bv (decide (h<0)))] (on 4 (zN h2) (on 3 (zP h4) (oc (zN h2) (oc (zP h4) (oc (zN h2) oz))))) ?_
   by_cases h5:h<0
   ·refine qR (zP h5)<|qA<|qk qC [(7,.call [] [(.agg [(iv (0-s)),(iv (0-h))])] [] (.tup [(sv (st ((qX (0-s) (0-h)).1))),(iv ((qX (0-s) (0-h)).2))]) [])] [ps 4 (sv (st ((qX (0-s) (0-h)).1))),ps 5 (iv ((qX (0-s) (0-h)).2))] (oi (0-s) (by omega) (oi (0-h) (by omega) (yD 208 (ih (0-s) (0-h) (by omega) (by omega) (by omega)) oz)))<|qA<|qA<|qL qC [.k2,.n] [ps 37 (bv (!(decide (((qX (0-s) (0-h)).2)=0))))] ?_
    by_cases h6:((qX (0-s) (0-h)).2)=0
    ·refine qU (bt h6)<|qF<|qA<|qk qC [(1,.val (.av (.string (st (([45]:TX)++((qX (0-s) (0-h)).1))))))] [ps 2 (sv (st (([45]:TX)++((qX (0-s) (0-h)).1)))),ps 3 (iv 0)] (oc (by first|omega|(simp only [List.length_append,List.length_cons,List.length_nil];omega):((([45]:TX).length+((qX (0-s) (0-h)).1).length:Nat):Int)≤9223372036854775807) (oc (qK _ _:st ([45]:TX)++st ((qX (0-s) (0-h)).1)=st (([45]:TX)++((qX (0-s) (0-h)).1))) oz)) ?_
     rw [qdf (s:=s) (h:=h) h1 (by omega) h6]
     exact yA hc0 [2,3] []
    refine qR (bf h6)<|qA<|qk qC [] [ps 2 se,ps 3 (iv ((qX (0-s) (0-h)).2))] (oz) ?_
    rw [qdg (s:=s) (h:=h) h1 (by omega) h6]
    exact yA hc0 [2,3] []
   refine qU (zN h5)<|qF ?_
   have hnn:¬ (s<0∨(s=0∧h<0)):=by omega
   refine qA ?_
   obtain ⟨m,hm⟩:∃ m,m=vq s h:=⟨_,rfl⟩
   have hmb : -9000≤m∧m≤9000:=by rw [hm];unfold vq;have:=Pi.nat7_range (s % 7);omega
   have hwb:=Pi.white_bd s (by omega)
   refine QK qC [(4,.call [] [(iv s)] [] (iv (Pi.white s)) [])] [[],[0],[],[2],[2,3],[0,1,2,3,4],[0,1,2,3,4,5]] [([82],[2]),([84],[1,82]),([86],[2]),([88],[1,86]),([90],[88]),([92],[84,90]),([12],[92])] [.k1,.n,.d,.r] [ps 6 (iv (h-(Pi.white s)))] (yD 184 (white_pc s (by omega) (by omega)) (oi (h-(Pi.white s)) (by omega) oz))<|qA<|qY (Wk.eq (show _=[ps 1 (.opt 0 0),ps 6 (iv m),pb 0 41 [(iv s),(iv h)]] from by rw [show h-Pi.white s=m from by rw [hm,qfp]])) ?_
   refine zY qC [] [.k2,.n,.r] [ps 7 (iv ((s).tmod 7))] (oc (by decide:7≠(0:Int)) oz)<|qA<|qY (Wk.eq (show _=[ps 1 (.opt 0 0),ps 6 (iv m),ps 7 (iv (s % 7)),pb 0 41 [(iv s),(iv h)]] from by rw [Int.tmod_eq_emod_of_nonneg (show 0≤s from by omega)])) ?_
   refine qL qC [.k3,.n,.r] [ps 8 se]<|qA<|qA ?_
   have h7:(s % 7)=0:=(by omega)
   refine zY qC (gy 3 2++[(5,.yes true)]++gy 7 2) [.k2,.d,.k1,.n,.r] [ps 59 (bv true)] (on 3 (zP h7) (on 2 tt oz))<|yK (b:=true) rfl rfl<|qA ?_
   have hpf:=qbm (s:=s) (by omega)
   refine qL qC [.k3,.d,.n,.r] [ps 61 (bv (decide (m=0)))]<|T_f1 472 [ps 1 (.opt 0 0),ps 8 (sv (st (zW (qW s) m))),pb 0 41 [(iv s),(iv h)]] ?_ fun hk2=>?_
   ·refine qA<|qA<|qk qC [(1,.val (.av (.bool (decide ((zW (qW s) m)=([]:TX))))))] [ps 1 (.opt 0 0),ps 8 (sv (st (zW (qW s) m))),ps 102 (bv (decide ((zW (qW s) m)=([]:TX)))),pb 0 41 [(iv s),(iv h)]] (oc (QV _ _:((st (zW (qW s) m)).toList == (st ([]:TX)).toList)=decide ((zW (qW s) m)=([]:TX))) oz) ?_
    by_cases h15:(zW (qW s) m)=([]:TX)
    ·refine qR (zP h15)<|qA<|qk qC [] [ps 2 se,ps 3 (iv 3)] (oz) ?_
     rw [name_w0 (s:=s) (h:=h) h1 hnn (by rw [← hm];exact h15)]
     exact yA hc0 [2,3] []
    refine qU (zN h15)<|qF<|qA ?_
    have hlr:=qw_len (qW s) m
    have hl2:=jE (o:=s+1) (by omega) (by omega)
    refine qk qC [(4,.call [] [(iv (s+1))] [] (sv (st (Lib.itoa (s+1)))) []),(5,.val (.av (.string (st ((zW (qW s) m)++(Lib.itoa (s+1)))))))] [ps 2 (sv (st ((zW (qW s) m)++(Lib.itoa (s+1))))),ps 3 (iv 0)] (oi (s+1) (by omega) (yD 520 (vV (s+1) (by omega) (by omega)) (oc (by first|omega|(simp <;> omega):(((zW (qW s) m).length+(Lib.itoa (s+1)).length:Nat):Int)≤9223372036854775807) (oc (qK _ _:st (zW (qW s) m)++st (Lib.itoa (s+1))=st ((zW (qW s) m)++(Lib.itoa (s+1)))) oz)))) ?_
    rw [name_w1 (s:=s) (h:=h) h1 hnn (by rw [← hm];exact h15),← hm]
    exact yA hc0 [2,3] []
   by_cases h8:m=0
   ·refine qR (zP h8)<|qL qC [.k1,.d,.d,.n,.d,.r] [ps 8 (sv (st ([80]:TX)))]<|qY (Wk.eq (show _=[ps 1 (.opt 0 0),ps 8 (sv (st (zW (qW s) m))),pb 0 41 [(iv s),(iv h)]] from by rw [jC (p:=qW s) (m:=m) (VQ (by omega) (hpf)) (by decide)])) ?_
    exact vE hk2
   refine qU (zN h8)<|qA ?_
   by_cases h10:0<m
   ·refine zY qC (gy 3 2++[(5,.yes true)]) [.k3,.d,.n,.r] [ps 67 (bv (decide (m≤6)))] (on 3 (zP h10) oz) ?_
    by_cases h11:m≤6
    ·refine qR (zP h11)<|vK qC 1 [.k1,.d,.d,.n,.d,.r] [ps 8 (sv (st (Lib.repeatL [65] m.toNat)))] (yD 400 (vH 65 m (by omega) (by omega)) oz)<|qY (Wk.eq (show _=[ps 1 (.opt 0 0),ps 8 (sv (st (zW (qW s) m))),pb 0 41 [(iv s),(iv h)]] from by rw [jC (p:=qW s) (m:=m) (q_up (by omega) (by omega)) (by rw [vG];omega)])) ?_
     exact vE hk2
    refine qU (zN h11)<|qA ?_
    by_cases h13:m<0
    ·refine zY qC (gy 3 2++[(5,.yes true)]) [.k3,.d,.n,.r] [ps 75 (bv (decide ((-6)≤m)))] (on 3 (zP h13) oz) ?_
     by_cases h14:(-6)≤m
     ·refine qR (zP h14)<|zY qC [(2,.call [] [(sv (st ([100]:TX))),(iv (0-m))] [] (sv (st (Lib.repeatL [100] (0-m).toNat))) [])] [.k1,.d,.d,.n,.d,.r] [ps 8 (sv (st (Lib.repeatL [100] (0-m).toNat)))] (oi (0-m) (by omega) (yD 456 (vH 100 (0-m) (by omega) (by omega)) oz))<|qY (Wk.eq (show _=[ps 1 (.opt 0 0),ps 8 (sv (st (zW (qW s) m))),pb 0 41 [(iv s),(iv h)]] from by rw [jC (p:=qW s) (m:=m) (q_dn (by omega) (by omega) (hpf)) (by rw [vG];omega)])) ?_
      exact vE hk2
     refine qU (zN h14)<|qF<|qY (Wk.eq (show _=[ps 1 (.opt 0 0),ps 6 (iv m),ps 8 (sv (st (zW (qW s) m))),ps 75 (bv (decide ((-6)≤m))),pb 0 41 [(iv s),(iv h)]] from by rw [wH (p:=qW s) (m:=m) (by have hp:=hpf;first|exact .inl (by omega)|exact .inr (.inl ⟨hp,by omega⟩))])) ?_
     exact vE hk2
    refine zY qC (gn 3 2++[(5,.yes false)]) [.k3,.d,.n,.r] [ps 75 (bv false)] (on 3 (zN h13) oz)<|zk (b:=false) rfl rfl<|qF<|qY (Wk.eq (show _=[ps 1 (.opt 0 0),ps 6 (iv m),ps 8 (sv (st (zW (qW s) m))),ps 75 (bv false),pb 0 41 [(iv s),(iv h)]] from by rw [wH (p:=qW s) (m:=m) (by have hp:=hpf;first|exact .inl (by omega)|exact .inr (.inl ⟨hp,by omega⟩))])) ?_
    exact vE hk2
   refine zY qC (gn 3 2++[(5,.yes false)]) [.k3,.d,.n,.r] [ps 67 (bv false)] (on 3 (zN h10) oz)<|zk (b:=false) rfl rfl<|qA ?_
   by_cases h18:m<0
   ·refine zY qC (gy 3 2++[(5,.yes true)]) [.k3,.d,.n,.r] [ps 75 (bv (decide ((-6)≤m)))] (on 3 (zP h18) oz) ?_
    by_cases h19:(-6)≤m
    ·refine qR (zP h19)<|zY qC [(2,.call [] [(sv (st ([100]:TX))),(iv (0-m))] [] (sv (st (Lib.repeatL [100] (0-m).toNat))) [])] [.k1,.d,.d,.n,.d,.r] [ps 8 (sv (st (Lib.repeatL [100] (0-m).toNat)))] (oi (0-m) (by omega) (yD 456 (vH 100 (0-m) (by omega) (by omega)) oz))<|qY (Wk.eq (show _=[ps 1 (.opt 0 0),ps 8 (sv (st (zW (qW s) m))),pb 0 41 [(iv s),(iv h)]] from by rw [jC (p:=qW s) (m:=m) (q_dn (by omega) (by omega) (hpf)) (by rw [vG];omega)])) ?_
     exact vE hk2
    refine qU (zN h19)<|qF<|qY (Wk.eq (show _=[ps 1 (.opt 0 0),ps 6 (iv m),ps 8 (sv (st (zW (qW s) m))),ps 75 (bv (decide ((-6)≤m))),pb 0 41 [(iv s),(iv h)]] from by rw [wH (p:=qW s) (m:=m) (by have hp:=hpf;first|exact .inl (by omega)|exact .inr (.inl ⟨hp,by omega⟩))])) ?_
    exact vE hk2
   refine zY qC (gn 3 2++[(5,.yes false)]) [.k3,.d,.n,.r] [ps 75 (bv false)] (on 3 (zN h18) oz)<|zk (b:=false) rfl rfl<|qF<|qY (Wk.eq (show _=[ps 1 (.opt 0 0),ps 6 (iv m),ps 8 (sv (st (zW (qW s) m))),ps 75 (bv false),pb 0 41 [(iv s),(iv h)]] from by rw [wH (p:=qW s) (m:=m) (by have hp:=hpf;first|exact .inl (by omega)|exact .inr (.inl ⟨hp,by omega⟩))])) ?_
   exact vE hk2
  refine zY qC (gn 4 7++[(11,.gd false (.yes false)),(12,.yes false)]) [.k1,.d,.n,.r] [ps 24 (bv false)] (on 4 (zN h2) (on 3 (zN h4) (oc (zN h2) (oc (zN h4) (oc (zN h2) oz)))))<|zk (b:=false) rfl rfl<|qF ?_
  have hnn:¬ (s<0∨(s=0∧h<0)):=by omega
  refine qA ?_
  obtain ⟨m,hm⟩:∃ m,m=vq s h:=⟨_,rfl⟩
  have hmb : -9000≤m∧m≤9000:=by rw [hm];unfold vq;have:=Pi.nat7_range (s % 7);omega
  have hwb:=Pi.white_bd s (by omega)
  refine QK qC [(4,.call [] [(iv s)] [] (iv (Pi.white s)) [])] [[],[0],[],[2],[2,3],[0,1,2,3,4],[0,1,2,3,4,5]] [([82],[2]),([84],[1,82]),([86],[2]),([88],[1,86]),([90],[88]),([92],[84,90]),([12],[92])] [.k1,.n,.d,.r] [ps 6 (iv (h-(Pi.white s)))] (yD 184 (white_pc s (by omega) (by omega)) (oi (h-(Pi.white s)) (by omega) oz))<|qA<|qY (Wk.eq (show _=[ps 1 (.opt 0 0),ps 6 (iv m),pb 0 41 [(iv s),(iv h)]] from by rw [show h-Pi.white s=m from by rw [hm,qfp]])) ?_
  refine zY qC [] [.k2,.n,.r] [ps 7 (iv ((s).tmod 7))] (oc (by decide:7≠(0:Int)) oz)<|qA<|qY (Wk.eq (show _=[ps 1 (.opt 0 0),ps 6 (iv m),ps 7 (iv (s % 7)),pb 0 41 [(iv s),(iv h)]] from by rw [Int.tmod_eq_emod_of_nonneg (show 0≤s from by omega)])) ?_
  refine qL qC [.k3,.n,.r] [ps 8 se]<|qA<|qA<|T_f2 496 [ps 1 (.opt 0 0),ps 8 (sv (st (zW (qW s) m))),pb 0 41 [(iv s),(iv h)]] ?_ fun hk1=>?_
  ·refine qA<|qA<|qk qC [(1,.val (.av (.bool (decide ((zW (qW s) m)=([]:TX))))))] [ps 1 (.opt 0 0),ps 8 (sv (st (zW (qW s) m))),ps 102 (bv (decide ((zW (qW s) m)=([]:TX)))),pb 0 41 [(iv s),(iv h)]] (oc (QV _ _:((st (zW (qW s) m)).toList == (st ([]:TX)).toList)=decide ((zW (qW s) m)=([]:TX))) oz) ?_
   by_cases h80:(zW (qW s) m)=([]:TX)
   ·refine qR (zP h80)<|qA<|qk qC [] [ps 2 se,ps 3 (iv 3)] (oz) ?_
    rw [name_w0 (s:=s) (h:=h) h1 hnn (by rw [← hm];exact h80)]
    exact yA hc0 [2,3] []
   refine qU (zN h80)<|qF<|qA ?_
   have hlr:=qw_len (qW s) m
   have hl2:=jE (o:=s+1) (by omega) (by omega)
   refine qk qC [(4,.call [] [(iv (s+1))] [] (sv (st (Lib.itoa (s+1)))) []),(5,.val (.av (.string (st ((zW (qW s) m)++(Lib.itoa (s+1)))))))] [ps 2 (sv (st ((zW (qW s) m)++(Lib.itoa (s+1))))),ps 3 (iv 0)] (oi (s+1) (by omega) (yD 544 (vV (s+1) (by omega) (by omega)) (oc (by first|omega|(simp <;> omega):(((zW (qW s) m).length+(Lib.itoa (s+1)).length:Nat):Int)≤9223372036854775807) (oc (qK _ _:st (zW (qW s) m)++st (Lib.itoa (s+1))=st ((zW (qW s) m)++(Lib.itoa (s+1)))) oz)))) ?_
   rw [name_w1 (s:=s) (h:=h) h1 hnn (by rw [← hm];exact h80),← hm]
   exact yA hc0 [2,3] []
  by_cases h23:(s % 7)=0
  ·refine zY qC (gy 3 2++[(5,.yes true)]++gy 7 2) [.k2,.d,.k1,.n,.r] [ps 59 (bv true)] (on 3 (zP h23) (on 2 tt oz))<|yK (b:=true) rfl rfl<|qA ?_
   have hpf:=qbm (s:=s) (by omega)
   refine qL qC [.k3,.d,.n,.r] [ps 61 (bv (decide (m=0)))] ?_
   by_cases h24:m=0
   ·refine qR (zP h24)<|qL qC [.k1,.d,.d,.n,.d,.r] [ps 8 (sv (st ([80]:TX)))]<|qY (Wk.eq (show _=[ps 1 (.opt 0 0),ps 8 (sv (st (zW (qW s) m))),pb 0 41 [(iv s),(iv h)]] from by rw [jC (p:=qW s) (m:=m) (VQ (by omega) (hpf)) (by decide)])) ?_
    exact vE hk1
   refine qU (zN h24)<|qA ?_
   by_cases h26:0<m
   ·refine zY qC (gy 3 2++[(5,.yes true)]) [.k3,.d,.n,.r] [ps 67 (bv (decide (m≤6)))] (on 3 (zP h26) oz) ?_
    by_cases h27:m≤6
    ·refine qR (zP h27)<|vK qC 1 [.k1,.d,.d,.n,.d,.r] [ps 8 (sv (st (Lib.repeatL [65] m.toNat)))] (yD 400 (vH 65 m (by omega) (by omega)) oz)<|qY (Wk.eq (show _=[ps 1 (.opt 0 0),ps 8 (sv (st (zW (qW s) m))),pb 0 41 [(iv s),(iv h)]] from by rw [jC (p:=qW s) (m:=m) (q_up (by omega) (by omega)) (by rw [vG];omega)])) ?_
     exact vE hk1
    refine qU (zN h27)<|qA ?_
    by_cases h29:m<0
    ·refine zY qC (gy 3 2++[(5,.yes true)]) [.k3,.d,.n,.r] [ps 75 (bv (decide ((-6)≤m)))] (on 3 (zP h29) oz) ?_
     by_cases h30:(-6)≤m
     ·refine qR (zP h30)<|zY qC [(2,.call [] [(sv (st ([100]:TX))),(iv (0-m))] [] (sv (st (Lib.repeatL [100] (0-m).toNat))) [])] [.k1,.d,.d,.n,.d,.r] [ps 8 (sv (st (Lib.repeatL [100] (0-m).toNat)))] (oi (0-m) (by omega) (yD 456 (vH 100 (0-m) (by omega) (by omega)) oz))<|qY (Wk.eq (show _=[ps 1 (.opt 0 0),ps 8 (sv (st (zW (qW s) m))),pb 0 41 [(iv s),(iv h)]] from by rw [jC (p:=qW s) (m:=m) (q_dn (by omega) (by omega) (hpf)) (by rw [vG];omega)])) ?_
      exact vE hk1
     refine qU (zN h30)<|qF<|qY (Wk.eq (show _=[ps 1 (.opt 0 0),ps 6 (iv m),ps 8 (sv (st (zW (qW s) m))),ps 75 (bv (decide ((-6)≤m))),pb 0 41 [(iv s),(iv h)]] from by rw [wH (p:=qW s) (m:=m) (by have hp:=hpf;first|exact .inl (by omega)|exact .inr (.inl ⟨hp,by omega⟩))])) ?_
     exact vE hk1
    refine zY qC (gn 3 2++[(5,.yes false)]) [.k3,.d,.n,.r] [ps 75 (bv false)] (on 3 (zN h29) oz)<|zk (b:=false) rfl rfl<|qF<|qY (Wk.eq (show _=[ps 1 (.opt 0 0),ps 6 (iv m),ps 8 (sv (st (zW (qW s) m))),ps 75 (bv false),pb 0 41 [(iv s),(iv h)]] from by rw [wH (p:=qW s) (m:=m) (by have hp:=hpf;first|exact .inl (by omega)|exact .inr (.inl ⟨hp,by omega⟩))])) ?_
    exact vE hk1
   refine zY qC (gn 3 2++[(5,.yes false)]) [.k3,.d,.n,.r] [ps 67 (bv false)] (on 3 (zN h26) oz)<|zk (b:=false) rfl rfl<|qA ?_
   by_cases h34:m<0
   ·refine zY qC (gy 3 2++[(5,.yes true)]) [.k3,.d,.n,.r] [ps 75 (bv (decide ((-6)≤m)))] (on 3 (zP h34) oz) ?_
    by_cases h35:(-6)≤m
    ·refine qR (zP h35)<|zY qC [(2,.call [] [(sv (st ([100]:TX))),(iv (0-m))] [] (sv (st (Lib.repeatL [100] (0-m).toNat))) [])] [.k1,.d,.d,.n,.d,.r] [ps 8 (sv (st (Lib.repeatL [100] (0-m).toNat)))] (oi (0-m) (by omega) (yD 456 (vH 100 (0-m) (by omega) (by omega)) oz))<|qY (Wk.eq (show _=[ps 1 (.opt 0 0),ps 8 (sv (st (zW (qW s) m))),pb 0 41 [(iv s),(iv h)]] from by rw [jC (p:=qW s) (m:=m) (q_dn (by omega) (by omega) (hpf)) (by rw [vG];omega)])) ?_
     exact vE hk1
    refine qU (zN h35)<|qF<|qY (Wk.eq (show _=[ps 1 (.opt 0 0),ps 6 (iv m),ps 8 (sv (st (zW (qW s) m))),ps 75 (bv (decide ((-6)≤m))),pb 0 41 [(iv s),(iv h)]] from by rw [wH (p:=qW s) (m:=m) (by have hp:=hpf;first|exact .inl (by omega)|exact .inr (.inl ⟨hp,by omega⟩))])) ?_
    exact vE hk1
   refine zY qC (gn 3 2++[(5,.yes false)]) [.k3,.d,.n,.r] [ps 75 (bv false)] (on 3 (zN h34) oz)<|zk (b:=false) rfl rfl<|qF<|qY (Wk.eq (show _=[ps 1 (.opt 0 0),ps 6 (iv m),ps 8 (sv (st (zW (qW s) m))),ps 75 (bv false),pb 0 41 [(iv s),(iv h)]] from by rw [wH (p:=qW s) (m:=m) (by have hp:=hpf;first|exact .inl (by omega)|exact .inr (.inl ⟨hp,by omega⟩))])) ?_
   exact vE hk1
  by_cases h39:(s % 7)=3
  ·refine zY qC (gn 3 2++[(5,.yes false)]++gy 7 2++[(9,.yes true)]) [.k2,.d,.k1,.n,.r] [ps 59 (bv true)] (on 3 (zN h23) (on 3 (zP h39) oz))<|yK (b:=true) rfl rfl<|qA ?_
   have hpf:=qbm (s:=s) (by omega)
   refine qL qC [.k3,.d,.n,.r] [ps 61 (bv (decide (m=0)))] ?_
   by_cases h40:m=0
   ·refine qR (zP h40)<|qL qC [.k1,.d,.d,.n,.d,.r] [ps 8 (sv (st ([80]:TX)))]<|qY (Wk.eq (show _=[ps 1 (.opt 0 0),ps 8 (sv (st (zW (qW s) m))),pb 0 41 [(iv s),(iv h)]] from by rw [jC (p:=qW s) (m:=m) (VQ (by omega) (hpf)) (by decide)])) ?_
    exact vE hk1
   refine qU (zN h40)<|qA ?_
   by_cases h42:0<m
   ·refine zY qC (gy 3 2++[(5,.yes true)]) [.k3,.d,.n,.r] [ps 67 (bv (decide (m≤6)))] (on 3 (zP h42) oz) ?_
    by_cases h43:m≤6
    ·refine qR (zP h43)<|vK qC 1 [.k1,.d,.d,.n,.d,.r] [ps 8 (sv (st (Lib.repeatL [65] m.toNat)))] (yD 400 (vH 65 m (by omega) (by omega)) oz)<|qY (Wk.eq (show _=[ps 1 (.opt 0 0),ps 8 (sv (st (zW (qW s) m))),pb 0 41 [(iv s),(iv h)]] from by rw [jC (p:=qW s) (m:=m) (q_up (by omega) (by omega)) (by rw [vG];omega)])) ?_
     exact vE hk1
    refine qU (zN h43)<|qA ?_
    by_cases h45:m<0
    ·refine zY qC (gy 3 2++[(5,.yes true)]) [.k3,.d,.n,.r] [ps 75 (bv (decide ((-6)≤m)))] (on 3 (zP h45) oz) ?_
     by_cases h46:(-6)≤m
     ·refine qR (zP h46)<|zY qC [(2,.call [] [(sv (st ([100]:TX))),(iv (0-m))] [] (sv (st (Lib.repeatL [100] (0-m).toNat))) [])] [.k1,.d,.d,.n,.d,.r] [ps 8 (sv (st (Lib.repeatL [100] (0-m).toNat)))] (oi (0-m) (by omega) (yD 456 (vH 100 (0-m) (by omega) (by omega)) oz))<|qY (Wk.eq (show _=[ps 1 (.opt 0 0),ps 8 (sv (st (zW (qW s) m))),pb 0 41 [(iv s),(iv h)]] from by rw [jC (p:=qW s) (m:=m) (q_dn (by omega) (by omega) (hpf)) (by rw [vG];omega)])) ?_
      exact vE hk1
     refine qU (zN h46)<|qF<|qY (Wk.eq (show _=[ps 1 (.opt 0 0),ps 6 (iv m),ps 8 (sv (st (zW (qW s) m))),ps 75 (bv (decide ((-6)≤m))),pb 0 41 [(iv s),(iv h)]] from by rw [wH (p:=qW s) (m:=m) (by have hp:=hpf;first|exact .inl (by omega)|exact .inr (.inl ⟨hp,by omega⟩))])) ?_
     exact vE hk1
    refine zY qC (gn 3 2++[(5,.yes false)]) [.k3,.d,.n,.r] [ps 75 (bv false)] (on 3 (zN h45) oz)<|zk (b:=false) rfl rfl<|qF<|qY (Wk.eq (show _=[ps 1 (.opt 0 0),ps 6 (iv m),ps 8 (sv (st (zW (qW s) m))),ps 75 (bv false),pb 0 41 [(iv s),(iv h)]] from by rw [wH (p:=qW s) (m:=m) (by have hp:=hpf;first|exact .inl (by omega)|exact .inr (.inl ⟨hp,by omega⟩))])) ?_
    exact vE hk1
   refine zY qC (gn 3 2++[(5,.yes false)]) [.k3,.d,.n,.r] [ps 67 (bv false)] (on 3 (zN h42) oz)<|zk (b:=false) rfl rfl<|qA ?_
   by_cases h50:m<0
   ·refine zY qC (gy 3 2++[(5,.yes true)]) [.k3,.d,.n,.r] [ps 75 (bv (decide ((-6)≤m)))] (on 3 (zP h50) oz) ?_
    by_cases h51:(-6)≤m
    ·refine qR (zP h51)<|zY qC [(2,.call [] [(sv (st ([100]:TX))),(iv (0-m))] [] (sv (st (Lib.repeatL [100] (0-m).toNat))) [])] [.k1,.d,.d,.n,.d,.r] [ps 8 (sv (st (Lib.repeatL [100] (0-m).toNat)))] (oi (0-m) (by omega) (yD 456 (vH 100 (0-m) (by omega) (by omega)) oz))<|qY (Wk.eq (show _=[ps 1 (.opt 0 0),ps 8 (sv (st (zW (qW s) m))),pb 0 41 [(iv s),(iv h)]] from by rw [jC (p:=qW s) (m:=m) (q_dn (by omega) (by omega) (hpf)) (by rw [vG];omega)])) ?_
     exact vE hk1
    refine qU (zN h51)<|qF<|qY (Wk.eq (show _=[ps 1 (.opt 0 0),ps 6 (iv m),ps 8 (sv (st (zW (qW s) m))),ps 75 (bv (decide ((-6)≤m))),pb 0 41 [(iv s),(iv h)]] from by rw [wH (p:=qW s) (m:=m) (by have hp:=hpf;first|exact .inl (by omega)|exact .inr (.inl ⟨hp,by omega⟩))])) ?_
    exact vE hk1
   refine zY qC (gn 3 2++[(5,.yes false)]) [.k3,.d,.n,.r] [ps 75 (bv false)] (on 3 (zN h50) oz)<|zk (b:=false) rfl rfl<|qF<|qY (Wk.eq (show _=[ps 1 (.opt 0 0),ps 6 (iv m),ps 8 (sv (st (zW (qW s) m))),ps 75 (bv false),pb 0 41 [(iv s),(iv h)]] from by rw [wH (p:=qW s) (m:=m) (by have hp:=hpf;first|exact .inl (by omega)|exact .inr (.inl ⟨hp,by omega⟩))])) ?_
   exact vE hk1
  refine zY qC (gn 3 2++[(5,.yes false)]++gn 7 2++[(9,.yes false)]) [.k2,.d,.k1,.n,.r] [ps 59 (bv (decide ((s % 7)=4)))] (on 3 (zN h23) (on 3 (zN h39) oz)) ?_
  by_cases h55:(s % 7)=4
  ·refine qR (zP h55)<|qA ?_
   have hpf:=qbm (s:=s) (by omega)
   refine qL qC [.k3,.d,.n,.r] [ps 61 (bv (decide (m=0)))] ?_
   by_cases h56:m=0
   ·refine qR (zP h56)<|qL qC [.k1,.d,.d,.n,.d,.r] [ps 8 (sv (st ([80]:TX)))]<|qY (Wk.eq (show _=[ps 1 (.opt 0 0),ps 8 (sv (st (zW (qW s) m))),pb 0 41 [(iv s),(iv h)]] from by rw [jC (p:=qW s) (m:=m) (VQ (by omega) (hpf)) (by decide)])) ?_
    exact vE hk1
   refine qU (zN h56)<|qA ?_
   by_cases h58:0<m
   ·refine zY qC (gy 3 2++[(5,.yes true)]) [.k3,.d,.n,.r] [ps 67 (bv (decide (m≤6)))] (on 3 (zP h58) oz) ?_
    by_cases h59:m≤6
    ·refine qR (zP h59)<|vK qC 1 [.k1,.d,.d,.n,.d,.r] [ps 8 (sv (st (Lib.repeatL [65] m.toNat)))] (yD 400 (vH 65 m (by omega) (by omega)) oz)<|qY (Wk.eq (show _=[ps 1 (.opt 0 0),ps 8 (sv (st (zW (qW s) m))),pb 0 41 [(iv s),(iv h)]] from by rw [jC (p:=qW s) (m:=m) (q_up (by omega) (by omega)) (by rw [vG];omega)])) ?_
     exact vE hk1
    refine qU (zN h59)<|qA ?_
    by_cases h61:m<0
    ·refine zY qC (gy 3 2++[(5,.yes true)]) [.k3,.d,.n,.r] [ps 75 (bv (decide ((-6)≤m)))] (on 3 (zP h61) oz) ?_
     by_cases h62:(-6)≤m
     ·refine qR (zP h62)<|zY qC [(2,.call [] [(sv (st ([100]:TX))),(iv (0-m))] [] (sv (st (Lib.repeatL [100] (0-m).toNat))) [])] [.k1,.d,.d,.n,.d,.r] [ps 8 (sv (st (Lib.repeatL [100] (0-m).toNat)))] (oi (0-m) (by omega) (yD 456 (vH 100 (0-m) (by omega) (by omega)) oz))<|qY (Wk.eq (show _=[ps 1 (.opt 0 0),ps 8 (sv (st (zW (qW s) m))),pb 0 41 [(iv s),(iv h)]] from by rw [jC (p:=qW s) (m:=m) (q_dn (by omega) (by omega) (hpf)) (by rw [vG];omega)])) ?_
      exact vE hk1
     refine qU (zN h62)<|qF<|qY (Wk.eq (show _=[ps 1 (.opt 0 0),ps 6 (iv m),ps 8 (sv (st (zW (qW s) m))),ps 75 (bv (decide ((-6)≤m))),pb 0 41 [(iv s),(iv h)]] from by rw [wH (p:=qW s) (m:=m) (by have hp:=hpf;first|exact .inl (by omega)|exact .inr (.inl ⟨hp,by omega⟩))])) ?_
     exact vE hk1
    refine zY qC (gn 3 2++[(5,.yes false)]) [.k3,.d,.n,.r] [ps 75 (bv false)] (on 3 (zN h61) oz)<|zk (b:=false) rfl rfl<|qF<|qY (Wk.eq (show _=[ps 1 (.opt 0 0),ps 6 (iv m),ps 8 (sv (st (zW (qW s) m))),ps 75 (bv false),pb 0 41 [(iv s),(iv h)]] from by rw [wH (p:=qW s) (m:=m) (by have hp:=hpf;first|exact .inl (by omega)|exact .inr (.inl ⟨hp,by omega⟩))])) ?_
    exact vE hk1
   refine zY qC (gn 3 2++[(5,.yes false)]) [.k3,.d,.n,.r] [ps 67 (bv false)] (on 3 (zN h58) oz)<|zk (b:=false) rfl rfl<|qA ?_
   by_cases h66:m<0
   ·refine zY qC (gy 3 2++[(5,.yes true)]) [.k3,.d,.n,.r] [ps 75 (bv (decide ((-6)≤m)))] (on 3 (zP h66) oz) ?_
    by_cases h67:(-6)≤m
    ·refine qR (zP h67)<|zY qC [(2,.call [] [(sv (st ([100]:TX))),(iv (0-m))] [] (sv (st (Lib.repeatL [100] (0-m).toNat))) [])] [.k1,.d,.d,.n,.d,.r] [ps 8 (sv (st (Lib.repeatL [100] (0-m).toNat)))] (oi (0-m) (by omega) (yD 456 (vH 100 (0-m) (by omega) (by omega)) oz))<|qY (Wk.eq (show _=[ps 1 (.opt 0 0),ps 8 (sv (st (zW (qW s) m))),pb 0 41 [(iv s),(iv h)]] from by rw [jC (p:=qW s) (m:=m) (q_dn (by omega) (by omega) (hpf)) (by rw [vG];omega)])) ?_
     exact vE hk1
    refine qU (zN h67)<|qF<|qY (Wk.eq (show _=[ps 1 (.opt 0 0),ps 6 (iv m),ps 8 (sv (st (zW (qW s) m))),ps 75 (bv (decide ((-6)≤m))),pb 0 41 [(iv s),(iv h)]] from by rw [wH (p:=qW s) (m:=m) (by have hp:=hpf;first|exact .inl (by omega)|exact .inr (.inl ⟨hp,by omega⟩))])) ?_
    exact vE hk1
   refine zY qC (gn 3 2++[(5,.yes false)]) [.k3,.d,.n,.r] [ps 75 (bv false)] (on 3 (zN h66) oz)<|zk (b:=false) rfl rfl<|qF<|qY (Wk.eq (show _=[ps 1 (.opt 0 0),ps 6 (iv m),ps 8 (sv (st (zW (qW s) m))),ps 75 (bv false),pb 0 41 [(iv s),(iv h)]] from by rw [wH (p:=qW s) (m:=m) (by have hp:=hpf;first|exact .inl (by omega)|exact .inr (.inl ⟨hp,by omega⟩))])) ?_
   exact vE hk1
  refine qU (zN h55)<|qA ?_
  have hpf:=perf_no (s:=s) (by omega)
  refine qL qC [.k3,.d,.n,.r] [ps 80 (bv (decide (m=0)))] ?_
  by_cases h71:m=0
  ·refine qR (zP h71)<|qL qC [.k1,.d,.d,.n,.d,.r] [ps 8 (sv (st ([77]:TX)))]<|qY (Wk.eq (show _=[ps 1 (.opt 0 0),ps 8 (sv (st (zW (qW s) m))),pb 0 41 [(iv s),(iv h)]] from by rw [jC (p:=qW s) (m:=m) (qez (by omega) (hpf)) (by decide)])) ?_
   exact vE hk1
  refine qU (zN h71)<|qA<|qL qC [.k3,.d,.n,.r] [ps 82 (bv (decide (m=(-1))))] ?_
  by_cases h73:m=(-1)
  ·refine qR (zP h73)<|qL qC [.k1,.d,.d,.n,.d,.r] [ps 8 (sv (st ([109]:TX)))]<|qY (Wk.eq (show _=[ps 1 (.opt 0 0),ps 8 (sv (st (zW (qW s) m))),pb 0 41 [(iv s),(iv h)]] from by rw [jC (p:=qW s) (m:=m) (qey (by omega) (hpf)) (by decide)])) ?_
   exact vE hk1
  refine qU (zN h73)<|qA ?_
  by_cases h75:0<m
  ·refine zY qC (gy 3 2++[(5,.yes true)]) [.k3,.d,.n,.r] [ps 88 (bv (decide (m≤6)))] (on 3 (zP h75) oz) ?_
   by_cases h76:m≤6
   ·refine qR (zP h76)<|vK qC 1 [.k1,.d,.d,.n,.d,.r] [ps 8 (sv (st (Lib.repeatL [65] m.toNat)))] (yD 416 (vH 65 m (by omega) (by omega)) oz)<|qY (Wk.eq (show _=[ps 1 (.opt 0 0),ps 8 (sv (st (zW (qW s) m))),pb 0 41 [(iv s),(iv h)]] from by rw [jC (p:=qW s) (m:=m) (q_up (by omega) (by omega)) (by rw [vG];omega)])) ?_
    exact vE hk1
   refine qU (zN h76)<|qA ?_
   by_cases h78:m<(-1)
   ·refine zY qC (gy 3 2++[(5,.yes true)]) [.k3,.d,.n,.r] [ps 96 (bv (decide ((-7)≤m)))] (on 3 (zP h78) oz) ?_
    by_cases h79:(-7)≤m
    ·refine qR (zP h79)<|zY qC [(3,.call [] [(sv (st ([100]:TX))),(iv ((0-m)-1))] [] (sv (st (Lib.repeatL [100] ((0-m)-1).toNat))) [])] [.k1,.d,.d,.n,.d,.r] [ps 8 (sv (st (Lib.repeatL [100] ((0-m)-1).toNat)))] (oi (0-m) (by omega) (oi ((0-m)-1) (by omega) (yD 480 (vH 100 ((0-m)-1) (by omega) (by omega)) oz)))<|qY (Wk.eq (show _=[ps 1 (.opt 0 0),ps 8 (sv (st (zW (qW s) m))),pb 0 41 [(iv s),(iv h)]] from by rw [jC (p:=qW s) (m:=m) (q_dn2 (by omega) (by omega) (hpf)) (by rw [vG];omega)])) ?_
     exact vE hk1
    refine qU (zN h79)<|qF<|qY (Wk.eq (show _=[ps 1 (.opt 0 0),ps 6 (iv m),ps 8 (sv (st (zW (qW s) m))),ps 96 (bv (decide ((-7)≤m))),pb 0 41 [(iv s),(iv h)]] from by rw [wH (p:=qW s) (m:=m) (by have hp:=hpf;first|exact .inl (by omega)|exact .inr (.inr ⟨hp,by omega⟩))])) ?_
    exact vE hk1
   refine zY qC (gn 3 2++[(5,.yes false)]) [.k3,.d,.n,.r] [ps 96 (bv false)] (on 3 (zN h78) oz)<|zk (b:=false) rfl rfl<|qF<|qY (Wk.eq (show _=[ps 1 (.opt 0 0),ps 6 (iv m),ps 8 (sv (st (zW (qW s) m))),ps 96 (bv false),pb 0 41 [(iv s),(iv h)]] from by rw [wH (p:=qW s) (m:=m) (by have hp:=hpf;first|exact .inl (by omega)|exact .inr (.inr ⟨hp,by omega⟩))])) ?_
   exact vE hk1
  refine zY qC (gn 3 2++[(5,.yes false)]) [.k3,.d,.n,.r] [ps 88 (bv false)] (on 3 (zN h75) oz)<|zk (b:=false) rfl rfl<|qA ?_
  by_cases h83:m<(-1)
  ·refine zY qC (gy 3 2++[(5,.yes true)]) [.k3,.d,.n,.r] [ps 96 (bv (decide ((-7)≤m)))] (on 3 (zP h83) oz) ?_
   by_cases h84:(-7)≤m
   ·refine qR (zP h84)<|zY qC [(3,.call [] [(sv (st ([100]:TX))),(iv ((0-m)-1))] [] (sv (st (Lib.repeatL [100] ((0-m)-1).toNat))) [])] [.k1,.d,.d,.n,.d,.r] [ps 8 (sv (st (Lib.repeatL [100] ((0-m)-1).toNat)))] (oi (0-m) (by omega) (oi ((0-m)-1) (by omega) (yD 480 (vH 100 ((0-m)-1) (by omega) (by omega)) oz)))<|qY (Wk.eq (show _=[ps 1 (.opt 0 0),ps 8 (sv (st (zW (qW s) m))),pb 0 41 [(iv s),(iv h)]] from by rw [jC (p:=qW s) (m:=m) (q_dn2 (by omega) (by omega) (hpf)) (by rw [vG];omega)])) ?_
    exact vE hk1
   refine qU (zN h84)<|qF<|qY (Wk.eq (show _=[ps 1 (.opt 0 0),ps 6 (iv m),ps 8 (sv (st (zW (qW s) m))),ps 96 (bv (decide ((-7)≤m))),pb 0 41 [(iv s),(iv h)]] from by rw [wH (p:=qW s) (m:=m) (by have hp:=hpf;first|exact .inl (by omega)|exact .inr (.inr ⟨hp,by omega⟩))])) ?_
   exact vE hk1
  refine zY qC (gn 3 2++[(5,.yes false)]) [.k3,.d,.n,.r] [ps 96 (bv false)] (on 3 (zN h83) oz)<|zk (b:=false) rfl rfl<|qF<|qY (Wk.eq (show _=[ps 1 (.opt 0 0),ps 6 (iv m),ps 8 (sv (st (zW (qW s) m))),ps 96 (bv false),pb 0 41 [(iv s),(iv h)]] from by rw [wH (p:=qW s) (m:=m) (by have hp:=hpf;first|exact .inl (by omega)|exact .inr (.inr ⟨hp,by omega⟩))])) ?_
  exact vE hk1
 refine qR (congrArg Bool.not (Bool.eq_false_iff.2 h1))<|qA<|qk qC [] [ps 2 se,ps 3 (iv 3)] (oz) ?_
 rw [qfo (s:=s) (h:=h) h1]
 exact yA hc0 [2,3] []
theorem qjf (s h:Int) (h0:0≤s) (h1:¬ (s=0∧h<0)):PC Tryz.prog 64 [.agg [iv s,iv h]] [] (.tup [sv (st ((qX s h).1)),iv ((qX s h).2)]) [] :=
 Wy s h fun x y _ _ c=>absurd c (by omega)
theorem VP (s h:Int):PC Tryz.prog 64 [.agg [iv s,iv h]] [] (.tup [sv (st ((qX s h).1)),iv ((qX s h).2)]) [] :=
 Wy s h fun x y a b _=>qjf x y a b
end Go.Proofs.YtmlnilkbolcknaaGreatDoor.Pm
set_option maxRecDepth 100000
set_option maxHeartbeats 4000000
namespace Go.Proofs.YtmlnilkbolcknaaGreatDoor.Pm
open Go Go.Proofs.YtmlnilkbolcknaaGreatDoor.Pi
theorem qbj (l a o:Int):PC Tryz.prog 130 [(.agg [(iv l),(iv a),(iv o)])] [] (.tup [(sv (st ((vv l a o).1))),(iv ((vv l a o).2))]) []:=by
 refine zI Tryz.func130 rfl (by kernel_rfl) (Nat.le_of_ble_eq_true rfl) (by kernel_rfl) (l0:=[ps 0 (.agg [(iv l),(iv a),(iv o)])]) rfl (fun c0 Bor hc0=>?_)
 refine qA<|qk qC [] [ps 1 (.opt 0 0),pb 0 52 [(iv l),(iv a),(iv o)]] (oz)<|qA<|qA<|vK qC 1 [.k1,.n,.r] [ps 7 (bv (!(Pi.rightB l a o)))] (yD 32 (WJ l a o) oz) ?_
 by_cases h1:(Pi.rightB l a o)=true
 ·refine qU (congrArg Bool.not h1)<|qF<|qA ?_
  have hr:=Pi.rightB_iff.1 h1
  have hl1:=qaq l
  have hl2:=jE (o:=o) (by omega) (by omega)
  refine qL qC [.k1,.n,.d,.r] [ps 4 se]<|qA<|qA<|qL qC [.k2,.n,.r] [ps 9 (iv a)]<|qV<|qA<|qL qC [.k3,.n,.r] [ps 10 (bv (decide (a=1)))] ?_
  by_cases h2:a=1
  ·refine qR (zP h2)<|qL qC [.k1,.d,.n,.d,.d,.r] [ps 4 (sv (st ([226,153,175]:TX)))]<|zF<|qA<|wR qC [(5,.val (.av (.string (st ((letB.drop l.toNat).take 1))))),(7,.val (.av (.string (st (((letB.drop l.toNat).take 1)++([226,153,175]:TX)))))),(10,.call [] [(iv o)] [] (sv (st (Lib.itoa o))) []),(11,.val (.av (.string (st ((((letB.drop l.toNat).take 1)++([226,153,175]:TX))++(Lib.itoa o))))))] (bfr [(0,0),(0,1),(0,0),(2,1),(2,2),(0,5),(0,0),(0,7),(0,0),(8,1),(8,2),(0,11),(0,12),(0,13)]) [([44],[2]),([46],[1,44]),([48],[2]),([50],[1,48]),([52],[50]),([54],[46,52]),([56],[8]),([58],[54,56]),([60],[2]),([62],[1,60]),([64],[62]),([66],[58,64]),([4],[66]),([6],[])] [ps 2 (sv (st ((((letB.drop l.toNat).take 1)++([226,153,175]:TX))++(Lib.itoa o)))),ps 3 (iv 0)] (oi (l+1) (by omega) (oc (by first|omega|(simp <;> omega):(0:Int)≤l∧l≤(l+1)∧(l+1)≤((([67,68,69,70,71,65,66]:TX).length:Nat):Int)) (oc (jK (by omega):(st ([67,68,69,70,71,65,66]:TX)).extract (l:Int).toNat ((l+1):Int).toNat=st ((letB.drop l.toNat).take 1)) (oc (by first|omega|(simp <;> omega):((((letB.drop l.toNat).take 1).length+([226,153,175]:TX).length:Nat):Int)≤9223372036854775807) (oc (qK _ _:st ((letB.drop l.toNat).take 1)++st ([226,153,175]:TX)=st (((letB.drop l.toNat).take 1)++([226,153,175]:TX))) (yD 176 (zy o (by omega) (by omega)) (oc (by first|omega|(simp <;> omega):(((((letB.drop l.toNat).take 1)++([226,153,175]:TX)).length+(Lib.itoa o).length:Nat):Int)≤9223372036854775807) (oc (qK _ _:st (((letB.drop l.toNat).take 1)++([226,153,175]:TX))++st (Lib.itoa o)=st ((((letB.drop l.toNat).take 1)++([226,153,175]:TX))++(Lib.itoa o))) oz)))))))) ?_
   rw [vM (l:=l) (a:=a) (o:=o) (S:=([226,153,175]:TX)) h1 (by unfold VJ;simp [*])]
   exact yA hc0 [2,3] []
  refine qU (zN h2)<|qA<|qL qC [.k3,.d,.n,.r] [ps 12 (bv (decide (a=2)))] ?_
  by_cases h3:a=2
  ·refine qR (zP h3)<|qL qC [.k1,.d,.n,.d,.d,.r] [ps 4 (sv (st ([240,157,132,170]:TX)))]<|zF<|qA<|wR qC [(5,.val (.av (.string (st ((letB.drop l.toNat).take 1))))),(7,.val (.av (.string (st (((letB.drop l.toNat).take 1)++([240,157,132,170]:TX)))))),(10,.call [] [(iv o)] [] (sv (st (Lib.itoa o))) []),(11,.val (.av (.string (st ((((letB.drop l.toNat).take 1)++([240,157,132,170]:TX))++(Lib.itoa o))))))] (bfr [(0,0),(0,1),(0,0),(2,1),(2,2),(0,5),(0,0),(0,7),(0,0),(8,1),(8,2),(0,11),(0,12),(0,13)]) [([44],[2]),([46],[1,44]),([48],[2]),([50],[1,48]),([52],[50]),([54],[46,52]),([56],[8]),([58],[54,56]),([60],[2]),([62],[1,60]),([64],[62]),([66],[58,64]),([4],[66]),([6],[])] [ps 2 (sv (st ((((letB.drop l.toNat).take 1)++([240,157,132,170]:TX))++(Lib.itoa o)))),ps 3 (iv 0)] (oi (l+1) (by omega) (oc (by first|omega|(simp <;> omega):(0:Int)≤l∧l≤(l+1)∧(l+1)≤((([67,68,69,70,71,65,66]:TX).length:Nat):Int)) (oc (jK (by omega):(st ([67,68,69,70,71,65,66]:TX)).extract (l:Int).toNat ((l+1):Int).toNat=st ((letB.drop l.toNat).take 1)) (oc (by first|omega|(simp <;> omega):((((letB.drop l.toNat).take 1).length+([240,157,132,170]:TX).length:Nat):Int)≤9223372036854775807) (oc (qK _ _:st ((letB.drop l.toNat).take 1)++st ([240,157,132,170]:TX)=st (((letB.drop l.toNat).take 1)++([240,157,132,170]:TX))) (yD 192 (zy o (by omega) (by omega)) (oc (by first|omega|(simp <;> omega):(((((letB.drop l.toNat).take 1)++([240,157,132,170]:TX)).length+(Lib.itoa o).length:Nat):Int)≤9223372036854775807) (oc (qK _ _:st (((letB.drop l.toNat).take 1)++([240,157,132,170]:TX))++st (Lib.itoa o)=st ((((letB.drop l.toNat).take 1)++([240,157,132,170]:TX))++(Lib.itoa o))) oz)))))))) ?_
   rw [vM (l:=l) (a:=a) (o:=o) (S:=([240,157,132,170]:TX)) h1 (by unfold VJ;simp [*])]
   exact yA hc0 [2,3] []
  refine qU (zN h3)<|qA<|qL qC [.k3,.d,.n,.r] [ps 14 (bv (decide (a=3)))] ?_
  by_cases h4:a=3
  ·refine qR (zP h4)<|qL qC [.k1,.d,.n,.d,.d,.r] [ps 4 (sv (st ([240,157,132,170,226,153,175]:TX)))]<|zF<|qA<|wR qC [(5,.val (.av (.string (st ((letB.drop l.toNat).take 1))))),(7,.val (.av (.string (st (((letB.drop l.toNat).take 1)++([240,157,132,170,226,153,175]:TX)))))),(10,.call [] [(iv o)] [] (sv (st (Lib.itoa o))) []),(11,.val (.av (.string (st ((((letB.drop l.toNat).take 1)++([240,157,132,170,226,153,175]:TX))++(Lib.itoa o))))))] (bfr [(0,0),(0,1),(0,0),(2,1),(2,2),(0,5),(0,0),(0,7),(0,0),(8,1),(8,2),(0,11),(0,12),(0,13)]) [([44],[2]),([46],[1,44]),([48],[2]),([50],[1,48]),([52],[50]),([54],[46,52]),([56],[8]),([58],[54,56]),([60],[2]),([62],[1,60]),([64],[62]),([66],[58,64]),([4],[66]),([6],[])] [ps 2 (sv (st ((((letB.drop l.toNat).take 1)++([240,157,132,170,226,153,175]:TX))++(Lib.itoa o)))),ps 3 (iv 0)] (oi (l+1) (by omega) (oc (by first|omega|(simp <;> omega):(0:Int)≤l∧l≤(l+1)∧(l+1)≤((([67,68,69,70,71,65,66]:TX).length:Nat):Int)) (oc (jK (by omega):(st ([67,68,69,70,71,65,66]:TX)).extract (l:Int).toNat ((l+1):Int).toNat=st ((letB.drop l.toNat).take 1)) (oc (by first|omega|(simp <;> omega):((((letB.drop l.toNat).take 1).length+([240,157,132,170,226,153,175]:TX).length:Nat):Int)≤9223372036854775807) (oc (qK _ _:st ((letB.drop l.toNat).take 1)++st ([240,157,132,170,226,153,175]:TX)=st (((letB.drop l.toNat).take 1)++([240,157,132,170,226,153,175]:TX))) (yD 208 (zy o (by omega) (by omega)) (oc (by first|omega|(simp <;> omega):(((((letB.drop l.toNat).take 1)++([240,157,132,170,226,153,175]:TX)).length+(Lib.itoa o).length:Nat):Int)≤9223372036854775807) (oc (qK _ _:st (((letB.drop l.toNat).take 1)++([240,157,132,170,226,153,175]:TX))++st (Lib.itoa o)=st ((((letB.drop l.toNat).take 1)++([240,157,132,170,226,153,175]:TX))++(Lib.itoa o))) oz)))))))) ?_
   rw [vM (l:=l) (a:=a) (o:=o) (S:=([240,157,132,170,226,153,175]:TX)) h1 (by unfold VJ;simp [*])]
   exact yA hc0 [2,3] []
  refine qU (zN h4)<|qA<|qL qC [.k3,.d,.n,.r] [ps 16 (bv (decide (a=(-1))))] ?_
  by_cases h5:a=(-1)
  ·refine qR (zP h5)<|qL qC [.k1,.d,.n,.d,.d,.r] [ps 4 (sv (st ([226,153,173]:TX)))]<|zF<|qA<|wR qC [(5,.val (.av (.string (st ((letB.drop l.toNat).take 1))))),(7,.val (.av (.string (st (((letB.drop l.toNat).take 1)++([226,153,173]:TX)))))),(10,.call [] [(iv o)] [] (sv (st (Lib.itoa o))) []),(11,.val (.av (.string (st ((((letB.drop l.toNat).take 1)++([226,153,173]:TX))++(Lib.itoa o))))))] (bfr [(0,0),(0,1),(0,0),(2,1),(2,2),(0,5),(0,0),(0,7),(0,0),(8,1),(8,2),(0,11),(0,12),(0,13)]) [([44],[2]),([46],[1,44]),([48],[2]),([50],[1,48]),([52],[50]),([54],[46,52]),([56],[8]),([58],[54,56]),([60],[2]),([62],[1,60]),([64],[62]),([66],[58,64]),([4],[66]),([6],[])] [ps 2 (sv (st ((((letB.drop l.toNat).take 1)++([226,153,173]:TX))++(Lib.itoa o)))),ps 3 (iv 0)] (oi (l+1) (by omega) (oc (by first|omega|(simp <;> omega):(0:Int)≤l∧l≤(l+1)∧(l+1)≤((([67,68,69,70,71,65,66]:TX).length:Nat):Int)) (oc (jK (by omega):(st ([67,68,69,70,71,65,66]:TX)).extract (l:Int).toNat ((l+1):Int).toNat=st ((letB.drop l.toNat).take 1)) (oc (by first|omega|(simp <;> omega):((((letB.drop l.toNat).take 1).length+([226,153,173]:TX).length:Nat):Int)≤9223372036854775807) (oc (qK _ _:st ((letB.drop l.toNat).take 1)++st ([226,153,173]:TX)=st (((letB.drop l.toNat).take 1)++([226,153,173]:TX))) (yD 224 (zy o (by omega) (by omega)) (oc (by first|omega|(simp <;> omega):(((((letB.drop l.toNat).take 1)++([226,153,173]:TX)).length+(Lib.itoa o).length:Nat):Int)≤9223372036854775807) (oc (qK _ _:st (((letB.drop l.toNat).take 1)++([226,153,173]:TX))++st (Lib.itoa o)=st ((((letB.drop l.toNat).take 1)++([226,153,173]:TX))++(Lib.itoa o))) oz)))))))) ?_
   rw [vM (l:=l) (a:=a) (o:=o) (S:=([226,153,173]:TX)) h1 (by unfold VJ;simp [*])]
   exact yA hc0 [2,3] []
  refine qU (zN h5)<|qA<|qL qC [.k3,.d,.n,.r] [ps 18 (bv (decide (a=(-2))))] ?_
  by_cases h6:a=(-2)
  ·refine qR (zP h6)<|qL qC [.k1,.d,.n,.d,.d,.r] [ps 4 (sv (st ([240,157,132,171]:TX)))]<|zF<|qA<|wR qC [(5,.val (.av (.string (st ((letB.drop l.toNat).take 1))))),(7,.val (.av (.string (st (((letB.drop l.toNat).take 1)++([240,157,132,171]:TX)))))),(10,.call [] [(iv o)] [] (sv (st (Lib.itoa o))) []),(11,.val (.av (.string (st ((((letB.drop l.toNat).take 1)++([240,157,132,171]:TX))++(Lib.itoa o))))))] (bfr [(0,0),(0,1),(0,0),(2,1),(2,2),(0,5),(0,0),(0,7),(0,0),(8,1),(8,2),(0,11),(0,12),(0,13)]) [([44],[2]),([46],[1,44]),([48],[2]),([50],[1,48]),([52],[50]),([54],[46,52]),([56],[8]),([58],[54,56]),([60],[2]),([62],[1,60]),([64],[62]),([66],[58,64]),([4],[66]),([6],[])] [ps 2 (sv (st ((((letB.drop l.toNat).take 1)++([240,157,132,171]:TX))++(Lib.itoa o)))),ps 3 (iv 0)] (oi (l+1) (by omega) (oc (by first|omega|(simp <;> omega):(0:Int)≤l∧l≤(l+1)∧(l+1)≤((([67,68,69,70,71,65,66]:TX).length:Nat):Int)) (oc (jK (by omega):(st ([67,68,69,70,71,65,66]:TX)).extract (l:Int).toNat ((l+1):Int).toNat=st ((letB.drop l.toNat).take 1)) (oc (by first|omega|(simp <;> omega):((((letB.drop l.toNat).take 1).length+([240,157,132,171]:TX).length:Nat):Int)≤9223372036854775807) (oc (qK _ _:st ((letB.drop l.toNat).take 1)++st ([240,157,132,171]:TX)=st (((letB.drop l.toNat).take 1)++([240,157,132,171]:TX))) (yD 240 (zy o (by omega) (by omega)) (oc (by first|omega|(simp <;> omega):(((((letB.drop l.toNat).take 1)++([240,157,132,171]:TX)).length+(Lib.itoa o).length:Nat):Int)≤9223372036854775807) (oc (qK _ _:st (((letB.drop l.toNat).take 1)++([240,157,132,171]:TX))++st (Lib.itoa o)=st ((((letB.drop l.toNat).take 1)++([240,157,132,171]:TX))++(Lib.itoa o))) oz)))))))) ?_
   rw [vM (l:=l) (a:=a) (o:=o) (S:=([240,157,132,171]:TX)) h1 (by unfold VJ;simp [*])]
   exact yA hc0 [2,3] []
  refine qU (zN h6)<|qA<|qL qC [.k2,.d,.d,.n,.r] [ps 20 (bv (decide (a=(-3))))] ?_
  by_cases h7:a=(-3)
  ·refine qR (zP h7)<|qL qC [.k1,.d,.n,.d,.r] [ps 4 (sv (st ([240,157,132,171,226,153,173]:TX)))]<|zF<|qA<|wR qC [(5,.val (.av (.string (st ((letB.drop l.toNat).take 1))))),(7,.val (.av (.string (st (((letB.drop l.toNat).take 1)++([240,157,132,171,226,153,173]:TX)))))),(10,.call [] [(iv o)] [] (sv (st (Lib.itoa o))) []),(11,.val (.av (.string (st ((((letB.drop l.toNat).take 1)++([240,157,132,171,226,153,173]:TX))++(Lib.itoa o))))))] (bfr [(0,0),(0,1),(0,0),(2,1),(2,2),(0,5),(0,0),(0,7),(0,0),(8,1),(8,2),(0,11),(0,12),(0,13)]) [([44],[2]),([46],[1,44]),([48],[2]),([50],[1,48]),([52],[50]),([54],[46,52]),([56],[8]),([58],[54,56]),([60],[2]),([62],[1,60]),([64],[62]),([66],[58,64]),([4],[66]),([6],[])] [ps 2 (sv (st ((((letB.drop l.toNat).take 1)++([240,157,132,171,226,153,173]:TX))++(Lib.itoa o)))),ps 3 (iv 0)] (oi (l+1) (by omega) (oc (by first|omega|(simp <;> omega):(0:Int)≤l∧l≤(l+1)∧(l+1)≤((([67,68,69,70,71,65,66]:TX).length:Nat):Int)) (oc (jK (by omega):(st ([67,68,69,70,71,65,66]:TX)).extract (l:Int).toNat ((l+1):Int).toNat=st ((letB.drop l.toNat).take 1)) (oc (by first|omega|(simp <;> omega):((((letB.drop l.toNat).take 1).length+([240,157,132,171,226,153,173]:TX).length:Nat):Int)≤9223372036854775807) (oc (qK _ _:st ((letB.drop l.toNat).take 1)++st ([240,157,132,171,226,153,173]:TX)=st (((letB.drop l.toNat).take 1)++([240,157,132,171,226,153,173]:TX))) (yD 256 (zy o (by omega) (by omega)) (oc (by first|omega|(simp <;> omega):(((((letB.drop l.toNat).take 1)++([240,157,132,171,226,153,173]:TX)).length+(Lib.itoa o).length:Nat):Int)≤9223372036854775807) (oc (qK _ _:st (((letB.drop l.toNat).take 1)++([240,157,132,171,226,153,173]:TX))++st (Lib.itoa o)=st ((((letB.drop l.toNat).take 1)++([240,157,132,171,226,153,173]:TX))++(Lib.itoa o))) oz)))))))) ?_
   rw [vM (l:=l) (a:=a) (o:=o) (S:=([240,157,132,171,226,153,173]:TX)) h1 (by unfold VJ;simp [*])]
   exact yA hc0 [2,3] []
  refine qU (zN h7)<|qF<|zF<|qA<|wR qC [(5,.val (.av (.string (st ((letB.drop l.toNat).take 1))))),(7,.val (.av (.string (st (((letB.drop l.toNat).take 1)++([]:TX)))))),(10,.call [] [(iv o)] [] (sv (st (Lib.itoa o))) []),(11,.val (.av (.string (st ((((letB.drop l.toNat).take 1)++([]:TX))++(Lib.itoa o))))))] (bfr [(0,0),(0,1),(0,0),(2,1),(2,2),(0,5),(0,0),(0,7),(0,0),(8,1),(8,2),(0,11),(0,12),(0,13)]) [([44],[2]),([46],[1,44]),([48],[2]),([50],[1,48]),([52],[50]),([54],[46,52]),([56],[8]),([58],[54,56]),([60],[2]),([62],[1,60]),([64],[62]),([66],[58,64]),([4],[66]),([6],[])] [ps 2 (sv (st ((((letB.drop l.toNat).take 1)++([]:TX))++(Lib.itoa o)))),ps 3 (iv 0)] (oi (l+1) (by omega) (oc (by first|omega|(simp <;> omega):(0:Int)≤l∧l≤(l+1)∧(l+1)≤((([67,68,69,70,71,65,66]:TX).length:Nat):Int)) (oc (jK (by omega):(st ([67,68,69,70,71,65,66]:TX)).extract (l:Int).toNat ((l+1):Int).toNat=st ((letB.drop l.toNat).take 1)) (oc (by first|omega|(simp <;> omega):((((letB.drop l.toNat).take 1).length+([]:TX).length:Nat):Int)≤9223372036854775807) (oc (qK _ _:st ((letB.drop l.toNat).take 1)++st ([]:TX)=st (((letB.drop l.toNat).take 1)++([]:TX))) (yD 248 (zy o (by omega) (by omega)) (oc (by first|omega|(simp <;> omega):(((((letB.drop l.toNat).take 1)++([]:TX)).length+(Lib.itoa o).length:Nat):Int)≤9223372036854775807) (oc (qK _ _:st (((letB.drop l.toNat).take 1)++([]:TX))++st (Lib.itoa o)=st ((((letB.drop l.toNat).take 1)++([]:TX))++(Lib.itoa o))) oz)))))))) ?_
  rw [vM (l:=l) (a:=a) (o:=o) (S:=([]:TX)) h1 (by unfold VJ;simp [*])]
  exact yA hc0 [2,3] []
 refine qR (congrArg Bool.not (Bool.eq_false_iff.2 h1))<|qA<|qk qC [] [ps 2 se,ps 3 (iv 2)] (oz) ?_
 rw [qhi (l:=l) (a:=a) (o:=o) h1]
 exact yA hc0 [2,3] []
end Go.Proofs.YtmlnilkbolcknaaGreatDoor.Pm
namespace Go.Proofs
open Go.Shelf
def Tryz.lays195_ren:Go.Shelf.Ren:=⟨fun|195=>119|n=>n,fun|9=>9|3=>3|0=>0|4=>4|n=>n,fun|n=>n⟩
theorem Tryz.lays195:Go.Proofs.Lays.n195 Tryz.prog Tryz.lays195_ren:={
  mixed:=by kernel_rfl,
  f195:=Tryz.func119.trans (congrArg some (by kernel_rfl)),
  t0:=Tryz.underlying0,
  a0:=Tryz.isAgg0,
  z0:=Tryz.sizeOf0,
  v0:=Tryz.zeroValue0,
  t3:=Tryz.underlying3,
  a3:=Tryz.isAgg3,
  z3:=Tryz.sizeOf3,
  v3:=Tryz.zeroValue3,
  t4:=Tryz.underlying4,
  a4:=Tryz.isAgg4,
  z4:=Tryz.sizeOf4,
  v4:=Tryz.zeroValue4,
  t9:=Tryz.underlying9,
  a9:=Tryz.isAgg9,
  z9:=Tryz.sizeOf9,
  v9:=Tryz.zeroValue9 }
end Go.Proofs
namespace Go.Proofs.YtmlnilkbolcknaaGreatDoor.Pm
open Go Go.RowKit
theorem runes_pc (s:List UInt8) (hs:s.length<9223372036854775807):PC Tryz.prog 119 [sv (st s)] [] (iv (ZX s:Nat)) [] :=
 vD (wG Tryz.func119 (by kernel_rfl) (by kernel_rfl)) rfl rfl fun w=>(Any.utf8_RuneCountInString Tryz.lays195 (st s) w hs).mono fun e w' ⟨h1,pos,h2⟩=>⟨h1,h2▸(Below.refl _ _).alloc (Nat.le_refl _) _⟩
end Go.Proofs.YtmlnilkbolcknaaGreatDoor.Pm
set_option maxRecDepth 100000
set_option maxHeartbeats 4000000
namespace Go.Proofs.YtmlnilkbolcknaaGreatDoor.Pm
open Go Go.Proofs.YtmlnilkbolcknaaGreatDoor.Pi
theorem vname_pc (s:List UInt8) (hs:s.length≤9223372036854775807):PC Tryz.prog 23 [(sv (st s))] [] (bv (wV s)) []:=by
 refine zI Tryz.func23 rfl (by kernel_rfl) (Nat.le_of_ble_eq_true rfl) (by kernel_rfl) (l0:=[ps 0 (sv (st s))]) rfl (fun c0 Bor hc0=>?_)
 refine qA<|qL qC [.r] []<|qA ?_
 by_cases h1:s=([]:TX)
 ·refine qk qC ([(1,.val (.av (.bool (!decide (s=([]:TX))))))]++gn 3 3++[(6,.yes false)]++gn 8 3) [ps 2 (bv false)] (oc (jB _ _:(!((st s).toList == (st ([]:TX)).toList)) = !decide (s=([]:TX))) (on 4 (bt h1) (on 3 ff oz))) ?_
  rw [show wV s=false from by unfold wV;rw [Bool.eq_iff_iff];simp only [← qei,decide_eq_true_eq,reduceCtorEq];constructor <;> intro hh <;> simp_all <;> omega]
  exact yA hc0 [2] []
 by_cases h2:(s.length:Int)≤32
 ·refine qk qC ([(1,.val (.av (.bool (!decide (s=([]:TX))))))]++gy 3 3++[(6,.yes true),(8,.gd true .no),(9,.gd true (.call [] [(sv (st s)),(sv (st ([97,98,99,100,101,102,103,104,105,106,107,108,109,110,111,112,113,114,115,116,117,118,119,120,121,122]:TX)))] [] (sv (st (Lib.trimS s abc))) [])),(10,.gd true (.val (.av (.bool (decide ((Lib.trimS s abc)=([]:TX))))))),(11,.yes true)]) [ps 2 (bv (decide ((Lib.trimS s abc)=([]:TX))))] (oc (jB _ _:(!((st s).toList == (st ([]:TX)).toList)) = !decide (s=([]:TX))) (on 4 (bf h1) (on 2 (zP h2) (yD 80 (trim_pc s abc hs (by decide) abc_ascii) (oc (zP h2) (oc (QV _ _:((st (Lib.trimS s abc)).toList == (st ([]:TX)).toList)=decide ((Lib.trimS s abc)=([]:TX))) (oc (zP h2) oz))))))) ?_
  rw [show wV s=(decide ((Lib.trimS s abc)=([]:TX))) from by unfold wV;rw [Bool.eq_iff_iff];simp only [← qei,decide_eq_true_eq,reduceCtorEq];constructor <;> intro hh <;> simp_all <;> omega]
  exact yA hc0 [2] []
 refine qk qC ([(1,.val (.av (.bool (!decide (s=([]:TX))))))]++gy 3 3++[(6,.yes true)]++gn 8 3++[(11,.yes false)]) [ps 2 (bv false)] (oc (jB _ _:(!((st s).toList == (st ([]:TX)).toList)) = !decide (s=([]:TX))) (on 4 (bf h1) (on 4 (zN h2) oz))) ?_
 rw [show wV s=false from by unfold wV;rw [Bool.eq_iff_iff];simp only [← qei,decide_eq_true_eq,reduceCtorEq];constructor <;> intro hh <;> simp_all <;> omega]
 exact yA hc0 [2] []
theorem fair_pc (r l:Int):PC Tryz.prog 120 [(.av (.int .i32 r)),(iv l)] [] (bv (wS r l)) []:=by
 refine zI Tryz.func120 rfl (by kernel_rfl) (Nat.le_of_ble_eq_true rfl) (by kernel_rfl) (l0:=[ps 0 (.av (.int .i32 r)),ps 1 (iv l)]) rfl (fun c0 Bor hc0=>?_)
 refine qA<|qL qC [.r] []<|qA ?_
 by_cases h1:32≤r
 ·by_cases h2:r=34
  ·refine qk qC (gy 3 2++[(5,.yes true)]++gn 7 2++[(9,.yes false)]++gn 11 3++[(16,.gd false .no)]) [ps 4 (bv false)] (on 3 (zP h1) (on 3 (bt h2) (on 4 ff oz))) ?_
   rw [show wS r l=false from by unfold wS;rw [Bool.eq_iff_iff];simp only [decide_eq_true_eq];constructor <;> intro hh <;> first|trivial|rfl|omega|(cases hh;done)]
   exact yA hc0 [4] []
  by_cases h3:r=127
  ·refine qk qC (gy 3 2++[(5,.yes true)]++gy 7 2++[(9,.yes true)]++gn 11 3++[(16,.gd false .no),(17,.yes false)]) [ps 4 (bv false)] (on 3 (zP h1) (on 3 (bf h2) (on 5 (bt h3) oz))) ?_
   rw [show wS r l=false from by unfold wS;rw [Bool.eq_iff_iff];simp only [decide_eq_true_eq];constructor <;> intro hh <;> first|trivial|rfl|omega|(cases hh;done)]
   exact yA hc0 [4] []
  by_cases h4:r=65533
  ·refine qk qC (gy 3 2++[(5,.yes true)]++gy 7 2++[(9,.yes true)]++gy 11 3++gn 14 2++[(16,.gd true (.yes false)),(17,.yes true)]) [ps 4 (bv (decide (1<l)))] (on 3 (zP h1) (on 3 (bf h2) (on 3 (bf h3) (on 2 (bt h4) (oc (bf h3) (oc (bt h4) (oc (bf h3) oz))))))) ?_
   rw [show wS r l=(decide (1<l)) from by unfold wS;rw [Bool.eq_iff_iff];simp only [decide_eq_true_eq];constructor <;> intro hh <;> first|trivial|rfl|omega|(cases hh;done)]
   exact yA hc0 [4] []
  refine qk qC (gy 3 2++[(5,.yes true)]++gy 7 2++[(9,.yes true)]++gy 11 5++[(16,.gd true (.yes true)),(17,.yes true)]) [ps 4 (bv true)] (on 3 (zP h1) (on 3 (bf h2) (on 3 (bf h3) (on 2 (bf h4) (oc (bf h3) (oc (bf h4) (oc (bf h3) oz))))))) ?_
  rw [show wS r l=true from by unfold wS;rw [Bool.eq_iff_iff];simp only [decide_eq_true_eq];constructor <;> intro hh <;> first|trivial|rfl|omega|(cases hh;done)]
  exact yA hc0 [4] []
 refine qk qC (gn 3 2++[(5,.yes false)]++gn 7 2++gn 11 3++[(16,.gd false .no)]) [ps 4 (bv false)] (on 3 (zN h1) (on 6 ff oz)) ?_
 rw [show wS r l=false from by unfold wS;rw [Bool.eq_iff_iff];simp only [decide_eq_true_eq];constructor <;> intro hh <;> first|trivial|rfl|omega|(cases hh;done)]
 exact yA hc0 [4] []
end Go.Proofs.YtmlnilkbolcknaaGreatDoor.Pm
namespace Go.Proofs.YtmlnilkbolcknaaGreatDoor.Pm
open Go Go.Proofs.YtmlnilkbolcknaaGreatDoor.Pi
theorem pc_yes {P:Program} {f:FuncId} {args:List PV} {H H1 H2:Hp} {r1 r2:PV} {c:Prop} [Decidable c] (h:PC P f args H (if c then r1 else r2) (if c then H1 else H2)) (hc:c):PC P f args H r1 H1:=by rwa [if_pos hc,if_pos hc] at h
theorem le_if {α:Type} {c:Prop} [Decidable c] {n:Nat} {A B:List α} (h1:n≤A.length) (h2:n≤B.length):n≤(if c then A else B).length:=by split <;> assumption
theorem pc_no {P:Program} {f:FuncId} {args:List PV} {H H1 H2:Hp} {r1 r2:PV} {c:Prop} [Decidable c] (h:PC P f args H (if c then r1 else r2) (if c then H1 else H2)) (hc:¬ c):PC P f args H r2 H2:=by rwa [if_neg hc,if_neg hc] at h
/-! ### the loops of an item -/
section
end
section
end
end Go.Proofs.YtmlnilkbolcknaaGreatDoor.Pm
namespace Go.Proofs.YtmlnilkbolcknaaGreatDoor.Pm
open Go Go.Proofs.YtmlnilkbolcknaaGreatDoor.Pi
section
end
end Go.Proofs.YtmlnilkbolcknaaGreatDoor.Pm
namespace Go.Proofs.YtmlnilkbolcknaaGreatDoor.Pm
open Go
theorem Heap.bare {E:Env} {nx:Nat→Prop} {c:Cx} {g:St} (h:Heap E nx c g) {k:Nat} (hk:∀ i x,E.c0.own i=some x→i<k):Heap E (· < k) ⟨c.w,c.S,E.c0.own⟩ (fun _=>none) :=
 { ids:=hk,blk:=fun i T cs h=>(by cases h),inj:=fun i j b T T' ⟨_,_,h⟩=>(by cases h),apart:=fun i b T ⟨_,_,h⟩=>(by cases h),bnd:=fun i b T hx=>h.bnd i b T (h.keep.own i _ hx),sok:=h.sok,os:=h.os,tape:=h.tape,output:=h.output,size:=h.size,same:=h.same,laid:=h.laid,s0:=h.s0,s1:=h.s1,keep:=⟨h.keep.S,fun _ _ h=>h,h.keep.shape⟩ }
section
end
end Go.Proofs.YtmlnilkbolcknaaGreatDoor.Pm
namespace Go.Proofs.YtmlnilkbolcknaaGreatDoor.Pm
open Go Go.Proofs.YtmlnilkbolcknaaGreatDoor.Pi
section
end
theorem abc_b {b:UInt8}:b∈abc↔¬ (((b.toNat:Nat):Int)<97∨122<(b.toNat:Int)):=by
 have h:∀ n:Fin 256,(UInt8.ofNat n.1∈abc↔¬ ((((UInt8.ofNat n.1).toNat:Nat):Int)<97∨122<(((UInt8.ofNat n.1).toNat:Nat):Int))):=by decide +kernel
 have:=h ⟨b.toNat,b.toNat_lt⟩
 simpa using this
theorem name_no {s:qQ} {i:Nat} (hi:i<s.length) (h:((((s.getD i 0).toNat:Nat)):Int)<97∨122<((((s.getD i 0).toNat:Nat)):Int)):wV s=false:=by
 unfold wV
 refine decide_eq_false fun c=>?_
 have:=c.2.2 (s.getD i 0) (get_mem hi)
 rw [abc_b] at this
 exact this h
theorem name_is {s:qQ} (h:∀ j,j<s.length→¬ (((((s.getD j 0).toNat:Nat)):Int)<97∨122<((((s.getD j 0).toNat:Nat)):Int))):wV s=decide (0<s.length∧s.length≤32):=by
 unfold wV
 rw [Bool.eq_iff_iff,decide_eq_true_eq,decide_eq_true_eq]
 constructor
 ·rintro ⟨h1,h2,_⟩
  exact ⟨List.length_pos_iff.2 h1,h2⟩
 ·rintro ⟨h1,h2⟩
  refine ⟨List.length_pos_iff.1 h1,h2,fun b hb=>?_⟩
  obtain ⟨j,hj,rfl⟩:=List.mem_iff_getElem.1 hb
  have:=h j hj
  rw [List.getD_eq_getElem?_getD,List.getElem?_eq_getElem hj,Option.getD_some] at this
  exact abc_b.2 this
/-! ### where a text is wrong lies inside it -/
set_option maxRecDepth 100000
set_option maxHeartbeats 4000000
theorem qname_pc (s:qQ) (hs:s.length≤140737488351232):PC Tryz.prog 25 [(sv (st s))] [] (bv (wV s)) []:=by
 refine zI Tryz.func25 rfl (by kernel_rfl) (Nat.le_of_ble_eq_true rfl) (by kernel_rfl) (l0:=[ps 0 (sv (st s))]) rfl (fun c0 Bor hc0=>?_)
 refine qA<|qL qC [.r] []<|qA<|qA<|qL qC [.k1,.n] [ps 3 (iv 0)]<|qV<|yC (α:={x:Nat // x≤s.length∧(∀ j,j<x→¬ (((((s.getD j 0).toNat:Nat)):Int)<97∨122<((((s.getD j 0).toNat:Nat)):Int)))}) (fun x=>[ps 0 (sv (st s)),ps 3 (nv x.1)]) (fun x=>s.length-x.1) 0 ⟨0,⟨Nat.zero_le _,fun j hj=>absurd hj (Nat.not_lt_zero j)⟩⟩ (Wk.ren2 _ 0 hc0 [] rfl rfl (by kernel_rfl) (by kernel_rfl)) ?_
 rintro ⟨i,⟨hi,hno⟩⟩
 refine qA<|qA<|qk qC [] [ps 0 (sv (st s)),ps 3 (nv i),ps 7 (bv (decide (((i:Nat):Int)<(s.length:Int))))] (oz) ?_
 by_cases h1:(i:Int)<(s.length:Int)
 ·refine qR (zP h1)<|qF<|qA<|qV<|qA ?_
  by_cases h2:(((s.getD i 0).toNat:Nat):Int)<97
  ·refine zY qC (gy 5 4++[(9,.yes true)]) [.k2,.d,.n] [ps 19 (bv true)] (oc (by first|omega|(simp <;> omega):(0:Int)≤(i:Int)∧(i:Int)<(s.length:Int)) (on 5 (zP h2) oz))<|yK (b:=true) rfl rfl<|qA<|qk qC [] [ps 2 (bv false)] (oz) ?_
   rw [name_no (s:=s) (i:=i) (by omega) (by omega)]
   exact zj fun cx_ a_ hI_=>qy (rt hc0 [ps 2 (bv false)] [] hI_)
  refine zY qC (gn 5 4++[(9,.yes false)]) [.k2,.d,.n] [ps 19 (bv (decide (122<(((s.getD i 0).toNat:Nat):Int))))] (oc (by first|omega|(simp <;> omega):(0:Int)≤(i:Int)∧(i:Int)<(s.length:Int)) (on 3 (zN h2) (oc (by first|omega|(simp <;> omega):(0:Int)≤(i:Int)∧(i:Int)<(s.length:Int)) (on 2 (zN h2) oz)))) ?_
  by_cases h3:122<(((s.getD i 0).toNat:Nat):Int)
  ·refine qR (zP h3)<|qA<|qk qC [] [ps 2 (bv false)] (oz) ?_
   rw [name_no (s:=s) (i:=i) (by omega) (by omega)]
   exact zj fun cx_ a_ hI_=>qy (rt hc0 [ps 2 (bv false)] [] hI_)
  refine qU (zN h3)<|qF<|zF<|qk qC [] [ps 0 (sv (st s)),ps 3 (iv (((i:Nat):Int)+1))] (oi (((i:Nat):Int)+1) (by omega) oz) ?_
  exact zR ⟨i+1,⟨by show i+1≤s.length;omega,fun j hj=>(Nat.lt_or_ge j i).elim (hno j) fun hji=>by rw [show j=i by omega];omega⟩⟩ (Wk.trans (Wk.eq (show _=[ps 0 (sv (st s)),ps 3 (nv (i+1))] from by rfl)) (Wk.ren2 _ 0 hc0 [] rfl rfl (by kernel_rfl) (by kernel_rfl))) (show s.length-(i+1)<s.length-i from by show s.length-(i+1)<s.length-i;omega)
 refine qU (zN h1)<|zS rfl rfl<|qA ?_
 by_cases h4:0<(s.length:Int)
 ·refine qk qC (gy 4 3++[(7,.yes true)]) [ps 2 (bv (decide (((s.length:Nat):Int)≤32)))] (on 4 (zP h4) oz) ?_
  rw [name_is (s:=s) fun j hj=>hno j (by omega),show decide (0<s.length∧s.length≤32)=(decide (((s.length:Nat):Int)≤32)) from by rw [Bool.eq_iff_iff];simp only [decide_eq_true_eq];omega]
  exact yA hc0 [2] []
 refine qk qC (gn 4 3++[(7,.yes false)]) [ps 2 (bv false)] (on 4 (zN h4) oz) ?_
 rw [name_is (s:=s) fun j hj=>hno j (by omega),show decide (0<s.length∧s.length≤32)=false from zN (by omega)]
 exact yA hc0 [2] []
theorem sung_pc (s:List UInt8) (hs:s.length≤140737488351232):PC Tryz.prog 90 [(sv (st s))] [] (bv (vj s)) []:=by
 refine zI Tryz.func90 rfl (by kernel_rfl) (Nat.le_of_ble_eq_true rfl) (by kernel_rfl) (l0:=[ps 0 (sv (st s))]) rfl (fun c0 Bor hc0=>?_)
 refine qA<|qL qC [.r] []<|qA<|qA<|vK qC 1 [.k1,.n] [ps 3 (nv (ZX s))] (yD 16 (runes_pc s (by omega)) oz)<|qA ?_
 by_cases h1:(ZX s:Int)<1
 ·refine zY qC (gy 3 2++[(5,.yes true)]) [.k1,.d,.n] [ps 13 (bv true)] (on 3 (zP h1) oz)<|yK (b:=true) rfl rfl<|qA<|qk qC [] [ps 2 (bv false)] (oz) ?_
  rw [show vj s=false from by unfold vj;rw [zN (by omega),Bool.false_and]]
  exact yA hc0 [2] []
 refine zY qC (gn 3 2++[(5,.yes false)]) [.k1,.d,.n] [ps 13 (bv (decide (100<(ZX s:Int))))] (on 3 (zN h1) oz) ?_
 by_cases h2:100<(ZX s:Int)
 ·refine qR (zP h2)<|qA<|qk qC [] [ps 2 (bv false)] (oz) ?_
  rw [show vj s=false from by unfold vj;rw [zN (by omega),Bool.false_and]]
  exact yA hc0 [2] []
 refine qU (zN h2)<|qF<|qA<|qV<|yC (α:={x:List UInt8 // x.length≤s.length∧vN x=vN s}) (fun x=>[ps 0 (sv (st x.1))]) (fun x=>x.1.length) 0 ⟨s,⟨Nat.le_refl _,rfl⟩⟩ (Wk.ren2 _ 0 hc0 [] rfl rfl (by kernel_rfl) (by kernel_rfl)) ?_
 rintro ⟨t,⟨ht1,ht2⟩⟩
 refine qA<|qA<|qk qC [(1,.val (.av (.bool (!decide (t=([]:TX))))))] [ps 0 (sv (st t)),ps 15 (bv (!(decide (t=([]:TX)))))] (oc (jB _ _:(!((st t).toList == (st ([]:TX)).toList)) = !decide (t=([]:TX))) oz) ?_
 by_cases h3:t=([]:TX)
 ·refine qU (bt h3)<|zS rfl rfl<|qA<|qk qC [] [ps 2 (bv true)] (oz) ?_
  rw [show vj s=true from by unfold vj;rw [← ht2,h3,qdm,Bool.and_true,decide_eq_true_eq];omega]
  exact yA hc0 [2] []
 refine qR (bf h3)<|qF<|qV<|qA ?_
 have hdl:=qki t
 refine ZF qC 1 [ps 0 (sv (st t)),ps 4 (.av (.int .i32 (QQ t:Int))),ps 5 (nv (vL t))] (yD 24 (decode_pc t) oz)<|qA<|qA<|vK qC 2 [.k1,.d,.k1,.n] [ps 24 (bv (!(wS (QQ t:Int) (vL t:Int))))] (yD 88 (fair_pc _ _:PC Tryz.prog 120 [(.av (.int .i32 (QQ t:Int))),(nv (vL t))] [] (bv (wS (QQ t:Int) (vL t:Int))) []) oz) ?_
 by_cases h4:(wS (QQ t:Int) (vL t:Int))=true
 ·refine qU (congrArg Bool.not h4)<|qF<|qk qC [(2,.val (.av (.string (st (t.drop (vL t))))))] [ps 0 (sv (st (t.drop (vL t))))] (oc (by first|omega|(simp <;> omega):(0:Int)≤(vL t:Int)∧(vL t:Int)≤(t.length:Int)∧(t.length:Int)≤(t.length:Int)) (oc (st_from _ _ _ rfl:(st t).extract (((vL t:Nat):Int):Int).toNat (((t.length:Nat):Int):Int).toNat=st (t.drop (vL t))) oz))<|zF ?_
  have hfa:=Qz (s:=t) h3
  rw [h4,Bool.true_and] at hfa
  have hdp:=Zk (l:=t) h3
  exact zR ⟨t.drop (vL t),⟨by rw [List.length_drop];omega,by rw [← hfa];exact ht2⟩⟩ (Wk.trans (Wk.eq (show _=[ps 0 (sv (st (t.drop (vL t))))] from by rfl)) (Wk.ren2 _ 0 hc0 [] rfl rfl (by kernel_rfl) (by kernel_rfl))) (show (t.drop (vL t)).length<t.length from by show (t.drop (vL t)).length<t.length;rw [List.length_drop];omega)
 refine qR (congrArg Bool.not (Bool.eq_false_iff.2 h4))<|qA<|qk qC [] [ps 2 (bv false)] (oz) ?_
 rw [show vj s=false from by unfold vj;rw [← ht2,Qz (s:=t) h3,eq_false_of_ne_true h4,Bool.false_and,Bool.and_false]]
 exact zj fun cx_ a_ hI_=>qy (rt hc0 [ps 2 (bv false)] [] hI_)
theorem wZ (s:Int) (hs:0≤s):PC Tryz.prog 125 [(iv s)] [] (bv (qW s)) []:=by
 refine zI Tryz.func125 rfl (by kernel_rfl) (Nat.le_of_ble_eq_true rfl) (by kernel_rfl) (l0:=[ps 0 (iv s)]) rfl (fun c0 Bor hc0=>?_)
 refine qA<|qL qC [.r] []<|qA<|qk qC [] [ps 3 (iv ((s).tmod 7))] (oc (by decide:7≠(0:Int)) oz)<|qA<|qY (Wk.eq (show _=[ps 3 (iv (s % 7))] from by rw [Int.tmod_eq_emod_of_nonneg hs])) ?_
 by_cases h1:(s % 7)=0
 ·refine qk qC (gy 3 2++[(5,.yes true)]++gy 7 2) [ps 2 (bv true)] (on 3 (zP h1) (on 2 tt oz)) ?_
  rw [show qW s=true from zP (by omega)]
  exact yA hc0 [2] []
 by_cases h2:(s % 7)=3
 ·refine qk qC (gn 3 2++[(5,.yes false)]++gy 7 2++[(9,.yes true)]) [ps 2 (bv true)] (on 3 (zN h1) (on 3 (zP h2) oz)) ?_
  rw [show qW s=true from zP (by omega)]
  exact yA hc0 [2] []
 refine qk qC (gn 3 2++[(5,.yes false)]++gn 7 2++[(9,.yes false)]) [ps 2 (bv (decide ((s % 7)=4)))] (on 3 (zN h1) (on 3 (zN h2) oz))<|qY (Wk.eq (show _=[ps 2 (bv (qW s))] from by rw [show decide ((s % 7)=4)=qW s from decide_eq_decide.2 (by omega)])) ?_
 exact yA hc0 [2] []
theorem qjq (s h:Int) (i1:Pi.I64 s) (i2:Pi.I64 h):PC Tryz.prog 91 [(.agg [(iv s),(iv h)])] [] (.tup [(sv (st ((qX s h).1))),(iv ((qX s h).2))]) []:=by
 refine zI Tryz.func91 rfl (by kernel_rfl) (Nat.le_of_ble_eq_true rfl) (by kernel_rfl) (l0:=[ps 0 (.agg [(iv s),(iv h)])]) rfl (fun c0 Bor hc0=>?_)
 refine qA<|qk qC [] [ps 1 (.opt 0 0),pb 0 41 [(iv s),(iv h)]] (oz)<|qA<|qA<|vK qC 1 [.k1,.n,.r] [ps 11 (bv (!(Pi.withinB s h)))] (yD 32 (qfa s h i1 i2) oz) ?_
 by_cases h1:(Pi.withinB s h)=true
 ·refine qU (congrArg Bool.not h1)<|qF<|qA<|qL qC [.k1,.n,.d,.r] [ps 4 se]<|qA<|qA ?_
  have hw:=Pi.withinB_iff.1 h1
  by_cases h2:s<0
  ·refine zY qC (gy 4 4++[(11,.gd true .no),(12,.yes true)]) [.k2,.n,.r] [ps 24 (bv true)] (on 6 (zP h2) oz)<|yK (b:=true) rfl rfl<|qA<|qL qC [.k1,.d,.n,.d,.r] [ps 4 (sv (st ([45]:TX)))]<|zY qC [] [.k2,.d,.n] [pb 0 41 [(iv (0-s)),(iv (0-h))]] (oi (0-s) (by omega) (oi (0-h) (by omega) oz))<|qA ?_
   obtain ⟨x,hx⟩:∃ x,x=0-s:=⟨_,rfl⟩
   obtain ⟨y,hy⟩:∃ y,y=0-h:=⟨_,rfl⟩
   refine qY (Wk.eq (show _=[ps 1 (.opt 0 0),ps 4 (sv (st ([45]:TX))),pb 0 41 [(iv x),(iv y)]] from by rw [hx,hy])) ?_
   have hnb:=Pi.nat7_range (x % 7)
   have hl2:=jE (o:=x+1) (by omega) (by omega)
   refine vK qC 2 [.k2,.n,.n,.r] [ps 5 (iv (x / 7)),ps 6 (iv (x % 7))] (yD 264 (ZZ x (by omega) (by omega)) oz)<|qA<|QK qC [(6,.call [] [(iv (x % 7))] [] (iv (Pi.nat7 (x % 7))) [])] (bfr [(0,0),(0,1),(0,0),(2,1),(0,4),(0,0),(5,1),(0,7),(0,8)]) [([78],[2]),([80],[1,78]),([82],[10]),([84],[82]),([86],[80,84]),([88],[12]),([90],[88]),([92],[86,90]),([14],[92])] [.k2,.d,.d,.n,.r] [ps 7 (iv ((y-(12*(x / 7)))-(Pi.nat7 (x % 7))))] (oi (12*(x / 7)) (by omega) (oi (y-(12*(x / 7))) (by omega) (yD 360 (YH (x % 7)) (oi ((y-(12*(x / 7)))-(Pi.nat7 (x % 7))) (by omega) oz))))<|qA ?_
   obtain ⟨m,hm⟩:∃ m,m=vq x y:=⟨_,rfl⟩
   have hmb : -9000≤m∧m≤9000:=by rw [hm];unfold vq;omega
   refine qY (Wk.eq (show _=[ps 1 (.opt 0 0),ps 4 (sv (st ([45]:TX))),ps 7 (iv m),pb 0 41 [(iv x),(iv y)]] from by rw [hm];rfl)) ?_
   refine qL qC [.r] []<|qA<|qV<|qA<|qL qC [.k3,.n,.r] [ps 52 (bv (decide (0<m)))] ?_
   by_cases h3:0<m
   ·refine qR (zP h3)<|zY qC [(2,.call [] [(sv (st ([65]:TX))),(nv ((min m 7).toNat))] [] (sv (st (Lib.repeatL ([65]:TX) ((min m 7).toNat)))) [])] [.k2,.d,.n,.d,.r] [ps 8 (sv (st (Lib.repeatL ([65]:TX) ((min m 7).toNat))))] (oc (wA ([65]:TX) ((min m 7).toNat) (by omega) (by simp only [List.length_cons,List.length_nil];omega)) (oc (congrArg (fun z=>[(sv (st ([65]:TX))),iv z]) (show min m 7=(((min m 7).toNat:Nat):Int) from by omega):[(sv (st ([65]:TX))),(iv (min m 7))]=qN (qZ [] 432) [(sv (st ([65]:TX))),(nv ((min m 7).toNat))]) oz)) ?_
    refine zF<|qA<|qA<|qL qC [.k3,.n,.r] [ps 82 (bv (decide (6<(((Lib.repeatL ([65]:TX) ((min m 7).toNat)).length:Nat):Int))))] ?_
    by_cases h4:6<(((Lib.repeatL ([65]:TX) ((min m 7).toNat)).length:Nat):Int)
    ·refine qR (zP h4)<|qA<|qk qC [] [ps 2 se,ps 3 (iv 3)] (oz) ?_
     rw [yY (s:=s) (h:=h) h1 (.inl h2) (Eq.trans (by rw [← hx,← hy]) (vU (by rw [← hm];exact (QA h3)) h4))]
     exact yA hc0 [2,3] []
    refine qU (zN h4)<|qF<|qA<|qk qC [(2,.val (.av (.string (st (([45]:TX)++(Lib.repeatL ([65]:TX) ((min m 7).toNat))))))),(6,.call [] [(iv (x+1))] [] (sv (st (Lib.itoa (x+1)))) []),(7,.val (.av (.string (st ((([45]:TX)++(Lib.repeatL ([65]:TX) ((min m 7).toNat)))++(Lib.itoa (x+1)))))))] [ps 2 (sv (st ((([45]:TX)++(Lib.repeatL ([65]:TX) ((min m 7).toNat)))++(Lib.itoa (x+1))))),ps 3 (iv 0)] (oc (by first|omega|(simp <;> omega):((([45]:TX).length+(Lib.repeatL ([65]:TX) ((min m 7).toNat)).length:Nat):Int)≤9223372036854775807) (oc (qK _ _:st ([45]:TX)++st (Lib.repeatL ([65]:TX) ((min m 7).toNat))=st (([45]:TX)++(Lib.repeatL ([65]:TX) ((min m 7).toNat)))) (oi (x+1) (by omega) (yD 520 (zy (x+1) (by omega) (by omega)) (oc (by first|omega|(simp <;> omega):(((([45]:TX)++(Lib.repeatL ([65]:TX) ((min m 7).toNat))).length+(Lib.itoa (x+1)).length:Nat):Int)≤9223372036854775807) (oc (qK _ _:st (([45]:TX)++(Lib.repeatL ([65]:TX) ((min m 7).toNat)))++st (Lib.itoa (x+1))=st ((([45]:TX)++(Lib.repeatL ([65]:TX) ((min m 7).toNat)))++(Lib.itoa (x+1)))) oz)))))) ?_
    rw [yY (s:=s) (h:=h) h1 (.inl h2) (Eq.trans (by rw [← hx,← hy]) (yU (by rw [← hm];exact (QA h3)) h4))]
    exact yA hc0 [2,3] []
   refine qU (zN h3)<|qA ?_
   by_cases h5:m=0
   ·refine zY qC (gy 3 2++[(5,.gd true (.call [] [(iv x)] [] (bv (qW x)) [])),(6,.yes true)]) [.k3,.d,.n,.r] [ps 58 (bv (qW x))] (on 3 (zP h5) (yD 456 (wZ x (by omega)) (oc (zP h5) oz))) ?_
    by_cases h6:(qW x)=true
    ·refine yK (b:=(qW x)) rfl h6<|qL qC [.k2,.d,.n,.d,.r] [ps 8 (sv (st ([80]:TX)))]<|zF<|qA<|qA<|qL qC [.k3,.n,.r] [ps 82 (bv false)]<|zk (b:=false) rfl rfl<|qF<|qA<|qk qC [(2,.val (.av (.string (st (([45]:TX)++([80]:TX)))))),(6,.call [] [(iv (x+1))] [] (sv (st (Lib.itoa (x+1)))) []),(7,.val (.av (.string (st ((([45]:TX)++([80]:TX))++(Lib.itoa (x+1)))))))] [ps 2 (sv (st ((([45]:TX)++([80]:TX))++(Lib.itoa (x+1))))),ps 3 (iv 0)] (oc (by first|omega|(simp <;> omega):((([45]:TX).length+([80]:TX).length:Nat):Int)≤9223372036854775807) (oc (qK _ _:st ([45]:TX)++st ([80]:TX)=st (([45]:TX)++([80]:TX))) (oi (x+1) (by omega) (yD 560 (zy (x+1) (by omega) (by omega)) (oc (by first|omega|(simp <;> omega):(((([45]:TX)++([80]:TX)).length+(Lib.itoa (x+1)).length:Nat):Int)≤9223372036854775807) (oc (qK _ _:st (([45]:TX)++([80]:TX))++st (Lib.itoa (x+1))=st ((([45]:TX)++([80]:TX))++(Lib.itoa (x+1)))) oz)))))) ?_
     rw [yY (s:=s) (h:=h) h1 (.inl h2) (Eq.trans (by rw [← hx,← hy]) (yU (q:=[80]) (by rw [← hm];exact (VQ h5 h6)) (by decide)))]
     exact yA hc0 [2,3] []
    refine zk (b:=(qW x)) rfl (Bool.eq_false_iff.2 h6)<|qA<|qL qC [.k3,.d,.n,.r] [ps 66 (bv (decide (m=0)))]<|qR (zP h5)<|qL qC [.k2,.d,.n,.d,.r] [ps 8 (sv (st ([77]:TX)))]<|zF<|qA<|qA<|qL qC [.k3,.n,.r] [ps 82 (bv false)]<|zk (b:=false) rfl rfl<|qF<|qA<|qk qC [(2,.val (.av (.string (st (([45]:TX)++([77]:TX)))))),(6,.call [] [(iv (x+1))] [] (sv (st (Lib.itoa (x+1)))) []),(7,.val (.av (.string (st ((([45]:TX)++([77]:TX))++(Lib.itoa (x+1)))))))] [ps 2 (sv (st ((([45]:TX)++([77]:TX))++(Lib.itoa (x+1))))),ps 3 (iv 0)] (oc (by first|omega|(simp <;> omega):((([45]:TX).length+([77]:TX).length:Nat):Int)≤9223372036854775807) (oc (qK _ _:st ([45]:TX)++st ([77]:TX)=st (([45]:TX)++([77]:TX))) (oi (x+1) (by omega) (yD 584 (zy (x+1) (by omega) (by omega)) (oc (by first|omega|(simp <;> omega):(((([45]:TX)++([77]:TX)).length+(Lib.itoa (x+1)).length:Nat):Int)≤9223372036854775807) (oc (qK _ _:st (([45]:TX)++([77]:TX))++st (Lib.itoa (x+1))=st ((([45]:TX)++([77]:TX))++(Lib.itoa (x+1)))) oz)))))) ?_
    rw [yY (s:=s) (h:=h) h1 (.inl h2) (Eq.trans (by rw [← hx,← hy]) (yU (q:=[77]) (by rw [← hm];exact (qez h5 h6)) (by decide)))]
    exact yA hc0 [2,3] []
   refine zY qC (gn 3 3++[(6,.yes false)]) [.k3,.d,.n,.r] [ps 58 (bv false)] (on 4 (zN h5) oz)<|zk (b:=false) rfl rfl<|qA<|qL qC [.k3,.d,.n,.r] [ps 66 (bv (decide (m=0)))]<|qU (zN h5)<|qA<|vK qC 2 [.k3,.d,.n,.r] [ps 69 (bv (qW x))] (yD 520 (wZ x (by omega)) oz) ?_
   by_cases h7:(qW x)=true
   ·refine yK (b:=(qW x)) rfl h7<|zY qC [(3,.call [] [(sv (st ([100]:TX))),(nv ((min (0-m) 7).toNat))] [] (sv (st (Lib.repeatL ([100]:TX) ((min (0-m) 7).toNat)))) [])] [.k2,.d,.n,.d,.r] [ps 8 (sv (st (Lib.repeatL ([100]:TX) ((min (0-m) 7).toNat))))] (oi (0-m) (by omega) (oc (wA ([100]:TX) ((min (0-m) 7).toNat) (by omega) (by simp only [List.length_cons,List.length_nil];omega)) (oc (congrArg (fun z=>[(sv (st ([100]:TX))),iv z]) (show min (0-m) 7=(((min (0-m) 7).toNat:Nat):Int) from by omega):[(sv (st ([100]:TX))),(iv (min (0-m) 7))]=qN (qZ [] 560) [(sv (st ([100]:TX))),(nv ((min (0-m) 7).toNat))]) oz))) ?_
    refine zF<|qA<|qA<|qL qC [.k3,.n,.r] [ps 82 (bv (decide (6<(((Lib.repeatL ([100]:TX) ((min (0-m) 7).toNat)).length:Nat):Int))))] ?_
    by_cases h8:6<(((Lib.repeatL ([100]:TX) ((min (0-m) 7).toNat)).length:Nat):Int)
    ·refine qR (zP h8)<|qA<|qk qC [] [ps 2 se,ps 3 (iv 3)] (oz) ?_
     rw [yY (s:=s) (h:=h) h1 (.inl h2) (Eq.trans (by rw [← hx,← hy]) (vU (by rw [← hm];exact (ZQ h3 h5 h7)) h8))]
     exact yA hc0 [2,3] []
    refine qU (zN h8)<|qF<|qA<|qk qC [(2,.val (.av (.string (st (([45]:TX)++(Lib.repeatL ([100]:TX) ((min (0-m) 7).toNat))))))),(6,.call [] [(iv (x+1))] [] (sv (st (Lib.itoa (x+1)))) []),(7,.val (.av (.string (st ((([45]:TX)++(Lib.repeatL ([100]:TX) ((min (0-m) 7).toNat)))++(Lib.itoa (x+1)))))))] [ps 2 (sv (st ((([45]:TX)++(Lib.repeatL ([100]:TX) ((min (0-m) 7).toNat)))++(Lib.itoa (x+1))))),ps 3 (iv 0)] (oc (by first|omega|(simp only [List.length_append,List.length_cons,List.length_nil];omega):((([45]:TX).length+(Lib.repeatL ([100]:TX) ((min (0-m) 7).toNat)).length:Nat):Int)≤9223372036854775807) (oc (qK _ _:st ([45]:TX)++st (Lib.repeatL ([100]:TX) ((min (0-m) 7).toNat))=st (([45]:TX)++(Lib.repeatL ([100]:TX) ((min (0-m) 7).toNat)))) (oi (x+1) (by omega) (yD 648 (zy (x+1) (by omega) (by omega)) (oc (by first|omega|(simp only [List.length_append,List.length_cons,List.length_nil];omega):(((([45]:TX)++(Lib.repeatL ([100]:TX) ((min (0-m) 7).toNat))).length+(Lib.itoa (x+1)).length:Nat):Int)≤9223372036854775807) (oc (qK _ _:st (([45]:TX)++(Lib.repeatL ([100]:TX) ((min (0-m) 7).toNat)))++st (Lib.itoa (x+1))=st ((([45]:TX)++(Lib.repeatL ([100]:TX) ((min (0-m) 7).toNat)))++(Lib.itoa (x+1)))) oz)))))) ?_
    rw [yY (s:=s) (h:=h) h1 (.inl h2) (Eq.trans (by rw [← hx,← hy]) (yU (by rw [← hm];exact (ZQ h3 h5 h7)) h8))]
    exact yA hc0 [2,3] []
   refine zk (b:=(qW x)) rfl (Bool.eq_false_iff.2 h7)<|qA<|qL qC [.k3,.d,.n,.r] [ps 77 (bv (decide (m=(-1))))] ?_
   by_cases h9:m=(-1)
   ·refine qR (zP h9)<|qL qC [.k2,.d,.n,.d,.r] [ps 8 (sv (st ([109]:TX)))]<|zF<|qA<|qA<|qL qC [.k3,.n,.r] [ps 82 (bv false)]<|zk (b:=false) rfl rfl<|qF<|qA<|qk qC [(2,.val (.av (.string (st (([45]:TX)++([109]:TX)))))),(6,.call [] [(iv (x+1))] [] (sv (st (Lib.itoa (x+1)))) []),(7,.val (.av (.string (st ((([45]:TX)++([109]:TX))++(Lib.itoa (x+1)))))))] [ps 2 (sv (st ((([45]:TX)++([109]:TX))++(Lib.itoa (x+1))))),ps 3 (iv 0)] (oc (by first|omega|(simp <;> omega):((([45]:TX).length+([109]:TX).length:Nat):Int)≤9223372036854775807) (oc (qK _ _:st ([45]:TX)++st ([109]:TX)=st (([45]:TX)++([109]:TX))) (oi (x+1) (by omega) (yD 640 (zy (x+1) (by omega) (by omega)) (oc (by first|omega|(simp <;> omega):(((([45]:TX)++([109]:TX)).length+(Lib.itoa (x+1)).length:Nat):Int)≤9223372036854775807) (oc (qK _ _:st (([45]:TX)++([109]:TX))++st (Lib.itoa (x+1))=st ((([45]:TX)++([109]:TX))++(Lib.itoa (x+1)))) oz)))))) ?_
    rw [yY (s:=s) (h:=h) h1 (.inl h2) (Eq.trans (by rw [← hx,← hy]) (yU (q:=[109]) (by rw [← hm];exact (qey h9 h7)) (by decide)))]
    exact yA hc0 [2,3] []
   refine qU (zN h9)<|zY qC [(4,.call [] [(sv (st ([100]:TX))),(nv ((min ((0-m)-1) 7).toNat))] [] (sv (st (Lib.repeatL ([100]:TX) ((min ((0-m)-1) 7).toNat)))) [])] [.k2,.d,.n,.d,.r] [ps 8 (sv (st (Lib.repeatL ([100]:TX) ((min ((0-m)-1) 7).toNat))))] (oi (0-m) (by omega) (oi ((0-m)-1) (by omega) (oc (wA ([100]:TX) ((min ((0-m)-1) 7).toNat) (by omega) (by simp only [List.length_cons,List.length_nil];omega)) (oc (congrArg (fun z=>[(sv (st ([100]:TX))),iv z]) (show min ((0-m)-1) 7=(((min ((0-m)-1) 7).toNat:Nat):Int) from by omega):[(sv (st ([100]:TX))),(iv (min ((0-m)-1) 7))]=qN (qZ [] 592) [(sv (st ([100]:TX))),(nv ((min ((0-m)-1) 7).toNat))]) oz)))) ?_
   refine zF<|qA<|qA<|qL qC [.k3,.n,.r] [ps 82 (bv (decide (6<(((Lib.repeatL ([100]:TX) ((min ((0-m)-1) 7).toNat)).length:Nat):Int))))] ?_
   by_cases h10:6<(((Lib.repeatL ([100]:TX) ((min ((0-m)-1) 7).toNat)).length:Nat):Int)
   ·refine qR (zP h10)<|qA<|qk qC [] [ps 2 se,ps 3 (iv 3)] (oz) ?_
    rw [yY (s:=s) (h:=h) h1 (.inl h2) (Eq.trans (by rw [← hx,← hy]) (vU (by rw [← hm];exact (QB h3 h5 h7 h9)) h10))]
    exact yA hc0 [2,3] []
   refine qU (zN h10)<|qF<|qA<|qk qC [(2,.val (.av (.string (st (([45]:TX)++(Lib.repeatL ([100]:TX) ((min ((0-m)-1) 7).toNat))))))),(6,.call [] [(iv (x+1))] [] (sv (st (Lib.itoa (x+1)))) []),(7,.val (.av (.string (st ((([45]:TX)++(Lib.repeatL ([100]:TX) ((min ((0-m)-1) 7).toNat)))++(Lib.itoa (x+1)))))))] [ps 2 (sv (st ((([45]:TX)++(Lib.repeatL ([100]:TX) ((min ((0-m)-1) 7).toNat)))++(Lib.itoa (x+1))))),ps 3 (iv 0)] (oc (by first|omega|(simp only [List.length_append,List.length_cons,List.length_nil];omega):((([45]:TX).length+(Lib.repeatL ([100]:TX) ((min ((0-m)-1) 7).toNat)).length:Nat):Int)≤9223372036854775807) (oc (qK _ _:st ([45]:TX)++st (Lib.repeatL ([100]:TX) ((min ((0-m)-1) 7).toNat))=st (([45]:TX)++(Lib.repeatL ([100]:TX) ((min ((0-m)-1) 7).toNat)))) (oi (x+1) (by omega) (yD 680 (zy (x+1) (by omega) (by omega)) (oc (by first|omega|(simp only [List.length_append,List.length_cons,List.length_nil];omega):(((([45]:TX)++(Lib.repeatL ([100]:TX) ((min ((0-m)-1) 7).toNat))).length+(Lib.itoa (x+1)).length:Nat):Int)≤9223372036854775807) (oc (qK _ _:st (([45]:TX)++(Lib.repeatL ([100]:TX) ((min ((0-m)-1) 7).toNat)))++st (Lib.itoa (x+1))=st ((([45]:TX)++(Lib.repeatL ([100]:TX) ((min ((0-m)-1) 7).toNat)))++(Lib.itoa (x+1)))) oz)))))) ?_
   rw [yY (s:=s) (h:=h) h1 (.inl h2) (Eq.trans (by rw [← hx,← hy]) (yU (by rw [← hm];exact (QB h3 h5 h7 h9)) h10))]
   exact yA hc0 [2,3] []
  by_cases h11:s=0
  ·refine zY qC (gn 4 4++gy 8 3++[(11,.gd false (.yes true)),(12,.yes false)]) [.k2,.n,.r] [ps 24 (bv (decide (h<0)))] (on 4 (zN h2) (on 3 (zP h11) (oc (zN h2) (oc (zP h11) (oc (zN h2) oz))))) ?_
   by_cases h12:h<0
   ·refine qR (zP h12)<|qA<|qL qC [.k1,.d,.n,.d,.r] [ps 4 (sv (st ([45]:TX)))]<|zY qC [] [.k2,.d,.n] [pb 0 41 [(iv (0-s)),(iv (0-h))]] (oi (0-s) (by omega) (oi (0-h) (by omega) oz))<|qA ?_
    obtain ⟨x,hx⟩:∃ x,x=0-s:=⟨_,rfl⟩
    obtain ⟨y,hy⟩:∃ y,y=0-h:=⟨_,rfl⟩
    refine qY (Wk.eq (show _=[ps 1 (.opt 0 0),ps 4 (sv (st ([45]:TX))),pb 0 41 [(iv x),(iv y)]] from by rw [hx,hy])) ?_
    have hnb:=Pi.nat7_range (x % 7)
    have hl2:=jE (o:=x+1) (by omega) (by omega)
    refine vK qC 2 [.k2,.n,.n,.r] [ps 5 (iv (x / 7)),ps 6 (iv (x % 7))] (yD 264 (ZZ x (by omega) (by omega)) oz)<|qA<|QK qC [(6,.call [] [(iv (x % 7))] [] (iv (Pi.nat7 (x % 7))) [])] (bfr [(0,0),(0,1),(0,0),(2,1),(0,4),(0,0),(5,1),(0,7),(0,8)]) [([78],[2]),([80],[1,78]),([82],[10]),([84],[82]),([86],[80,84]),([88],[12]),([90],[88]),([92],[86,90]),([14],[92])] [.k2,.d,.d,.n,.r] [ps 7 (iv ((y-(12*(x / 7)))-(Pi.nat7 (x % 7))))] (oi (12*(x / 7)) (by omega) (oi (y-(12*(x / 7))) (by omega) (yD 360 (YH (x % 7)) (oi ((y-(12*(x / 7)))-(Pi.nat7 (x % 7))) (by omega) oz))))<|qA ?_
    obtain ⟨m,hm⟩:∃ m,m=vq x y:=⟨_,rfl⟩
    have hmb : -9000≤m∧m≤9000:=by rw [hm];unfold vq;omega
    refine qY (Wk.eq (show _=[ps 1 (.opt 0 0),ps 4 (sv (st ([45]:TX))),ps 7 (iv m),pb 0 41 [(iv x),(iv y)]] from by rw [hm];rfl)) ?_
    refine qL qC [.r] []<|qA<|qV<|qA<|qL qC [.k3,.n,.r] [ps 52 (bv (decide (0<m)))] ?_
    by_cases h13:0<m
    ·refine qR (zP h13)<|zY qC [(2,.call [] [(sv (st ([65]:TX))),(nv ((min m 7).toNat))] [] (sv (st (Lib.repeatL ([65]:TX) ((min m 7).toNat)))) [])] [.k2,.d,.n,.d,.r] [ps 8 (sv (st (Lib.repeatL ([65]:TX) ((min m 7).toNat))))] (oc (wA ([65]:TX) ((min m 7).toNat) (by omega) (by simp only [List.length_cons,List.length_nil];omega)) (oc (congrArg (fun z=>[(sv (st ([65]:TX))),iv z]) (show min m 7=(((min m 7).toNat:Nat):Int) from by omega):[(sv (st ([65]:TX))),(iv (min m 7))]=qN (qZ [] 432) [(sv (st ([65]:TX))),(nv ((min m 7).toNat))]) oz)) ?_
     refine zF<|qA<|qA<|qL qC [.k3,.n,.r] [ps 82 (bv (decide (6<(((Lib.repeatL ([65]:TX) ((min m 7).toNat)).length:Nat):Int))))] ?_
     by_cases h14:6<(((Lib.repeatL ([65]:TX) ((min m 7).toNat)).length:Nat):Int)
     ·refine qR (zP h14)<|qA<|qk qC [] [ps 2 se,ps 3 (iv 3)] (oz) ?_
      rw [yY (s:=s) (h:=h) h1 (.inr ⟨h11,h12⟩) (Eq.trans (by rw [← hx,← hy]) (vU (by rw [← hm];exact (QA h13)) h14))]
      exact yA hc0 [2,3] []
     refine qU (zN h14)<|qF<|qA<|qk qC [(2,.val (.av (.string (st (([45]:TX)++(Lib.repeatL ([65]:TX) ((min m 7).toNat))))))),(6,.call [] [(iv (x+1))] [] (sv (st (Lib.itoa (x+1)))) []),(7,.val (.av (.string (st ((([45]:TX)++(Lib.repeatL ([65]:TX) ((min m 7).toNat)))++(Lib.itoa (x+1)))))))] [ps 2 (sv (st ((([45]:TX)++(Lib.repeatL ([65]:TX) ((min m 7).toNat)))++(Lib.itoa (x+1))))),ps 3 (iv 0)] (oc (by first|omega|(simp <;> omega):((([45]:TX).length+(Lib.repeatL ([65]:TX) ((min m 7).toNat)).length:Nat):Int)≤9223372036854775807) (oc (qK _ _:st ([45]:TX)++st (Lib.repeatL ([65]:TX) ((min m 7).toNat))=st (([45]:TX)++(Lib.repeatL ([65]:TX) ((min m 7).toNat)))) (oi (x+1) (by omega) (yD 520 (zy (x+1) (by omega) (by omega)) (oc (by first|omega|(simp <;> omega):(((([45]:TX)++(Lib.repeatL ([65]:TX) ((min m 7).toNat))).length+(Lib.itoa (x+1)).length:Nat):Int)≤9223372036854775807) (oc (qK _ _:st (([45]:TX)++(Lib.repeatL ([65]:TX) ((min m 7).toNat)))++st (Lib.itoa (x+1))=st ((([45]:TX)++(Lib.repeatL ([65]:TX) ((min m 7).toNat)))++(Lib.itoa (x+1)))) oz)))))) ?_
     rw [yY (s:=s) (h:=h) h1 (.inr ⟨h11,h12⟩) (Eq.trans (by rw [← hx,← hy]) (yU (by rw [← hm];exact (QA h13)) h14))]
     exact yA hc0 [2,3] []
    refine qU (zN h13)<|qA ?_
    by_cases h15:m=0
    ·refine zY qC (gy 3 2++[(5,.gd true (.call [] [(iv x)] [] (bv (qW x)) [])),(6,.yes true)]) [.k3,.d,.n,.r] [ps 58 (bv (qW x))] (on 3 (zP h15) (yD 456 (wZ x (by omega)) (oc (zP h15) oz))) ?_
     by_cases h16:(qW x)=true
     ·refine yK (b:=(qW x)) rfl h16<|qL qC [.k2,.d,.n,.d,.r] [ps 8 (sv (st ([80]:TX)))]<|zF<|qA<|qA<|qL qC [.k3,.n,.r] [ps 82 (bv false)]<|zk (b:=false) rfl rfl<|qF<|qA<|qk qC [(2,.val (.av (.string (st (([45]:TX)++([80]:TX)))))),(6,.call [] [(iv (x+1))] [] (sv (st (Lib.itoa (x+1)))) []),(7,.val (.av (.string (st ((([45]:TX)++([80]:TX))++(Lib.itoa (x+1)))))))] [ps 2 (sv (st ((([45]:TX)++([80]:TX))++(Lib.itoa (x+1))))),ps 3 (iv 0)] (oc (by first|omega|(simp <;> omega):((([45]:TX).length+([80]:TX).length:Nat):Int)≤9223372036854775807) (oc (qK _ _:st ([45]:TX)++st ([80]:TX)=st (([45]:TX)++([80]:TX))) (oi (x+1) (by omega) (yD 560 (zy (x+1) (by omega) (by omega)) (oc (by first|omega|(simp <;> omega):(((([45]:TX)++([80]:TX)).length+(Lib.itoa (x+1)).length:Nat):Int)≤9223372036854775807) (oc (qK _ _:st (([45]:TX)++([80]:TX))++st (Lib.itoa (x+1))=st ((([45]:TX)++([80]:TX))++(Lib.itoa (x+1)))) oz)))))) ?_
      rw [yY (s:=s) (h:=h) h1 (.inr ⟨h11,h12⟩) (Eq.trans (by rw [← hx,← hy]) (yU (q:=[80]) (by rw [← hm];exact (VQ h15 h16)) (by decide)))]
      exact yA hc0 [2,3] []
     refine zk (b:=(qW x)) rfl (Bool.eq_false_iff.2 h16)<|qA<|qL qC [.k3,.d,.n,.r] [ps 66 (bv (decide (m=0)))]<|qR (zP h15)<|qL qC [.k2,.d,.n,.d,.r] [ps 8 (sv (st ([77]:TX)))]<|zF<|qA<|qA<|qL qC [.k3,.n,.r] [ps 82 (bv false)]<|zk (b:=false) rfl rfl<|qF<|qA<|qk qC [(2,.val (.av (.string (st (([45]:TX)++([77]:TX)))))),(6,.call [] [(iv (x+1))] [] (sv (st (Lib.itoa (x+1)))) []),(7,.val (.av (.string (st ((([45]:TX)++([77]:TX))++(Lib.itoa (x+1)))))))] [ps 2 (sv (st ((([45]:TX)++([77]:TX))++(Lib.itoa (x+1))))),ps 3 (iv 0)] (oc (by first|omega|(simp <;> omega):((([45]:TX).length+([77]:TX).length:Nat):Int)≤9223372036854775807) (oc (qK _ _:st ([45]:TX)++st ([77]:TX)=st (([45]:TX)++([77]:TX))) (oi (x+1) (by omega) (yD 584 (zy (x+1) (by omega) (by omega)) (oc (by first|omega|(simp <;> omega):(((([45]:TX)++([77]:TX)).length+(Lib.itoa (x+1)).length:Nat):Int)≤9223372036854775807) (oc (qK _ _:st (([45]:TX)++([77]:TX))++st (Lib.itoa (x+1))=st ((([45]:TX)++([77]:TX))++(Lib.itoa (x+1)))) oz)))))) ?_
     rw [yY (s:=s) (h:=h) h1 (.inr ⟨h11,h12⟩) (Eq.trans (by rw [← hx,← hy]) (yU (q:=[77]) (by rw [← hm];exact (qez h15 h16)) (by decide)))]
     exact yA hc0 [2,3] []
    refine zY qC (gn 3 3++[(6,.yes false)]) [.k3,.d,.n,.r] [ps 58 (bv false)] (on 4 (zN h15) oz)<|zk (b:=false) rfl rfl<|qA<|qL qC [.k3,.d,.n,.r] [ps 66 (bv (decide (m=0)))]<|qU (zN h15)<|qA<|vK qC 2 [.k3,.d,.n,.r] [ps 69 (bv (qW x))] (yD 520 (wZ x (by omega)) oz) ?_
    by_cases h17:(qW x)=true
    ·refine yK (b:=(qW x)) rfl h17<|zY qC [(3,.call [] [(sv (st ([100]:TX))),(nv ((min (0-m) 7).toNat))] [] (sv (st (Lib.repeatL ([100]:TX) ((min (0-m) 7).toNat)))) [])] [.k2,.d,.n,.d,.r] [ps 8 (sv (st (Lib.repeatL ([100]:TX) ((min (0-m) 7).toNat))))] (oi (0-m) (by omega) (oc (wA ([100]:TX) ((min (0-m) 7).toNat) (by omega) (by simp only [List.length_cons,List.length_nil];omega)) (oc (congrArg (fun z=>[(sv (st ([100]:TX))),iv z]) (show min (0-m) 7=(((min (0-m) 7).toNat:Nat):Int) from by omega):[(sv (st ([100]:TX))),(iv (min (0-m) 7))]=qN (qZ [] 560) [(sv (st ([100]:TX))),(nv ((min (0-m) 7).toNat))]) oz))) ?_
     refine zF<|qA<|qA<|qL qC [.k3,.n,.r] [ps 82 (bv (decide (6<(((Lib.repeatL ([100]:TX) ((min (0-m) 7).toNat)).length:Nat):Int))))] ?_
     by_cases h18:6<(((Lib.repeatL ([100]:TX) ((min (0-m) 7).toNat)).length:Nat):Int)
     ·refine qR (zP h18)<|qA<|qk qC [] [ps 2 se,ps 3 (iv 3)] (oz) ?_
      rw [yY (s:=s) (h:=h) h1 (.inr ⟨h11,h12⟩) (Eq.trans (by rw [← hx,← hy]) (vU (by rw [← hm];exact (ZQ h13 h15 h17)) h18))]
      exact yA hc0 [2,3] []
     refine qU (zN h18)<|qF<|qA<|qk qC [(2,.val (.av (.string (st (([45]:TX)++(Lib.repeatL ([100]:TX) ((min (0-m) 7).toNat))))))),(6,.call [] [(iv (x+1))] [] (sv (st (Lib.itoa (x+1)))) []),(7,.val (.av (.string (st ((([45]:TX)++(Lib.repeatL ([100]:TX) ((min (0-m) 7).toNat)))++(Lib.itoa (x+1)))))))] [ps 2 (sv (st ((([45]:TX)++(Lib.repeatL ([100]:TX) ((min (0-m) 7).toNat)))++(Lib.itoa (x+1))))),ps 3 (iv 0)] (oc (by first|omega|(simp only [List.length_append,List.length_cons,List.length_nil];omega):((([45]:TX).length+(Lib.repeatL ([100]:TX) ((min (0-m) 7).toNat)).length:Nat):Int)≤9223372036854775807) (oc (qK _ _:st ([45]:TX)++st (Lib.repeatL ([100]:TX) ((min (0-m) 7).toNat))=st (([45]:TX)++(Lib.repeatL ([100]:TX) ((min (0-m) 7).toNat)))) (oi (x+1) (by omega) (yD 648 (zy (x+1) (by omega) (by omega)) (oc (by first|omega|(simp only [List.length_append,List.length_cons,List.length_nil];omega):(((([45]:TX)++(Lib.repeatL ([100]:TX) ((min (0-m) 7).toNat))).length+(Lib.itoa (x+1)).length:Nat):Int)≤9223372036854775807) (oc (qK _ _:st (([45]:TX)++(Lib.repeatL ([100]:TX) ((min (0-m) 7).toNat)))++st (Lib.itoa (x+1))=st ((([45]:TX)++(Lib.repeatL ([100]:TX) ((min (0-m) 7).toNat)))++(Lib.itoa (x+1)))) oz)))))) ?_
     rw [yY (s:=s) (h:=h) h1 (.inr ⟨h11,h12⟩) (Eq.trans (by rw [← hx,← hy]) (yU (by rw [← hm];exact (ZQ h13 h15 h17)) h18))]
     exact yA hc0 [2,3] []
    refine zk (b:=(qW x)) rfl (Bool.eq_false_iff.2 h17)<|qA<|qL qC [.k3,.d,.n,.r] [ps 77 (bv (decide (m=(-1))))] ?_
    by_cases h19:m=(-1)
    ·refine qR (zP h19)<|qL qC [.k2,.d,.n,.d,.r] [ps 8 (sv (st ([109]:TX)))]<|zF<|qA<|qA<|qL qC [.k3,.n,.r] [ps 82 (bv false)]<|zk (b:=false) rfl rfl<|qF<|qA<|qk qC [(2,.val (.av (.string (st (([45]:TX)++([109]:TX)))))),(6,.call [] [(iv (x+1))] [] (sv (st (Lib.itoa (x+1)))) []),(7,.val (.av (.string (st ((([45]:TX)++([109]:TX))++(Lib.itoa (x+1)))))))] [ps 2 (sv (st ((([45]:TX)++([109]:TX))++(Lib.itoa (x+1))))),ps 3 (iv 0)] (oc (by first|omega|(simp <;> omega):((([45]:TX).length+([109]:TX).length:Nat):Int)≤9223372036854775807) (oc (qK _ _:st ([45]:TX)++st ([109]:TX)=st (([45]:TX)++([109]:TX))) (oi (x+1) (by omega) (yD 640 (zy (x+1) (by omega) (by omega)) (oc (by first|omega|(simp <;> omega):(((([45]:TX)++([109]:TX)).length+(Lib.itoa (x+1)).length:Nat):Int)≤9223372036854775807) (oc (qK _ _:st (([45]:TX)++([109]:TX))++st (Lib.itoa (x+1))=st ((([45]:TX)++([109]:TX))++(Lib.itoa (x+1)))) oz)))))) ?_
     rw [yY (s:=s) (h:=h) h1 (.inr ⟨h11,h12⟩) (Eq.trans (by rw [← hx,← hy]) (yU (q:=[109]) (by rw [← hm];exact (qey h19 h17)) (by decide)))]
     exact yA hc0 [2,3] []
    refine qU (zN h19)<|zY qC [(4,.call [] [(sv (st ([100]:TX))),(nv ((min ((0-m)-1) 7).toNat))] [] (sv (st (Lib.repeatL ([100]:TX) ((min ((0-m)-1) 7).toNat)))) [])] [.k2,.d,.n,.d,.r] [ps 8 (sv (st (Lib.repeatL ([100]:TX) ((min ((0-m)-1) 7).toNat))))] (oi (0-m) (by omega) (oi ((0-m)-1) (by omega) (oc (wA ([100]:TX) ((min ((0-m)-1) 7).toNat) (by omega) (by simp only [List.length_cons,List.length_nil];omega)) (oc (congrArg (fun z=>[(sv (st ([100]:TX))),iv z]) (show min ((0-m)-1) 7=(((min ((0-m)-1) 7).toNat:Nat):Int) from by omega):[(sv (st ([100]:TX))),(iv (min ((0-m)-1) 7))]=qN (qZ [] 592) [(sv (st ([100]:TX))),(nv ((min ((0-m)-1) 7).toNat))]) oz)))) ?_
    refine zF<|qA<|qA<|qL qC [.k3,.n,.r] [ps 82 (bv (decide (6<(((Lib.repeatL ([100]:TX) ((min ((0-m)-1) 7).toNat)).length:Nat):Int))))] ?_
    by_cases h20:6<(((Lib.repeatL ([100]:TX) ((min ((0-m)-1) 7).toNat)).length:Nat):Int)
    ·refine qR (zP h20)<|qA<|qk qC [] [ps 2 se,ps 3 (iv 3)] (oz) ?_
     rw [yY (s:=s) (h:=h) h1 (.inr ⟨h11,h12⟩) (Eq.trans (by rw [← hx,← hy]) (vU (by rw [← hm];exact (QB h13 h15 h17 h19)) h20))]
     exact yA hc0 [2,3] []
    refine qU (zN h20)<|qF<|qA<|qk qC [(2,.val (.av (.string (st (([45]:TX)++(Lib.repeatL ([100]:TX) ((min ((0-m)-1) 7).toNat))))))),(6,.call [] [(iv (x+1))] [] (sv (st (Lib.itoa (x+1)))) []),(7,.val (.av (.string (st ((([45]:TX)++(Lib.repeatL ([100]:TX) ((min ((0-m)-1) 7).toNat)))++(Lib.itoa (x+1)))))))] [ps 2 (sv (st ((([45]:TX)++(Lib.repeatL ([100]:TX) ((min ((0-m)-1) 7).toNat)))++(Lib.itoa (x+1))))),ps 3 (iv 0)] (oc (by first|omega|(simp only [List.length_append,List.length_cons,List.length_nil];omega):((([45]:TX).length+(Lib.repeatL ([100]:TX) ((min ((0-m)-1) 7).toNat)).length:Nat):Int)≤9223372036854775807) (oc (qK _ _:st ([45]:TX)++st (Lib.repeatL ([100]:TX) ((min ((0-m)-1) 7).toNat))=st (([45]:TX)++(Lib.repeatL ([100]:TX) ((min ((0-m)-1) 7).toNat)))) (oi (x+1) (by omega) (yD 680 (zy (x+1) (by omega) (by omega)) (oc (by first|omega|(simp only [List.length_append,List.length_cons,List.length_nil];omega):(((([45]:TX)++(Lib.repeatL ([100]:TX) ((min ((0-m)-1) 7).toNat))).length+(Lib.itoa (x+1)).length:Nat):Int)≤9223372036854775807) (oc (qK _ _:st (([45]:TX)++(Lib.repeatL ([100]:TX) ((min ((0-m)-1) 7).toNat)))++st (Lib.itoa (x+1))=st ((([45]:TX)++(Lib.repeatL ([100]:TX) ((min ((0-m)-1) 7).toNat)))++(Lib.itoa (x+1)))) oz)))))) ?_
    rw [yY (s:=s) (h:=h) h1 (.inr ⟨h11,h12⟩) (Eq.trans (by rw [← hx,← hy]) (yU (by rw [← hm];exact (QB h13 h15 h17 h19)) h20))]
    exact yA hc0 [2,3] []
   refine qU (zN h12)<|qF<|qA ?_
   obtain ⟨x,hx⟩:∃ x,x=s:=⟨_,rfl⟩
   obtain ⟨y,hy⟩:∃ y,y=h:=⟨_,rfl⟩
   refine qY (Wk.eq (show _=[ps 1 (.opt 0 0),ps 4 se,ps 24 (bv (decide (h<0))),pb 0 41 [(iv x),(iv y)]] from by rw [hx,hy])) ?_
   have hnb:=Pi.nat7_range (x % 7)
   have hl2:=jE (o:=x+1) (by omega) (by omega)
   refine vK qC 2 [.k2,.n,.n,.d,.r] [ps 5 (iv (x / 7)),ps 6 (iv (x % 7))] (yD 176 (ZZ x (by omega) (by omega)) oz)<|qA<|QK qC [(6,.call [] [(iv (x % 7))] [] (iv (Pi.nat7 (x % 7))) [])] (bfr [(0,0),(0,1),(0,0),(2,1),(0,4),(0,0),(5,1),(0,7),(0,8)]) [([78],[2]),([80],[1,78]),([82],[10]),([84],[82]),([86],[80,84]),([88],[12]),([90],[88]),([92],[86,90]),([14],[92])] [.k2,.d,.d,.n,.r] [ps 7 (iv ((y-(12*(x / 7)))-(Pi.nat7 (x % 7))))] (oi (12*(x / 7)) (by omega) (oi (y-(12*(x / 7))) (by omega) (yD 272 (YH (x % 7)) (oi ((y-(12*(x / 7)))-(Pi.nat7 (x % 7))) (by omega) oz))))<|qA ?_
   obtain ⟨m,hm⟩:∃ m,m=vq x y:=⟨_,rfl⟩
   have hmb : -9000≤m∧m≤9000:=by rw [hm];unfold vq;omega
   refine qY (Wk.eq (show _=[ps 1 (.opt 0 0),ps 4 se,ps 7 (iv m),pb 0 41 [(iv x),(iv y)]] from by rw [hm];rfl)) ?_
   refine qL qC [.r] []<|qA<|qV<|qA<|qL qC [.k3,.n,.r] [ps 52 (bv (decide (0<m)))] ?_
   by_cases h21:0<m
   ·refine qR (zP h21)<|zY qC [(2,.call [] [(sv (st ([65]:TX))),(nv ((min m 7).toNat))] [] (sv (st (Lib.repeatL ([65]:TX) ((min m 7).toNat)))) [])] [.k2,.d,.n,.d,.r] [ps 8 (sv (st (Lib.repeatL ([65]:TX) ((min m 7).toNat))))] (oc (wA ([65]:TX) ((min m 7).toNat) (by omega) (by simp only [List.length_cons,List.length_nil];omega)) (oc (congrArg (fun z=>[(sv (st ([65]:TX))),iv z]) (show min m 7=(((min m 7).toNat:Nat):Int) from by omega):[(sv (st ([65]:TX))),(iv (min m 7))]=qN (qZ [] 344) [(sv (st ([65]:TX))),(nv ((min m 7).toNat))]) oz)) ?_
    refine zF<|qA<|qA<|qL qC [.k3,.n,.r] [ps 82 (bv (decide (6<(((Lib.repeatL ([65]:TX) ((min m 7).toNat)).length:Nat):Int))))] ?_
    by_cases h22:6<(((Lib.repeatL ([65]:TX) ((min m 7).toNat)).length:Nat):Int)
    ·refine qR (zP h22)<|qA<|qk qC [] [ps 2 se,ps 3 (iv 3)] (oz) ?_
     rw [yP (s:=s) (h:=h) h1 (by omega) (Eq.trans (by rw [← hx,← hy]) (vU (by rw [← hm];exact (QA h21)) h22))]
     exact yA hc0 [2,3] []
    refine qU (zN h22)<|qF<|qA<|qk qC [(2,.val (.av (.string (st (([]:TX)++(Lib.repeatL ([65]:TX) ((min m 7).toNat))))))),(6,.call [] [(iv (x+1))] [] (sv (st (Lib.itoa (x+1)))) []),(7,.val (.av (.string (st ((([]:TX)++(Lib.repeatL ([65]:TX) ((min m 7).toNat)))++(Lib.itoa (x+1)))))))] [ps 2 (sv (st ((([]:TX)++(Lib.repeatL ([65]:TX) ((min m 7).toNat)))++(Lib.itoa (x+1))))),ps 3 (iv 0)] (oc (by first|omega|(simp <;> omega):((([]:TX).length+(Lib.repeatL ([65]:TX) ((min m 7).toNat)).length:Nat):Int)≤9223372036854775807) (oc (qK _ _:st ([]:TX)++st (Lib.repeatL ([65]:TX) ((min m 7).toNat))=st (([]:TX)++(Lib.repeatL ([65]:TX) ((min m 7).toNat)))) (oi (x+1) (by omega) (yD 432 (zy (x+1) (by omega) (by omega)) (oc (by first|omega|(simp <;> omega):(((([]:TX)++(Lib.repeatL ([65]:TX) ((min m 7).toNat))).length+(Lib.itoa (x+1)).length:Nat):Int)≤9223372036854775807) (oc (qK _ _:st (([]:TX)++(Lib.repeatL ([65]:TX) ((min m 7).toNat)))++st (Lib.itoa (x+1))=st ((([]:TX)++(Lib.repeatL ([65]:TX) ((min m 7).toNat)))++(Lib.itoa (x+1)))) oz)))))) ?_
    rw [yP (s:=s) (h:=h) h1 (by omega) (Eq.trans (by rw [← hx,← hy]) (yU (by rw [← hm];exact (QA h21)) h22))]
    exact yA hc0 [2,3] []
   refine qU (zN h21)<|qA ?_
   by_cases h23:m=0
   ·refine zY qC (gy 3 2++[(5,.gd true (.call [] [(iv x)] [] (bv (qW x)) [])),(6,.yes true)]) [.k3,.d,.n,.r] [ps 58 (bv (qW x))] (on 3 (zP h23) (yD 368 (wZ x (by omega)) (oc (zP h23) oz))) ?_
    by_cases h24:(qW x)=true
    ·refine yK (b:=(qW x)) rfl h24<|qL qC [.k2,.d,.n,.d,.r] [ps 8 (sv (st ([80]:TX)))]<|zF<|qA<|qA<|qL qC [.k3,.n,.r] [ps 82 (bv false)]<|zk (b:=false) rfl rfl<|qF<|qA<|qk qC [(2,.val (.av (.string (st (([]:TX)++([80]:TX)))))),(6,.call [] [(iv (x+1))] [] (sv (st (Lib.itoa (x+1)))) []),(7,.val (.av (.string (st ((([]:TX)++([80]:TX))++(Lib.itoa (x+1)))))))] [ps 2 (sv (st ((([]:TX)++([80]:TX))++(Lib.itoa (x+1))))),ps 3 (iv 0)] (oc (by first|omega|(simp <;> omega):((([]:TX).length+([80]:TX).length:Nat):Int)≤9223372036854775807) (oc (qK _ _:st ([]:TX)++st ([80]:TX)=st (([]:TX)++([80]:TX))) (oi (x+1) (by omega) (yD 472 (zy (x+1) (by omega) (by omega)) (oc (by first|omega|(simp <;> omega):(((([]:TX)++([80]:TX)).length+(Lib.itoa (x+1)).length:Nat):Int)≤9223372036854775807) (oc (qK _ _:st (([]:TX)++([80]:TX))++st (Lib.itoa (x+1))=st ((([]:TX)++([80]:TX))++(Lib.itoa (x+1)))) oz)))))) ?_
     rw [yP (s:=s) (h:=h) h1 (by omega) (Eq.trans (by rw [← hx,← hy]) (yU (q:=[80]) (by rw [← hm];exact (VQ h23 h24)) (by decide)))]
     exact yA hc0 [2,3] []
    refine zk (b:=(qW x)) rfl (Bool.eq_false_iff.2 h24)<|qA<|qL qC [.k3,.d,.n,.r] [ps 66 (bv (decide (m=0)))]<|qR (zP h23)<|qL qC [.k2,.d,.n,.d,.r] [ps 8 (sv (st ([77]:TX)))]<|zF<|qA<|qA<|qL qC [.k3,.n,.r] [ps 82 (bv false)]<|zk (b:=false) rfl rfl<|qF<|qA<|qk qC [(2,.val (.av (.string (st (([]:TX)++([77]:TX)))))),(6,.call [] [(iv (x+1))] [] (sv (st (Lib.itoa (x+1)))) []),(7,.val (.av (.string (st ((([]:TX)++([77]:TX))++(Lib.itoa (x+1)))))))] [ps 2 (sv (st ((([]:TX)++([77]:TX))++(Lib.itoa (x+1))))),ps 3 (iv 0)] (oc (by first|omega|(simp <;> omega):((([]:TX).length+([77]:TX).length:Nat):Int)≤9223372036854775807) (oc (qK _ _:st ([]:TX)++st ([77]:TX)=st (([]:TX)++([77]:TX))) (oi (x+1) (by omega) (yD 496 (zy (x+1) (by omega) (by omega)) (oc (by first|omega|(simp <;> omega):(((([]:TX)++([77]:TX)).length+(Lib.itoa (x+1)).length:Nat):Int)≤9223372036854775807) (oc (qK _ _:st (([]:TX)++([77]:TX))++st (Lib.itoa (x+1))=st ((([]:TX)++([77]:TX))++(Lib.itoa (x+1)))) oz)))))) ?_
    rw [yP (s:=s) (h:=h) h1 (by omega) (Eq.trans (by rw [← hx,← hy]) (yU (q:=[77]) (by rw [← hm];exact (qez h23 h24)) (by decide)))]
    exact yA hc0 [2,3] []
   refine zY qC (gn 3 3++[(6,.yes false)]) [.k3,.d,.n,.r] [ps 58 (bv false)] (on 4 (zN h23) oz)<|zk (b:=false) rfl rfl<|qA<|qL qC [.k3,.d,.n,.r] [ps 66 (bv (decide (m=0)))]<|qU (zN h23)<|qA<|vK qC 2 [.k3,.d,.n,.r] [ps 69 (bv (qW x))] (yD 432 (wZ x (by omega)) oz) ?_
   by_cases h25:(qW x)=true
   ·refine yK (b:=(qW x)) rfl h25<|zY qC [(3,.call [] [(sv (st ([100]:TX))),(nv ((min (0-m) 7).toNat))] [] (sv (st (Lib.repeatL ([100]:TX) ((min (0-m) 7).toNat)))) [])] [.k2,.d,.n,.d,.r] [ps 8 (sv (st (Lib.repeatL ([100]:TX) ((min (0-m) 7).toNat))))] (oi (0-m) (by omega) (oc (wA ([100]:TX) ((min (0-m) 7).toNat) (by omega) (by simp only [List.length_cons,List.length_nil];omega)) (oc (congrArg (fun z=>[(sv (st ([100]:TX))),iv z]) (show min (0-m) 7=(((min (0-m) 7).toNat:Nat):Int) from by omega):[(sv (st ([100]:TX))),(iv (min (0-m) 7))]=qN (qZ [] 472) [(sv (st ([100]:TX))),(nv ((min (0-m) 7).toNat))]) oz))) ?_
    refine zF<|qA<|qA<|qL qC [.k3,.n,.r] [ps 82 (bv (decide (6<(((Lib.repeatL ([100]:TX) ((min (0-m) 7).toNat)).length:Nat):Int))))] ?_
    by_cases h26:6<(((Lib.repeatL ([100]:TX) ((min (0-m) 7).toNat)).length:Nat):Int)
    ·refine qR (zP h26)<|qA<|qk qC [] [ps 2 se,ps 3 (iv 3)] (oz) ?_
     rw [yP (s:=s) (h:=h) h1 (by omega) (Eq.trans (by rw [← hx,← hy]) (vU (by rw [← hm];exact (ZQ h21 h23 h25)) h26))]
     exact yA hc0 [2,3] []
    refine qU (zN h26)<|qF<|qA<|qk qC [(2,.val (.av (.string (st (([]:TX)++(Lib.repeatL ([100]:TX) ((min (0-m) 7).toNat))))))),(6,.call [] [(iv (x+1))] [] (sv (st (Lib.itoa (x+1)))) []),(7,.val (.av (.string (st ((([]:TX)++(Lib.repeatL ([100]:TX) ((min (0-m) 7).toNat)))++(Lib.itoa (x+1)))))))] [ps 2 (sv (st ((([]:TX)++(Lib.repeatL ([100]:TX) ((min (0-m) 7).toNat)))++(Lib.itoa (x+1))))),ps 3 (iv 0)] (oc (by first|omega|(simp only [List.length_append,List.length_cons,List.length_nil];omega):((([]:TX).length+(Lib.repeatL ([100]:TX) ((min (0-m) 7).toNat)).length:Nat):Int)≤9223372036854775807) (oc (qK _ _:st ([]:TX)++st (Lib.repeatL ([100]:TX) ((min (0-m) 7).toNat))=st (([]:TX)++(Lib.repeatL ([100]:TX) ((min (0-m) 7).toNat)))) (oi (x+1) (by omega) (yD 560 (zy (x+1) (by omega) (by omega)) (oc (by first|omega|(simp only [List.length_append,List.length_cons,List.length_nil];omega):(((([]:TX)++(Lib.repeatL ([100]:TX) ((min (0-m) 7).toNat))).length+(Lib.itoa (x+1)).length:Nat):Int)≤9223372036854775807) (oc (qK _ _:st (([]:TX)++(Lib.repeatL ([100]:TX) ((min (0-m) 7).toNat)))++st (Lib.itoa (x+1))=st ((([]:TX)++(Lib.repeatL ([100]:TX) ((min (0-m) 7).toNat)))++(Lib.itoa (x+1)))) oz)))))) ?_
    rw [yP (s:=s) (h:=h) h1 (by omega) (Eq.trans (by rw [← hx,← hy]) (yU (by rw [← hm];exact (ZQ h21 h23 h25)) h26))]
    exact yA hc0 [2,3] []
   refine zk (b:=(qW x)) rfl (Bool.eq_false_iff.2 h25)<|qA<|qL qC [.k3,.d,.n,.r] [ps 77 (bv (decide (m=(-1))))] ?_
   by_cases h27:m=(-1)
   ·refine qR (zP h27)<|qL qC [.k2,.d,.n,.d,.r] [ps 8 (sv (st ([109]:TX)))]<|zF<|qA<|qA<|qL qC [.k3,.n,.r] [ps 82 (bv false)]<|zk (b:=false) rfl rfl<|qF<|qA<|qk qC [(2,.val (.av (.string (st (([]:TX)++([109]:TX)))))),(6,.call [] [(iv (x+1))] [] (sv (st (Lib.itoa (x+1)))) []),(7,.val (.av (.string (st ((([]:TX)++([109]:TX))++(Lib.itoa (x+1)))))))] [ps 2 (sv (st ((([]:TX)++([109]:TX))++(Lib.itoa (x+1))))),ps 3 (iv 0)] (oc (by first|omega|(simp <;> omega):((([]:TX).length+([109]:TX).length:Nat):Int)≤9223372036854775807) (oc (qK _ _:st ([]:TX)++st ([109]:TX)=st (([]:TX)++([109]:TX))) (oi (x+1) (by omega) (yD 552 (zy (x+1) (by omega) (by omega)) (oc (by first|omega|(simp <;> omega):(((([]:TX)++([109]:TX)).length+(Lib.itoa (x+1)).length:Nat):Int)≤9223372036854775807) (oc (qK _ _:st (([]:TX)++([109]:TX))++st (Lib.itoa (x+1))=st ((([]:TX)++([109]:TX))++(Lib.itoa (x+1)))) oz)))))) ?_
    rw [yP (s:=s) (h:=h) h1 (by omega) (Eq.trans (by rw [← hx,← hy]) (yU (q:=[109]) (by rw [← hm];exact (qey h27 h25)) (by decide)))]
    exact yA hc0 [2,3] []
   refine qU (zN h27)<|zY qC [(4,.call [] [(sv (st ([100]:TX))),(nv ((min ((0-m)-1) 7).toNat))] [] (sv (st (Lib.repeatL ([100]:TX) ((min ((0-m)-1) 7).toNat)))) [])] [.k2,.d,.n,.d,.r] [ps 8 (sv (st (Lib.repeatL ([100]:TX) ((min ((0-m)-1) 7).toNat))))] (oi (0-m) (by omega) (oi ((0-m)-1) (by omega) (oc (wA ([100]:TX) ((min ((0-m)-1) 7).toNat) (by omega) (by simp only [List.length_cons,List.length_nil];omega)) (oc (congrArg (fun z=>[(sv (st ([100]:TX))),iv z]) (show min ((0-m)-1) 7=(((min ((0-m)-1) 7).toNat:Nat):Int) from by omega):[(sv (st ([100]:TX))),(iv (min ((0-m)-1) 7))]=qN (qZ [] 504) [(sv (st ([100]:TX))),(nv ((min ((0-m)-1) 7).toNat))]) oz)))) ?_
   refine zF<|qA<|qA<|qL qC [.k3,.n,.r] [ps 82 (bv (decide (6<(((Lib.repeatL ([100]:TX) ((min ((0-m)-1) 7).toNat)).length:Nat):Int))))] ?_
   by_cases h28:6<(((Lib.repeatL ([100]:TX) ((min ((0-m)-1) 7).toNat)).length:Nat):Int)
   ·refine qR (zP h28)<|qA<|qk qC [] [ps 2 se,ps 3 (iv 3)] (oz) ?_
    rw [yP (s:=s) (h:=h) h1 (by omega) (Eq.trans (by rw [← hx,← hy]) (vU (by rw [← hm];exact (QB h21 h23 h25 h27)) h28))]
    exact yA hc0 [2,3] []
   refine qU (zN h28)<|qF<|qA<|qk qC [(2,.val (.av (.string (st (([]:TX)++(Lib.repeatL ([100]:TX) ((min ((0-m)-1) 7).toNat))))))),(6,.call [] [(iv (x+1))] [] (sv (st (Lib.itoa (x+1)))) []),(7,.val (.av (.string (st ((([]:TX)++(Lib.repeatL ([100]:TX) ((min ((0-m)-1) 7).toNat)))++(Lib.itoa (x+1)))))))] [ps 2 (sv (st ((([]:TX)++(Lib.repeatL ([100]:TX) ((min ((0-m)-1) 7).toNat)))++(Lib.itoa (x+1))))),ps 3 (iv 0)] (oc (by first|omega|(simp only [List.length_append,List.length_cons,List.length_nil];omega):((([]:TX).length+(Lib.repeatL ([100]:TX) ((min ((0-m)-1) 7).toNat)).length:Nat):Int)≤9223372036854775807) (oc (qK _ _:st ([]:TX)++st (Lib.repeatL ([100]:TX) ((min ((0-m)-1) 7).toNat))=st (([]:TX)++(Lib.repeatL ([100]:TX) ((min ((0-m)-1) 7).toNat)))) (oi (x+1) (by omega) (yD 592 (zy (x+1) (by omega) (by omega)) (oc (by first|omega|(simp only [List.length_append,List.length_cons,List.length_nil];omega):(((([]:TX)++(Lib.repeatL ([100]:TX) ((min ((0-m)-1) 7).toNat))).length+(Lib.itoa (x+1)).length:Nat):Int)≤9223372036854775807) (oc (qK _ _:st (([]:TX)++(Lib.repeatL ([100]:TX) ((min ((0-m)-1) 7).toNat)))++st (Lib.itoa (x+1))=st ((([]:TX)++(Lib.repeatL ([100]:TX) ((min ((0-m)-1) 7).toNat)))++(Lib.itoa (x+1)))) oz)))))) ?_
   rw [yP (s:=s) (h:=h) h1 (by omega) (Eq.trans (by rw [← hx,← hy]) (yU (by rw [← hm];exact (QB h21 h23 h25 h27)) h28))]
   exact yA hc0 [2,3] []
  refine zY qC (gn 4 7++[(11,.gd false (.yes false)),(12,.yes false)]) [.k2,.n,.r] [ps 24 (bv false)] (on 4 (zN h2) (on 3 (zN h11) (oc (zN h2) (oc (zN h11) (oc (zN h2) oz)))))<|zk (b:=false) rfl rfl<|qF<|qA ?_
  obtain ⟨x,hx⟩:∃ x,x=s:=⟨_,rfl⟩
  obtain ⟨y,hy⟩:∃ y,y=h:=⟨_,rfl⟩
  refine qY (Wk.eq (show _=[ps 1 (.opt 0 0),ps 4 se,ps 24 (bv false),pb 0 41 [(iv x),(iv y)]] from by rw [hx,hy])) ?_
  have hnb:=Pi.nat7_range (x % 7)
  have hl2:=jE (o:=x+1) (by omega) (by omega)
  refine vK qC 2 [.k2,.n,.n,.d,.r] [ps 5 (iv (x / 7)),ps 6 (iv (x % 7))] (yD 176 (ZZ x (by omega) (by omega)) oz)<|qA<|QK qC [(6,.call [] [(iv (x % 7))] [] (iv (Pi.nat7 (x % 7))) [])] (bfr [(0,0),(0,1),(0,0),(2,1),(0,4),(0,0),(5,1),(0,7),(0,8)]) [([78],[2]),([80],[1,78]),([82],[10]),([84],[82]),([86],[80,84]),([88],[12]),([90],[88]),([92],[86,90]),([14],[92])] [.k2,.d,.d,.n,.r] [ps 7 (iv ((y-(12*(x / 7)))-(Pi.nat7 (x % 7))))] (oi (12*(x / 7)) (by omega) (oi (y-(12*(x / 7))) (by omega) (yD 272 (YH (x % 7)) (oi ((y-(12*(x / 7)))-(Pi.nat7 (x % 7))) (by omega) oz))))<|qA ?_
  obtain ⟨m,hm⟩:∃ m,m=vq x y:=⟨_,rfl⟩
  have hmb : -9000≤m∧m≤9000:=by rw [hm];unfold vq;omega
  refine qY (Wk.eq (show _=[ps 1 (.opt 0 0),ps 4 se,ps 7 (iv m),pb 0 41 [(iv x),(iv y)]] from by rw [hm];rfl)) ?_
  refine qL qC [.r] []<|qA<|qV<|qA<|qL qC [.k3,.n,.r] [ps 52 (bv (decide (0<m)))] ?_
  by_cases h29:0<m
  ·refine qR (zP h29)<|zY qC [(2,.call [] [(sv (st ([65]:TX))),(nv ((min m 7).toNat))] [] (sv (st (Lib.repeatL ([65]:TX) ((min m 7).toNat)))) [])] [.k2,.d,.n,.d,.r] [ps 8 (sv (st (Lib.repeatL ([65]:TX) ((min m 7).toNat))))] (oc (wA ([65]:TX) ((min m 7).toNat) (by omega) (by simp only [List.length_cons,List.length_nil];omega)) (oc (congrArg (fun z=>[(sv (st ([65]:TX))),iv z]) (show min m 7=(((min m 7).toNat:Nat):Int) from by omega):[(sv (st ([65]:TX))),(iv (min m 7))]=qN (qZ [] 344) [(sv (st ([65]:TX))),(nv ((min m 7).toNat))]) oz)) ?_
   refine zF<|qA<|qA<|qL qC [.k3,.n,.r] [ps 82 (bv (decide (6<(((Lib.repeatL ([65]:TX) ((min m 7).toNat)).length:Nat):Int))))] ?_
   by_cases h30:6<(((Lib.repeatL ([65]:TX) ((min m 7).toNat)).length:Nat):Int)
   ·refine qR (zP h30)<|qA<|qk qC [] [ps 2 se,ps 3 (iv 3)] (oz) ?_
    rw [yP (s:=s) (h:=h) h1 (by omega) (Eq.trans (by rw [← hx,← hy]) (vU (by rw [← hm];exact (QA h29)) h30))]
    exact yA hc0 [2,3] []
   refine qU (zN h30)<|qF<|qA<|qk qC [(2,.val (.av (.string (st (([]:TX)++(Lib.repeatL ([65]:TX) ((min m 7).toNat))))))),(6,.call [] [(iv (x+1))] [] (sv (st (Lib.itoa (x+1)))) []),(7,.val (.av (.string (st ((([]:TX)++(Lib.repeatL ([65]:TX) ((min m 7).toNat)))++(Lib.itoa (x+1)))))))] [ps 2 (sv (st ((([]:TX)++(Lib.repeatL ([65]:TX) ((min m 7).toNat)))++(Lib.itoa (x+1))))),ps 3 (iv 0)] (oc (by first|omega|(simp <;> omega):((([]:TX).length+(Lib.repeatL ([65]:TX) ((min m 7).toNat)).length:Nat):Int)≤9223372036854775807) (oc (qK _ _:st ([]:TX)++st (Lib.repeatL ([65]:TX) ((min m 7).toNat))=st (([]:TX)++(Lib.repeatL ([65]:TX) ((min m 7).toNat)))) (oi (x+1) (by omega) (yD 432 (zy (x+1) (by omega) (by omega)) (oc (by first|omega|(simp <;> omega):(((([]:TX)++(Lib.repeatL ([65]:TX) ((min m 7).toNat))).length+(Lib.itoa (x+1)).length:Nat):Int)≤9223372036854775807) (oc (qK _ _:st (([]:TX)++(Lib.repeatL ([65]:TX) ((min m 7).toNat)))++st (Lib.itoa (x+1))=st ((([]:TX)++(Lib.repeatL ([65]:TX) ((min m 7).toNat)))++(Lib.itoa (x+1)))) oz)))))) ?_
   rw [yP (s:=s) (h:=h) h1 (by omega) (Eq.trans (by rw [← hx,← hy]) (yU (by rw [← hm];exact (QA h29)) h30))]
   exact yA hc0 [2,3] []
  refine qU (zN h29)<|qA ?_
  by_cases h31:m=0
  ·refine zY qC (gy 3 2++[(5,.gd true (.call [] [(iv x)] [] (bv (qW x)) [])),(6,.yes true)]) [.k3,.d,.n,.r] [ps 58 (bv (qW x))] (on 3 (zP h31) (yD 368 (wZ x (by omega)) (oc (zP h31) oz))) ?_
   by_cases h32:(qW x)=true
   ·refine yK (b:=(qW x)) rfl h32<|qL qC [.k2,.d,.n,.d,.r] [ps 8 (sv (st ([80]:TX)))]<|zF<|qA<|qA<|qL qC [.k3,.n,.r] [ps 82 (bv false)]<|zk (b:=false) rfl rfl<|qF<|qA<|qk qC [(2,.val (.av (.string (st (([]:TX)++([80]:TX)))))),(6,.call [] [(iv (x+1))] [] (sv (st (Lib.itoa (x+1)))) []),(7,.val (.av (.string (st ((([]:TX)++([80]:TX))++(Lib.itoa (x+1)))))))] [ps 2 (sv (st ((([]:TX)++([80]:TX))++(Lib.itoa (x+1))))),ps 3 (iv 0)] (oc (by first|omega|(simp <;> omega):((([]:TX).length+([80]:TX).length:Nat):Int)≤9223372036854775807) (oc (qK _ _:st ([]:TX)++st ([80]:TX)=st (([]:TX)++([80]:TX))) (oi (x+1) (by omega) (yD 472 (zy (x+1) (by omega) (by omega)) (oc (by first|omega|(simp <;> omega):(((([]:TX)++([80]:TX)).length+(Lib.itoa (x+1)).length:Nat):Int)≤9223372036854775807) (oc (qK _ _:st (([]:TX)++([80]:TX))++st (Lib.itoa (x+1))=st ((([]:TX)++([80]:TX))++(Lib.itoa (x+1)))) oz)))))) ?_
    rw [yP (s:=s) (h:=h) h1 (by omega) (Eq.trans (by rw [← hx,← hy]) (yU (q:=[80]) (by rw [← hm];exact (VQ h31 h32)) (by decide)))]
    exact yA hc0 [2,3] []
   refine zk (b:=(qW x)) rfl (Bool.eq_false_iff.2 h32)<|qA<|qL qC [.k3,.d,.n,.r] [ps 66 (bv (decide (m=0)))]<|qR (zP h31)<|qL qC [.k2,.d,.n,.d,.r] [ps 8 (sv (st ([77]:TX)))]<|zF<|qA<|qA<|qL qC [.k3,.n,.r] [ps 82 (bv false)]<|zk (b:=false) rfl rfl<|qF<|qA<|qk qC [(2,.val (.av (.string (st (([]:TX)++([77]:TX)))))),(6,.call [] [(iv (x+1))] [] (sv (st (Lib.itoa (x+1)))) []),(7,.val (.av (.string (st ((([]:TX)++([77]:TX))++(Lib.itoa (x+1)))))))] [ps 2 (sv (st ((([]:TX)++([77]:TX))++(Lib.itoa (x+1))))),ps 3 (iv 0)] (oc (by first|omega|(simp <;> omega):((([]:TX).length+([77]:TX).length:Nat):Int)≤9223372036854775807) (oc (qK _ _:st ([]:TX)++st ([77]:TX)=st (([]:TX)++([77]:TX))) (oi (x+1) (by omega) (yD 496 (zy (x+1) (by omega) (by omega)) (oc (by first|omega|(simp <;> omega):(((([]:TX)++([77]:TX)).length+(Lib.itoa (x+1)).length:Nat):Int)≤9223372036854775807) (oc (qK _ _:st (([]:TX)++([77]:TX))++st (Lib.itoa (x+1))=st ((([]:TX)++([77]:TX))++(Lib.itoa (x+1)))) oz)))))) ?_
   rw [yP (s:=s) (h:=h) h1 (by omega) (Eq.trans (by rw [← hx,← hy]) (yU (q:=[77]) (by rw [← hm];exact (qez h31 h32)) (by decide)))]
   exact yA hc0 [2,3] []
  refine zY qC (gn 3 3++[(6,.yes false)]) [.k3,.d,.n,.r] [ps 58 (bv false)] (on 4 (zN h31) oz)<|zk (b:=false) rfl rfl<|qA<|qL qC [.k3,.d,.n,.r] [ps 66 (bv (decide (m=0)))]<|qU (zN h31)<|qA<|vK qC 2 [.k3,.d,.n,.r] [ps 69 (bv (qW x))] (yD 432 (wZ x (by omega)) oz) ?_
  by_cases h33:(qW x)=true
  ·refine yK (b:=(qW x)) rfl h33<|zY qC [(3,.call [] [(sv (st ([100]:TX))),(nv ((min (0-m) 7).toNat))] [] (sv (st (Lib.repeatL ([100]:TX) ((min (0-m) 7).toNat)))) [])] [.k2,.d,.n,.d,.r] [ps 8 (sv (st (Lib.repeatL ([100]:TX) ((min (0-m) 7).toNat))))] (oi (0-m) (by omega) (oc (wA ([100]:TX) ((min (0-m) 7).toNat) (by omega) (by simp only [List.length_cons,List.length_nil];omega)) (oc (congrArg (fun z=>[(sv (st ([100]:TX))),iv z]) (show min (0-m) 7=(((min (0-m) 7).toNat:Nat):Int) from by omega):[(sv (st ([100]:TX))),(iv (min (0-m) 7))]=qN (qZ [] 472) [(sv (st ([100]:TX))),(nv ((min (0-m) 7).toNat))]) oz))) ?_
   refine zF<|qA<|qA<|qL qC [.k3,.n,.r] [ps 82 (bv (decide (6<(((Lib.repeatL ([100]:TX) ((min (0-m) 7).toNat)).length:Nat):Int))))] ?_
   by_cases h34:6<(((Lib.repeatL ([100]:TX) ((min (0-m) 7).toNat)).length:Nat):Int)
   ·refine qR (zP h34)<|qA<|qk qC [] [ps 2 se,ps 3 (iv 3)] (oz) ?_
    rw [yP (s:=s) (h:=h) h1 (by omega) (Eq.trans (by rw [← hx,← hy]) (vU (by rw [← hm];exact (ZQ h29 h31 h33)) h34))]
    exact yA hc0 [2,3] []
   refine qU (zN h34)<|qF<|qA<|qk qC [(2,.val (.av (.string (st (([]:TX)++(Lib.repeatL ([100]:TX) ((min (0-m) 7).toNat))))))),(6,.call [] [(iv (x+1))] [] (sv (st (Lib.itoa (x+1)))) []),(7,.val (.av (.string (st ((([]:TX)++(Lib.repeatL ([100]:TX) ((min (0-m) 7).toNat)))++(Lib.itoa (x+1)))))))] [ps 2 (sv (st ((([]:TX)++(Lib.repeatL ([100]:TX) ((min (0-m) 7).toNat)))++(Lib.itoa (x+1))))),ps 3 (iv 0)] (oc (by first|omega|(simp only [List.length_append,List.length_cons,List.length_nil];omega):((([]:TX).length+(Lib.repeatL ([100]:TX) ((min (0-m) 7).toNat)).length:Nat):Int)≤9223372036854775807) (oc (qK _ _:st ([]:TX)++st (Lib.repeatL ([100]:TX) ((min (0-m) 7).toNat))=st (([]:TX)++(Lib.repeatL ([100]:TX) ((min (0-m) 7).toNat)))) (oi (x+1) (by omega) (yD 560 (zy (x+1) (by omega) (by omega)) (oc (by first|omega|(simp only [List.length_append,List.length_cons,List.length_nil];omega):(((([]:TX)++(Lib.repeatL ([100]:TX) ((min (0-m) 7).toNat))).length+(Lib.itoa (x+1)).length:Nat):Int)≤9223372036854775807) (oc (qK _ _:st (([]:TX)++(Lib.repeatL ([100]:TX) ((min (0-m) 7).toNat)))++st (Lib.itoa (x+1))=st ((([]:TX)++(Lib.repeatL ([100]:TX) ((min (0-m) 7).toNat)))++(Lib.itoa (x+1)))) oz)))))) ?_
   rw [yP (s:=s) (h:=h) h1 (by omega) (Eq.trans (by rw [← hx,← hy]) (yU (by rw [← hm];exact (ZQ h29 h31 h33)) h34))]
   exact yA hc0 [2,3] []
  refine zk (b:=(qW x)) rfl (Bool.eq_false_iff.2 h33)<|qA<|qL qC [.k3,.d,.n,.r] [ps 77 (bv (decide (m=(-1))))] ?_
  by_cases h35:m=(-1)
  ·refine qR (zP h35)<|qL qC [.k2,.d,.n,.d,.r] [ps 8 (sv (st ([109]:TX)))]<|zF<|qA<|qA<|qL qC [.k3,.n,.r] [ps 82 (bv false)]<|zk (b:=false) rfl rfl<|qF<|qA<|qk qC [(2,.val (.av (.string (st (([]:TX)++([109]:TX)))))),(6,.call [] [(iv (x+1))] [] (sv (st (Lib.itoa (x+1)))) []),(7,.val (.av (.string (st ((([]:TX)++([109]:TX))++(Lib.itoa (x+1)))))))] [ps 2 (sv (st ((([]:TX)++([109]:TX))++(Lib.itoa (x+1))))),ps 3 (iv 0)] (oc (by first|omega|(simp <;> omega):((([]:TX).length+([109]:TX).length:Nat):Int)≤9223372036854775807) (oc (qK _ _:st ([]:TX)++st ([109]:TX)=st (([]:TX)++([109]:TX))) (oi (x+1) (by omega) (yD 552 (zy (x+1) (by omega) (by omega)) (oc (by first|omega|(simp <;> omega):(((([]:TX)++([109]:TX)).length+(Lib.itoa (x+1)).length:Nat):Int)≤9223372036854775807) (oc (qK _ _:st (([]:TX)++([109]:TX))++st (Lib.itoa (x+1))=st ((([]:TX)++([109]:TX))++(Lib.itoa (x+1)))) oz)))))) ?_
   rw [yP (s:=s) (h:=h) h1 (by omega) (Eq.trans (by rw [← hx,← hy]) (yU (q:=[109]) (by rw [← hm];exact (qey h35 h33)) (by decide)))]
   exact yA hc0 [2,3] []
  refine qU (zN h35)<|zY qC [(4,.call [] [(sv (st ([100]:TX))),(nv ((min ((0-m)-1) 7).toNat))] [] (sv (st (Lib.repeatL ([100]:TX) ((min ((0-m)-1) 7).toNat)))) [])] [.k2,.d,.n,.d,.r] [ps 8 (sv (st (Lib.repeatL ([100]:TX) ((min ((0-m)-1) 7).toNat))))] (oi (0-m) (by omega) (oi ((0-m)-1) (by omega) (oc (wA ([100]:TX) ((min ((0-m)-1) 7).toNat) (by omega) (by simp only [List.length_cons,List.length_nil];omega)) (oc (congrArg (fun z=>[(sv (st ([100]:TX))),iv z]) (show min ((0-m)-1) 7=(((min ((0-m)-1) 7).toNat:Nat):Int) from by omega):[(sv (st ([100]:TX))),(iv (min ((0-m)-1) 7))]=qN (qZ [] 504) [(sv (st ([100]:TX))),(nv ((min ((0-m)-1) 7).toNat))]) oz)))) ?_
  refine zF<|qA<|qA<|qL qC [.k3,.n,.r] [ps 82 (bv (decide (6<(((Lib.repeatL ([100]:TX) ((min ((0-m)-1) 7).toNat)).length:Nat):Int))))] ?_
  by_cases h36:6<(((Lib.repeatL ([100]:TX) ((min ((0-m)-1) 7).toNat)).length:Nat):Int)
  ·refine qR (zP h36)<|qA<|qk qC [] [ps 2 se,ps 3 (iv 3)] (oz) ?_
   rw [yP (s:=s) (h:=h) h1 (by omega) (Eq.trans (by rw [← hx,← hy]) (vU (by rw [← hm];exact (QB h29 h31 h33 h35)) h36))]
   exact yA hc0 [2,3] []
  refine qU (zN h36)<|qF<|qA<|qk qC [(2,.val (.av (.string (st (([]:TX)++(Lib.repeatL ([100]:TX) ((min ((0-m)-1) 7).toNat))))))),(6,.call [] [(iv (x+1))] [] (sv (st (Lib.itoa (x+1)))) []),(7,.val (.av (.string (st ((([]:TX)++(Lib.repeatL ([100]:TX) ((min ((0-m)-1) 7).toNat)))++(Lib.itoa (x+1)))))))] [ps 2 (sv (st ((([]:TX)++(Lib.repeatL ([100]:TX) ((min ((0-m)-1) 7).toNat)))++(Lib.itoa (x+1))))),ps 3 (iv 0)] (oc (by first|omega|(simp only [List.length_append,List.length_cons,List.length_nil];omega):((([]:TX).length+(Lib.repeatL ([100]:TX) ((min ((0-m)-1) 7).toNat)).length:Nat):Int)≤9223372036854775807) (oc (qK _ _:st ([]:TX)++st (Lib.repeatL ([100]:TX) ((min ((0-m)-1) 7).toNat))=st (([]:TX)++(Lib.repeatL ([100]:TX) ((min ((0-m)-1) 7).toNat)))) (oi (x+1) (by omega) (yD 592 (zy (x+1) (by omega) (by omega)) (oc (by first|omega|(simp only [List.length_append,List.length_cons,List.length_nil];omega):(((([]:TX)++(Lib.repeatL ([100]:TX) ((min ((0-m)-1) 7).toNat))).length+(Lib.itoa (x+1)).length:Nat):Int)≤9223372036854775807) (oc (qK _ _:st (([]:TX)++(Lib.repeatL ([100]:TX) ((min ((0-m)-1) 7).toNat)))++st (Lib.itoa (x+1))=st ((([]:TX)++(Lib.repeatL ([100]:TX) ((min ((0-m)-1) 7).toNat)))++(Lib.itoa (x+1)))) oz)))))) ?_
  rw [yP (s:=s) (h:=h) h1 (by omega) (Eq.trans (by rw [← hx,← hy]) (yU (by rw [← hm];exact (QB h29 h31 h33 h35)) h36))]
  exact yA hc0 [2,3] []
 refine qR (congrArg Bool.not (Bool.eq_false_iff.2 h1))<|qA<|qk qC [] [ps 2 se,ps 3 (iv 3)] (oz) ?_
 rw [qfo (s:=s) (h:=h) h1]
 exact yA hc0 [2,3] []
end Go.Proofs.YtmlnilkbolcknaaGreatDoor.Pm
