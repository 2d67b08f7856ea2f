/-
  SCORE: plain,for the document's reader: bars,voices,pieces: its loops;names. No program in sight. | SCORE: the document's reader: pieces: walk. (Printed by wip/pm.) | THE VALUE MACHINE: trailing dead numbers dropped where the result is a slice that nobody writes and a pair of plain values. No program in sight. | strings.IndexRune at runes above ASCII in texts of ASCII;strings.IndexAny at short texts of any bytes. Over any program. | A rune that does not begin in ASCII: none of its bytes is ASCII;a step of a range zF a string in whatever world. | strings.IndexAny at a text of at most 8 bytes,whatever its bytes;the signs are ASCII. Over any program. | SCORE: whatever the text: what the reader asks of the library's texts. | SCORE: a text read: groups: walk. (Printed by wip/pm.) | INTERVALS AS TEXTS: written: walks. (Printed by wip/pm.) | INTERVALS AS TEXTS: read: walk. (Printed by wip/pm.)
-/
import Derived.Test.YtmlnilkbolcknaaGreatDoorJLawSReads4
import Derived.Test.YtmlnilkbolcknaaGreatDoorJLawSReads2
import Derived.Shelf.Strings.IndexAnyAll
import Derived.Shelf.Small.Utf8
import Derived.Laws.Runes
import Derived.Laws.RangeAny
import Derived.Walk
import Derived.Shelf.RegionOpen
import Derived.WalkMore
import Derived.Deep.LoopGhost
import Derived.Lib.IndexAny
import Derived.Lib.IndexBytes
import Derived.Lib.Builder
import Derived.Shelf.Strconv.AtoiAll
import Derived.Test.YtmlnilkbolcknaaGreatDoorJLawSReads3
set_option linter.unusedVariables false
set_option linter.unusedSimpArgs false
set_option linter.deprecated false
namespace Go.Proofs.YtmlnilkbolcknaaGreatDoor.Pm
open Go Go.Proofs.YtmlnilkbolcknaaGreatDoor.Pi
theorem YT (s:zX) (a:Nat):qC s (qA s a)=qC s a:=by unfold qC;rw [vG]
def BI (s:zX) (BL:Int × List It × Nat × Nat) (l:List It) (b:Nat) (e f kk:Int) (g:Bool):Prop :=
 (g=true∧e=0∧f=0∧∃ q:Nat,kk=(q:Int)∧b≤s.length∧l.length+q≤4095∧brL s l b q=BL) ∨
 (g=false∧e=0∧f=0∧∃ q:Nat,kk=(q:Int)∧b≤s.length∧BL=(0,l,b,q)) ∨
 (g=false∧¬ e=0∧f=(b:Int)∧BL=(e,[],b,0))
section
variable {s:zX} {BL:Int × List It × Nat × Nat} {l:List It} {b:Nat} {e f kk:Int} {g:Bool}
theorem bi_go (h:BI s BL l b e f kk g) (hg:g=true) (he:e=0):f=0∧∃ q:Nat,kk=(q:Int)∧b≤s.length∧l.length+q≤4095∧brL s l b q=BL:=by
 rcases h with h|h|h
 ·exact h.2.2
 ·rw [hg] at h;cases h.1
 ·exact absurd he h.2.1
theorem bi_done (h:BI s BL l b e f kk g) (hg:¬ g=true) (he:e=0):f=0∧∃ q:Nat,kk=(q:Int)∧b≤s.length∧BL=(0,l,b,q):=by
 rcases h with h|h|h
 ·exact absurd h.1 hg
 ·exact h.2.2
 ·exact absurd he h.2.1
theorem bi_err (h:BI s BL l b e f kk g) (he:¬ e=0):f=(b:Int)∧BL=(e,[],b,0):=by
 rcases h with h|h|h
 ·exact absurd h.2.1 he
 ·exact absurd h.2.1 he
 ·exact h.2.2
theorem bi_g {h:BI s BL l b e f kk g} (hg:g=true):e=0:=by
 rcases h with h|h|h
 ·exact h.2.1
 ·exact h.2.1
 ·rw [hg] at h;cases h.1
theorem qif {q:Nat} (hb:b≤s.length) (h1:brL s l b q=BL) (hx:(qN s 1 b q).1=0) (hc:qA s (qN s 1 b q).2.2.1=s.length∨qP s (qN s 1 b q).2.2.1 124=true∨qC s (qN s 1 b q).2.2.1=vow) :
  BI s BL (l++[(qN s 1 b q).2.1]) (qA s (qN s 1 b q).2.2.1) 0 0 ((((qN s 1 b q).2.2.2:Nat)):Int) false:=by
 have hie:=wT (lv:=1) (k:=q) hb hx
 exact .inr (.inl ⟨rfl,rfl,rfl,_,rfl,zR hie.1.2,by rw [← h1,YR,if_pos hx,if_pos hc]⟩)
theorem bi_next {q:Nat} (hb:b≤s.length) (hlq:l.length+q≤4095) (h1:brL s l b q=BL) (hx:(qN s 1 b q).1=0) (hc:¬ (qA s (qN s 1 b q).2.2.1=s.length∨qP s (qN s 1 b q).2.2.1 124=true∨qC s (qN s 1 b q).2.2.1=vow)) :
  BI s BL (l++[(qN s 1 b q).2.1]) (qA s (qN s 1 b q).2.2.1) 0 0 ((((qN s 1 b q).2.2.2:Nat)):Int) true:=by
 have hie:=wT (lv:=1) (k:=q) hb hx
 exact .inl ⟨rfl,rfl,rfl,_,rfl,zR hie.1.2,by have:=hie.2;simp only [List.length_append,List.length_singleton];omega,by rw [← h1,YR (l:=l) (a:=b) (k:=q),if_pos hx,if_neg hc,if_pos hie.2]⟩
theorem bi_no {q:Nat} (h1:brL s l b q=BL) (hx:¬ (qN s 1 b q).1=0) :
  BI s BL (l++[(yv s 1 b q).1]) (qN s 1 b q).2.2.1 (qN s 1 b q).1 ((((qN s 1 b q).2.2.1:Nat)):Int) (yv s 1 b q).2 false :=
 .inr (.inr ⟨rfl,hx,rfl,by rw [← h1,YR,if_neg hx]⟩)
end
def VI (s:zX) (VL:Int × List Br × Nat × Int) (l:List Br) (b:Nat) (e f:Int):Prop :=
 (e=0∧f=0∧b≤s.length∧l.length≤1024∧∃ z,vcL s (1024-l.length) l b z=VL)∨(¬ e=0∧f=(b:Int)∧VL=(e,[],b,0))
theorem vi_go {s:zX} {VL:Int × List Br × Nat × Int} {l:List Br} {b:Nat} {e f:Int} (h:VI s VL l b e f) (he:e=0):f=0∧b≤s.length∧l.length≤1024∧∃ z,vcL s (1024-l.length) l b z=VL:=by
 rcases h with h|h
 ·exact h.2
 ·exact absurd he h.1
theorem vi_err {s:zX} {VL:Int × List Br × Nat × Int} {l:List Br} {b:Nat} {e f:Int} (h:VI s VL l b e f) (he:¬ e=0):f=(b:Int)∧VL=(e,[],b,0):=by
 rcases h with h|h
 ·exact absurd h.1 he
 ·exact h.2
def RI (s:zX) (RL:Int × List Vo × Nat) (l:List Vo) (b:Nat) (e f:Int):Prop :=
 (e=0∧f=0∧b≤s.length∧l.length≤64∧∃ z,rdL s (64-l.length) l b z=RL)∨(¬ e=0∧f=(b:Int)∧RL=(e,[],b))
theorem ri_go {s:zX} {RL:Int × List Vo × Nat} {l:List Vo} {b:Nat} {e f:Int} (h:RI s RL l b e f) (he:e=0):f=0∧b≤s.length∧l.length≤64∧∃ z,rdL s (64-l.length) l b z=RL:=by
 rcases h with h|h
 ·exact h.2
 ·exact absurd he h.1
theorem ri_err {s:zX} {RL:Int × List Vo × Nat} {l:List Vo} {b:Nat} {e f:Int} (h:RI s RL l b e f) (he:¬ e=0):f=(b:Int)∧RL=(e,[],b):=by
 rcases h with h|h
 ·exact absurd h.1 he
 ·exact h.2
def mE (e:Int) (n m:Nat):Nat:=if e=0 then n+1-m else 0
theorem WY {e e':Int} {n m m':Nat} (he:e=0) (hm:m≤n) (h:¬ e'=0):mE e' n m'<mE e n m:=by
 rw [show mE e n m=n+1-m from if_pos he,show mE e' n m'=0 from if_neg h];omega
theorem mE_next {e:Int} {n m m':Nat} (he:e=0) (hm:m≤n) (h:m<m'):mE 0 n m'<mE e n m:=by
 rw [show mE e n m=n+1-m from if_pos he,show mE 0 n m'=n+1-m' from if_pos rfl];omega
theorem abc_b {b:UInt8}:b∈abc↔¬ (((b.toNat:Nat):Int)<97∨122<(b.toNat:Int)):=by
 have h:∀ n:Fin 256,(UInt8.ofNat n.1∈abc↔¬ ((((UInt8.ofNat n.1).toNat:Nat):Int)<97∨122<(((UInt8.ofNat n.1).toNat:Nat):Int))):=by decide +kernel
 have:=h ⟨b.toNat,b.toNat_lt⟩
 simpa using this
theorem name_no {s:zX} {i:Nat} (hi:i<s.length) (h:((((s.getD i 0).toNat:Nat)):Int)<97∨122<((((s.getD i 0).toNat:Nat)):Int)):jF s=false:=by
 unfold jF
 refine decide_eq_false fun c=>?_
 have:=c.2.2 (s.getD i 0) (get_mem hi)
 rw [abc_b] at this
 exact this h
theorem name_is {s:zX} (h:∀ j,j<s.length→¬ (((((s.getD j 0).toNat:Nat)):Int)<97∨122<((((s.getD j 0).toNat:Nat)):Int))):jF s=decide (0<s.length∧s.length≤32):=by
 unfold jF
 rw [Bool.eq_iff_iff,decide_eq_true_eq,decide_eq_true_eq]
 constructor
 ·rintro ⟨h1,h2,_⟩
  exact ⟨List.length_pos_iff.2 h1,h2⟩
 ·rintro ⟨h1,h2⟩
  refine ⟨List.length_pos_iff.1 h1,h2,fun b hb=>?_⟩
  obtain ⟨j,hj,rfl⟩:=List.mem_iff_getElem.1 hb
  have:=h j hj
  rw [List.getD_eq_getElem?_getD,List.getElem?_eq_getElem hj,Option.getD_some] at this
  exact abc_b.2 this
/-! ### where a text is wrong lies inside it -/
theorem behind_le {w:zX} (h:w≠[]):(vL w).2.2≤w.length:=by
 have hl:=List.length_pos_iff.2 h
 unfold vL
 split
 ·rename_i c
  have h1:([226,153,174]:zX).length≤(w.drop 1).length:=by
   unfold Lib.hasPrefix at c
   exact (List.isPrefixOf_iff_prefix.1 c).length_le
  rw [List.length_drop] at h1
  simp only [List.length_cons,List.length_nil] at h1
  show 4≤w.length
  omega
 ·have:=(qgb (w.drop 1) 0 1).2
  rw [List.length_drop] at this
  omega
theorem readS_le (w:zX):(qW w).2.2.toNat≤w.length:=by
 unfold qW
 split
 ·exact Nat.zero_le _
 ·rename_i c
  have h:=behind_le (w:=w) fun e=>c (.inl e)
  repeat' split
  all_goals first|exact Nat.zero_le _|(show ((vL w).2.2:Int).toNat≤_;omega)
theorem pit_in {s:zX} {a:Nat} (h:a≤s.length):(qJ s a).2.2≤s.length:=by
 have h1:=yV h
 have h2:=readS_le (qC s a)
 unfold qJ
 split
 ·exact h1
 ·show qA s a+_≤_;omega
theorem chL_in {s:zX}:∀ (m:Nat) (ps:List Pt) (a:Nat),a≤s.length→(Yx s m ps a).2.2≤s.length
 | 0,ps,a,h=>h
 | m+1,ps,a,h=>by
  rw [Yx]
  split
  ·rename_i c
   have hp:=VE h c
   split
   ·rename_i c2
    exact zM c2
   ·exact chL_in m _ _ (zR hp.2)
  ·exact pit_in h
theorem items_in (s:zX):∀ (m:Nat) (k:Nat),k<m →
  (∀ (lv:Int) (a:Nat),a≤s.length→(qN s lv a k).2.2.1≤s.length) ∧
  (∀ (lv:Int) (l:List It) (a:Nat),a≤s.length→(grL s lv l a k).2.2.1≤s.length):=by
 intro m
 induction m with
 | zero=>intro k h;omega
 | succ m ih =>
  intro k hk
  have hgr:0<k→∀ (lv:Int) (a:Nat),a≤s.length→(yE s lv a (k-1)).2.2.1≤s.length:=by
   intro h1 lv a ha
   rw [jN]
   split
   ·rename_i c
    exact (ih (k-1) (by omega)).2 lv [] _ (zM c)
   ·exact zR ha
  have ht:∀ {x:It} {a q:Nat},a≤s.length→(zw s x a q).2.2.1≤s.length:=fun h=>(qiq h).2.1
  have hit:∀ (lv:Int) (a:Nat),a≤s.length→(qN s lv a k).2.2.1≤s.length:=by
   intro lv a ha
   have hgl:=zR ha
   have hwl:=yV ha
   rw [zT]
   split
   ·exact hgl
   rename_i c0
   have hk0:0<k:=by omega
   split
   ·rename_i c1
    rw [c1,List.length_singleton] at hwl
    exact ht hwl
   split
   ·rename_i c2
    exact ht (zM c2)
   split
   ·rename_i c3
    rw [c3,List.length_cons,List.length_singleton] at hwl
    have hwl2:=yV (s:=s) (a:=qA s a+2) (by omega)
    have hg2:=zR (s:=s) (a:=qA s a+2) (by omega)
    split
    ·split
     ·exact ht (hgr hk0 lv _ hwl2)
     ·exact hgr hk0 lv _ hwl2
    ·exact hg2
   split
   ·split
    ·exact ht (hgr hk0 lv _ hgl)
    ·exact hgr hk0 lv _ hgl
   split
   ·rename_i c6
    split
    ·exact ht (chL_in 16 [] _ (zM c6))
    ·exact chL_in 16 [] _ (zM c6)
   split
   ·exact ht (pit_in hgl)
   ·exact pit_in hgl
  refine ⟨hit,?_⟩
  intro lv l a ha
  rw [qcn]
  split
  ·rename_i c1
   have h1:=wT (lv:=lv+1) (k:=k) ha c1
   split
   ·rename_i c2
    exact zM c2
   split
   ·rename_i c3
    exact (ih _ (by omega)).2 lv _ _ (zR h1.1.2)
   ·exact Nat.zero_le _
  ·exact hit (lv+1) a ha
theorem itR_in {s:zX} {lv:Int} {a k:Nat} (h:a≤s.length):(qN s lv a k).2.2.1≤s.length:=(items_in s (k+1) k (Nat.lt_succ_self k)).1 lv a h
set_option maxRecDepth 100000
set_option maxHeartbeats 4000000
theorem qeg {s:zX} (hs:s.length≤65536):∀ (m k:Nat),k<m→k≤4095→∀ (lv:Int),0≤lv∧lv≤32→∀ (a:Nat),a≤s.length→PC Tryz.prog 47 [.opt 0 0,iv lv] [some (103,(vN s a 0 0 k))] (if (qN s lv a k).1=0 then .agg (gI (qN s lv a k).2.1) else .agg (gI (yv s lv a k).1)) (if (qN s lv a k).1=0 then [some (103,(vN s ((qN s lv a k).2.2.1) 0 0 ((qN s lv a k).2.2.2))),none] else [some (103,(yz s ((qN s lv a k).2.2.1) ((qN s lv a k).1) ((qN s lv a k).2.2.1) ((yv s lv a k).2))),none])
 | 0,k,h,_,_,_,_,_=>absurd h (Nat.not_lt_zero k)
 | m+1,k,h,hk,lv,hlv,a,ha=>qitem_step s hs lv hlv a k ha hk (fun h0 h1 b q hb hq=>qeg hs m q (by omega) (by omega) (lv+1) ⟨by omega,by omega⟩ b hb)
theorem qjh {s:zX} (hs:s.length≤65536) {k:Nat} (hk:k≤4095) {lv:Int} (hlv:0≤lv∧lv≤32) {a:Nat} (ha:a≤s.length):PC Tryz.prog 47 [.opt 0 0,iv lv] [some (103,(vN s a 0 0 k))] (if (qN s lv a k).1=0 then .agg (gI (qN s lv a k).2.1) else .agg (gI (yv s lv a k).1)) (if (qN s lv a k).1=0 then [some (103,(vN s ((qN s lv a k).2.2.1) 0 0 ((qN s lv a k).2.2.2))),none] else [some (103,(yz s ((qN s lv a k).2.2.1) ((qN s lv a k).1) ((qN s lv a k).2.2.1) ((yv s lv a k).2))),none]):=qeg hs (k+1) k (Nat.lt_succ_self k) hk lv hlv a ha
theorem qname_pc (s:zX) (hs:s.length≤140737488351232):PC Tryz.prog 25 [(sv (st s))] [] (bv (jF s)) []:=by
 refine zG Tryz.func25 rfl (by kernel_rfl) (Nat.le_of_ble_eq_true rfl) (by kernel_rfl) (l0:=[ps 0 (sv (st s))]) rfl (fun c0 Bor hc0=>?_)
 refine qB<|qH qD [.r] []<|qB<|qB<|qH qD [.k1,.n] [ps 3 (iv 0)]<|qX<|zy (α:={x:Nat // x≤s.length∧(∀ j,j<x→¬ (((((s.getD j 0).toNat:Nat)):Int)<97∨122<((((s.getD j 0).toNat:Nat)):Int)))}) (fun x=>[ps 0 (sv (st s)),ps 3 (nv x.1)]) (fun x=>s.length-x.1) 0 ⟨0,⟨Nat.zero_le _,fun j hj=>absurd hj (Nat.not_lt_zero j)⟩⟩ (Wk.ren2 _ 0 hc0 [] rfl rfl (by kernel_rfl) (by kernel_rfl)) ?_
 rintro ⟨i,⟨hi,hno⟩⟩
 refine qB<|qB<|zD qD [] [ps 0 (sv (st s)),ps 3 (nv i),ps 7 (bv (decide (((i:Nat):Int)<(s.length:Int))))] (oz) ?_
 by_cases h1:(i:Int)<(s.length:Int)
 ·refine qS (qT h1)<|qF<|qB<|qX<|qB ?_
  by_cases h2:(((s.getD i 0).toNat:Nat):Int)<97
  ·refine qQ qD (gy 5 4++[(9,.yes true)]) [.k2,.d,.n] [ps 19 (bv true)] (oc (by first|omega|(simp <;> omega):(0:Int)≤(i:Int)∧(i:Int)<(s.length:Int)) (on 5 (qT h2) oz))<|qL (b:=true) rfl rfl<|qB<|zD qD [] [ps 2 (bv false)] (oz) ?_
   rw [name_no (s:=s) (i:=i) (by omega) (by omega)]
   exact yk fun cx_ a_ hI_=>zB (rt hc0 [ps 2 (bv false)] [] hI_)
  refine qQ qD (gn 5 4++[(9,.yes false)]) [.k2,.d,.n] [ps 19 (bv (decide (122<(((s.getD i 0).toNat:Nat):Int))))] (oc (by first|omega|(simp <;> omega):(0:Int)≤(i:Int)∧(i:Int)<(s.length:Int)) (on 3 (qV h2) (oc (by first|omega|(simp <;> omega):(0:Int)≤(i:Int)∧(i:Int)<(s.length:Int)) (on 2 (qV h2) oz)))) ?_
  by_cases h3:122<(((s.getD i 0).toNat:Nat):Int)
  ·refine qS (qT h3)<|qB<|zD qD [] [ps 2 (bv false)] (oz) ?_
   rw [name_no (s:=s) (i:=i) (by omega) (by omega)]
   exact yk fun cx_ a_ hI_=>zB (rt hc0 [ps 2 (bv false)] [] hI_)
  refine qR (qV h3)<|qF<|qZ<|zD qD [] [ps 0 (sv (st s)),ps 3 (iv (((i:Nat):Int)+1))] (oi (((i:Nat):Int)+1) (by omega) oz) ?_
  exact qq ⟨i+1,⟨by show i+1≤s.length;omega,fun j hj=>(Nat.lt_or_ge j i).elim (hno j) fun hji=>by rw [show j=i by omega];omega⟩⟩ (Wk.trans (Wk.eq (show _=[ps 0 (sv (st s)),ps 3 (nv (i+1))] from by rfl)) (Wk.ren2 _ 0 hc0 [] rfl rfl (by kernel_rfl) (by kernel_rfl))) (show s.length-(i+1)<s.length-i from by show s.length-(i+1)<s.length-i;omega)
 refine qR (qV h1)<|zI rfl rfl<|qB ?_
 by_cases h4:0<(s.length:Int)
 ·refine zD qD (gy 4 3++[(7,.yes true)]) [ps 2 (bv (decide (((s.length:Nat):Int)≤32)))] (on 4 (qT h4) oz) ?_
  rw [name_is (s:=s) fun j hj=>hno j (by omega),show decide (0<s.length∧s.length≤32)=(decide (((s.length:Nat):Int)≤32)) from by rw [Bool.eq_iff_iff];simp only [decide_eq_true_eq];omega]
  exact qk hc0 [2] []
 refine zD qD (gn 4 3++[(7,.yes false)]) [ps 2 (bv false)] (on 4 (qV h4) oz) ?_
 rw [name_is (s:=s) fun j hj=>hno j (by omega),show decide (0<s.length∧s.length≤32)=false from qV (by omega)]
 exact qk hc0 [2] []
theorem qread_pc0 (s:zX) (hs1:s.length≤140737488351232):PC Tryz.prog 16 [(sv (st s))] [] (.tup [(.ssl (yD ((yX s).2.1)) 0 ((yX s).2.1.length)),(.agg [(iv ((yX s).1)),(nv ((yX s).2.2))])]) [none]:=by
 refine zG Tryz.func16 rfl (by kernel_rfl) (Nat.le_of_ble_eq_true rfl) (by kernel_rfl) (l0:=[ps 0 (sv (st s))]) rfl (fun c0 Bor hc0=>?_)
 refine qB<|qH qD [.k1,.n,.n] [ps 3 (.opt 8 0),pb 8 33 [(iv 0),(iv 0)]]<|qB<|qB<|qH qD [.k2,.n,.r] [ps 13 (bv (decide (65536<(s.length:Int))))] ?_
 by_cases h1:65536<(s.length:Int)
 ·refine qS (qT h1)<|qB<|zD qD [] [ps 2 sn,ps 3 (.opt 8 0),pb 8 33 [(iv 4),(iv 0)]] (oz) ?_
  rw [show (yX s)=(4,[],0) from if_pos (by omega)]
  exact qk hc0 [2,3] [8]
 refine qR (qV h1)<|qF<|qB ?_
 have hs:s.length≤65536:=by omega
 refine qH qD [.k2,.n,.d,.k1,.n] [ps 4 (.opt 56 0),pb 56 103 [(sv (st s)),(iv 0),(iv 0),(iv 0),(iv 0)]]<|qj (Wk.eq (show _=[ps 0 (sv (st s)),ps 3 (.opt 8 0),ps 4 (.opt 56 0),pb 8 33 [(iv 0),(iv 0)],pb 56 103 (r5 s 0 0 0 (0:Int))] from by rfl)) ?_
 refine qB<|qH qD [.k3,.n,.r] [ps 5 sn]<|qB<|qX<|qj (Wk.nil (s:=5) 44 (by kernel_rfl))<|qj (Wk.less (l':=[ps 0 (sv (st s)),ps 3 (.opt 8 0),ps 4 (.opt 56 0),ps 5 (.osl 80 0 0),pb 8 33 [(iv 0),(iv 0)],pb 56 103 (r5 s 0 0 0 (0:Int)),pb 80 44 []]) 81 (by kernel_rfl) (by kernel_rfl)) ?_
 have hRP:(yX s)=rdL s 64 [] 0 0:=if_neg (by omega)
 refine qj (Wk.eq (show _=[ps 0 (sv (st s)),ps 3 (.opt 8 0),ps 4 (.opt 56 0),ps 5 (.osl 80 0 (([]:List Vo).length)),pb 8 33 [(iv 0),(iv 0)],pb 56 103 (r5 s 0 0 0 (0:Int)),pb 80 44 (yD ([]:List Vo))] from by rfl)) ?_
 refine zy (α:={x:List Vo × Nat × Int × Int × Int // RI s (yX s) x.1 x.2.1 x.2.2.1 x.2.2.2.1}) (fun x=>[ps 0 (sv (st s)),ps 3 (.opt 0 0),ps 4 (.opt 1 0),ps 5 (.osl 2 0 x.1.1.length),pb 0 33 [(iv 0),(iv 0)],pb 1 103 (r5 s x.1.2.1 x.1.2.2.1 x.1.2.2.2.1 x.1.2.2.2.2),pb 2 44 (yD x.1.1)]) (fun x=>mE x.1.2.2.1 64 x.1.1.length) 3 ⟨([],0,0,0,0),.inl ⟨rfl,rfl,Nat.zero_le _,Nat.zero_le _,0,hRP.symm⟩⟩ (Wk.ren3 _ 0 hc0 [8,56,80] [(kb 2,(yD ([]:List Vo)))] (oc (yP _) (oz)) (by kernel_rfl) rfl rfl (by kernel_rfl) (by kernel_rfl)) ?_
 rintro ⟨⟨M,a,e,f,kk⟩,hin⟩
 dsimp only at hin
 refine qB<|qB<|QB qD 1 [ps 0 (sv (st s)),ps 3 (.opt 0 0),ps 4 (.opt 1 0),ps 5 (.osl 2 0 M.length),ps 19 (bv (decide (e=0))),pb 0 33 [(iv 0),(iv 0)],pb 1 103 (r5 s a e f kk),pb 2 44 (yD M)] (zY [1] 11 (qbb s a e f kk) oz) ?_
 by_cases h2:e=0
 ·refine qS (qT h2)<|qF<|qX<|qB ?_
  obtain ⟨hf0,ha,hM,z,hrd⟩:=ri_go hin h2
  have hga:=zR ha
  have hgg:=vH s a
  have hwl:=yV ha
  refine qj (Wk.eq (show _=[ps 0 (sv (st s)),ps 3 (.opt 0 0),ps 4 (.opt 1 0),ps 5 (.osl 2 0 M.length),ps 19 (bv (decide (e=0))),pb 0 33 [(iv 0),(iv 0)],pb 1 103 (r5 s a 0 0 kk),pb 2 44 (yD M)] from by rw [h2,hf0])) ?_
  refine zC qD 1 [.k4,.n,.d,.k1,.d,.n,.r] [ps 6 (sv (st (qC s a))),pb 1 103 (r5 s (qA s a) 0 0 kk)] (zY [1] 27 (QG s a kk hs (by omega)) oz)<|qB<|qB<|qH qD [.k5,.n,.r] [ps 28 (bv (decide (((qA s a:Nat):Int)=(s.length:Int))))] ?_
  by_cases h3:(qA s a:Int)=(s.length:Int)
  ·refine qS (qT h3)<|zI rfl rfl<|qB<|qB<|zC qD 1 [.d,.k3,.d,.d,.n,.r] [ps 142 (bv false)] (zY [1] 107 (jS s (qA s a) kk) oz)<|qO (b:=false) rfl rfl<|qF<|qB<|qH qD [.n,.k1,.d,.d,.d,.k1,.d,.r] [ps 2 (.osl 2 0 M.length)] ?_
   have hR:(yX s)=(0,M,0):=by rw [← hrd,ZQ (by omega),if_pos (by omega)]
   rw [hR]
   refine qj (Wk.frz (l':=[ps 2 (.ssl (yD M) 0 M.length),ps 3 (.opt 0 0),pb 0 33 [(iv 0),(iv 0)],(kb 2,none)]) 2 (T:=44) (cs:=(yD M)) (by kernel_rfl) (yP _) (by kernel_rfl)) ?_
   exact qk hc0 [2,3] [0]
  refine qR (qV h3)<|qF<|qB<|qB<|qH qD [.k5,.d,.n,.r] [ps 31 (bv (decide (((M.length:Nat):Int)=64)))] ?_
  by_cases h4:(M.length:Int)=64
  ·refine qS (qT h4)<|qB<|zC qD 1 [.d,.k3,.d,.d,.k1,.d,.n,.r] [pb 1 103 (yz s (qA s a) 5 (qA s a) kk)] (zY [1] 131 (yy s (qA s a) kk 5) oz)<|zI rfl rfl<|qB<|qB<|zC qD 1 [.k3,.n,.r] [ps 142 (bv true)] (zY [1] 147 (wG s (qA s a) kk 5 (by decide)) oz)<|qL (b:=true) rfl rfl<|qB<|VA qD [] [[],[0],[0,1],[0,1,2],[],[0,1,2,3,4]] [([286],[8]),([288],[286]),([290],[288]),([292],[3,290]),([4],[]),([1],[1,6,292])] [ps 2 sn,ps 3 (.opt 0 0),pb 0 33 [(iv 5),(nv (qA s a))]] (oz) ?_
   rw [show (yX s)=(5,[],qA s a) from by rw [← hrd,ZQ (by omega),if_neg (by omega),if_pos (by omega)]]
   exact qk hc0 [2,3] [0]
  refine qR (qV h4)<|qF<|qB<|qB<|qQ qD [(1,.val (.av (.bool (!decide ((qC s a)=([118,111,105,99,101]:TX))))))] [.k4,.d,.d,.n,.r] [ps 35 (bv (!(decide ((qC s a)=([118,111,105,99,101]:TX)))))] (oc (yW _ _:(!((st (qC s a)).toList == (st ([118,111,105,99,101]:TX)).toList)) = !decide ((qC s a)=([118,111,105,99,101]:TX))) oz) ?_
  by_cases h5:(qC s a)=([118,111,105,99,101]:TX)
  ·refine qR (bt h5)<|qF<|qB ?_
   have hw5:(qC s a).length=5:=by rw [h5];rfl
   refine qQ qD [] [.k4,.d,.k1,.d,.n,.r] [pb 1 103 [(sv (st s)),(iv (((qA s a:Nat):Int)+5)),(iv 0),(iv 0),(iv kk)]] (oi (((qA s a:Nat):Int)+5) (by omega) oz)<|qj (Wk.eq (show _=[ps 0 (sv (st s)),ps 3 (.opt 0 0),ps 4 (.opt 1 0),ps 5 (.osl 2 0 M.length),pb 0 33 [(iv 0),(iv 0)],pb 1 103 (r5 s (qA s a+5) 0 0 kk),pb 2 44 (yD M)] from by rfl)) ?_
   refine qB<|zC qD 1 [.k4,.n,.k1,.d,.n,.k1,.n] [ps 7 (.opt 235 0),pb 1 103 (r5 s (qA s (qA s a+5)) 0 0 kk),pb 235 44 [(sv (st (qC s (qA s a+5)))),sn]] (zY [1] 219 (QG s (qA s a+5) kk hs (by omega)) oz)<|qB<|qB ?_
   have hwl2:=yV (s:=s) (a:=qA s a+5) (by omega)
   have hgg2:=vH s (qA s a+5)
   refine yC qD 2 [.k5,.n,.r] [ps 52 (bv (!(jF (qC s (qA s a+5)))))] (zO 267 (qname_pc (qC s (qA s a+5)) (by omega)) oz) ?_
   by_cases h6:(jF (qC s (qA s a+5)))=true
   ·refine qR (congrArg Bool.not h6)<|qF<|qB<|wC qD [] (VB [(0,0),(0,0),(1,1),(1,2),(1,3),(0,0),(5,1),(5,2),(1,7),(0,9),(0,10),(0,11)]) [([110],[8]),([112],[8]),([114],[112]),([116],[114]),([118],[3,116]),([120],[14]),([122],[120,471]),([124],[122]),([126],[118,124]),([128],[110]),([130],[128]),([3],[3,126,130])] [.k5,.d,.k1,.d,.n,.r] [pb 1 103 [(sv (st s)),(iv (((qA s (qA s a+5):Nat):Int)+(((qC s (qA s a+5)).length:Nat):Int))),(iv 0),(iv 0),(iv kk)]] (oi (((qA s (qA s a+5):Nat):Int)+(((qC s (qA s a+5)).length:Nat):Int)) (by omega) oz)<|qj (Wk.eq (show _=[ps 0 (sv (st s)),ps 3 (.opt 0 0),ps 4 (.opt 1 0),ps 5 (.osl 2 0 M.length),ps 7 (.opt 235 0),pb 0 33 [(iv 0),(iv 0)],pb 1 103 (r5 s (qA s (qA s a+5)+(qC s (qA s a+5)).length) 0 0 kk),pb 2 44 (yD M),pb 235 44 [(sv (st (qC s (qA s a+5)))),sn]] from by rfl)) ?_
    refine qB<|qX<|qj (Wk.nilc (B:=44) (cells:=[(sv (st (qC s (qA s a+5)))),sn]) 235 1 47 (by kernel_rfl) rfl)<|qj (Wk.less (l':=[ps 0 (sv (st s)),ps 3 (.opt 0 0),ps 4 (.opt 1 0),ps 5 (.osl 2 0 M.length),ps 7 (.opt 235 0),pb 0 33 [(iv 0),(iv 0)],pb 1 103 (r5 s (qA s (qA s a+5)+(qC s (qA s a+5)).length) 0 0 kk),pb 2 44 (yD M),pb 235 44 [(sv (st (qC s (qA s a+5)))),(.osl 379 0 0)],pb 379 47 []]) 380 (by kernel_rfl) (by kernel_rfl))<|qj (Wk.eq (show _=[ps 0 (sv (st s)),ps 3 (.opt 0 0),ps 4 (.opt 1 0),ps 5 (.osl 2 0 M.length),ps 7 (.opt 235 0),pb 0 33 [(iv 0),(iv 0)],pb 1 103 (r5 s (qA s (qA s a+5)+(qC s (qA s a+5)).length) 0 0 kk),pb 2 44 (yD M),pb 235 44 [(sv (st (qC s (qA s a+5)))),(.osl 379 0 (([]:List Br).length))],pb 379 47 (yU ([]:List Br))] from by rfl)) ?_
    refine zy (α:={x:List Br × Nat × Int × Int × Int // VI s (vcL s 1024 [] (qA s (qA s a+5)+(qC s (qA s a+5)).length) z) x.1 x.2.1 x.2.2.1 x.2.2.2.1}) (fun x=>[ps 0 (sv (st s)),ps 3 (.opt 0 0),ps 4 (.opt 1 0),ps 5 (.osl 2 0 M.length),ps 7 (.opt 3 0),pb 0 33 [(iv 0),(iv 0)],pb 1 103 (r5 s x.1.2.1 x.1.2.2.1 x.1.2.2.2.1 x.1.2.2.2.2),pb 2 44 (yD M),pb 3 44 [(sv (st (qC s (qA s a+5)))),(.osl 4 0 x.1.1.length)],pb 4 47 (yU x.1.1)]) (fun x=>mE x.1.2.2.1 1024 x.1.1.length) 5 ⟨([],qA s (qA s a+5)+(qC s (qA s a+5)).length,0,0,kk),.inl ⟨rfl,rfl,hwl2,Nat.zero_le _,z,rfl⟩⟩ (Wk.ren3 _ 0 hc0 [0,1,2,235,379] [(kb 2,(yD M)),(kb 4,(yU ([]:List Br)))] (oc (yP _) (oc (yj _) (oz))) (by kernel_rfl) rfl rfl (by kernel_rfl) (by kernel_rfl)) ?_
    rintro ⟨⟨L,b,e1,f1,k1⟩,hvi⟩
    dsimp only at hvi
    refine qB<|qB ?_
    by_cases h7:e1=0
    ·obtain ⟨hf1,hb,hL,z1,hvl⟩:=vi_go hvi h7
     have hgb:=zR hb
     have hgbb:=vH s b
     refine qj (Wk.eq (show [ps 0 (sv (st s)),ps 3 (.opt 0 0),ps 4 (.opt 1 0),ps 5 (.osl 2 0 M.length),ps 7 (.opt 3 0),pb 0 33 [(iv 0),(iv 0)],pb 1 103 (r5 s b e1 f1 k1),pb 2 44 (yD M),pb 3 44 [(sv (st (qC s (qA s a+5)))),(.osl 4 0 L.length)],pb 4 47 (yU L)]=[ps 0 (sv (st s)),ps 3 (.opt 0 0),ps 4 (.opt 1 0),ps 5 (.osl 2 0 M.length),ps 7 (.opt 3 0),pb 0 33 [(iv 0),(iv 0)],pb 1 103 (r5 s b 0 0 k1),pb 2 44 (yD M),pb 3 44 [(sv (st (qC s (qA s a+5)))),(.osl 4 0 L.length)],pb 4 47 (yU L)] from by rw [h7,hf1])) ?_
     refine zC qD 1 [.k5,.n,.k1,.d,.n,.r] [ps 67 (bv (qP s b 124)),pb 1 103 (r5 s (qA s b) 0 0 k1)] (zY [1] 13 (vU s b k1 124 hs (by omega)) oz) ?_
     by_cases h8:(qP s b 124)=true
     ·refine qL (b:=(qP s b 124)) rfl h8<|qF<|qX<|qB<|qB<|qH qD [.k5,.d,.n,.r] [ps 71 (bv (decide (((L.length:Nat):Int)=1024)))] ?_
      by_cases h9:(L.length:Int)=1024
      ·refine qS (qT h9)<|qB<|zC qD 1 [.k5,.d,.k1,.d,.n,.r] [pb 1 103 (yz s (qA s b) 5 (qA s b) k1)] (zY [1] 61 (yy s (qA s b) k1 5) oz)<|zI rfl rfl ?_
       have hVL:vcL s 1024 [] (qA s (qA s a+5)+(qC s (qA s a+5)).length) z=(5,[],qA s b,0):=by rw [← hvl,ZO (by omega),if_pos h8,if_pos (by omega)]
       refine qj (Wk.frz2 (l':=[ps 0 (sv (st s)),ps 3 (.opt 0 0),ps 4 (.opt 1 0),ps 5 (.osl 2 0 M.length),ps 7 (.opt 3 0),pb 0 33 [(iv 0),(iv 0)],pb 1 103 (yz s (qA s b) 5 (qA s b) k1),pb 2 44 (yD M),pb 3 44 [(sv (st (qC s (qA s a+5)))),(.ssl (yU L) 0 L.length)],(kb 4,none)]) 4 (T:=47) (cs:=(yU L)) [(kb 2,(yD M))] (oc (yP _) (oz)) (by kernel_rfl) (by kernel_rfl) (yj _) (by kernel_rfl))<|qj (Wk.less (l':=[ps 0 (sv (st s)),ps 3 (.opt 0 0),ps 4 (.opt 1 0),ps 5 (.osl 2 0 M.length),ps 7 (.opt 3 0),pb 0 33 [(iv 0),(iv 0)],pb 1 103 (yz s (qA s b) 5 (qA s b) k1),pb 2 44 (yD M),pb 3 44 [(sv (st (qC s (qA s a+5)))),(.ssl (yU L) 0 L.length)]]) 69 (by kernel_rfl) (by kernel_rfl))<|qQ qD [(3,.app none (some (yD (M++[((qC s (qA s a+5)),L)]))))] [.k3,.d,.n,.d,.k2,.d,.d,.n] [ps 5 (.osl 93 0 (M.length+1)),pb 93 44 (yD (M++[((qC s (qA s a+5)),L)]))] (oc (qdf _:((yD M)).length=M.length*2) (oc (by omega:(M.length+1)*40≤140737488355328∧M.length+1≤9223372036854775807) (oc (qaw M ((qC s (qA s a+5)),L):(yD M)++[(sv (st (qC s (qA s a+5)))),(.ssl (yU L) 0 L.length)]=(yD (M++[((qC s (qA s a+5)),L)]))) oz)))<|qZ ?_
       have hvr:jB s (qA s a) z=(5,vS,qA s b,0):=by rw [jB,YT,if_pos (show qC s a=vow from h5),vG,if_pos h6,hVL,if_neg (show ¬ (5:Int)=0 from (show ¬ (5:Int)=0 by decide))]
       exact qq ⟨((M++[((qC s (qA s a+5)),L)]),qA s b,(5:Int),(qA s b:Int),(k1)),.inr ⟨(show ¬ (5:Int)=0 by decide),rfl,by rw [← hrd,ZQ (l:=M) (a:=a) (by omega),if_neg (by omega),if_neg (by omega),hvr,if_neg (show ¬ (5:Int)=0 from (show ¬ (5:Int)=0 by decide))]⟩⟩ (Wk.trans (Wk.eq (show _=[ps 0 (sv (st s)),ps 3 (.opt 0 0),ps 4 (.opt 1 0),ps 5 (.osl 93 0 ((M++[((qC s (qA s a+5)),L)]).length)),pb 0 33 [(iv 0),(iv 0)],pb 1 103 (r5 s (qA s b) (5:Int) (qA s b:Int) (k1)),pb 93 44 (yD (M++[((qC s (qA s a+5)),L)]))] from by rw [List.length_append];rfl)) (Wk.ren3 _ 0 hc0 [0,1,93] [(kb 2,(yD (M++[((qC s (qA s a+5)),L)])))] (oc (yP _) (oz)) (by kernel_rfl) rfl rfl (by kernel_rfl) (by kernel_rfl))) (show mE (5:Int) 64 (M++[((qC s (qA s a+5)),L)]).length<mE e 64 M.length from WY h2 hM (show ¬ (5:Int)=0 by decide))
      refine qR (qV h9)<|qF<|qB ?_
      have hlt:=zM h8
      refine qQ qD [] [.k5,.d,.k1,.d,.n,.r] [pb 1 103 [(sv (st s)),(iv (((qA s b:Nat):Int)+1)),(iv 0),(iv 0),(iv k1)]] (oi (((qA s b:Nat):Int)+1) (by omega) oz)<|qj (Wk.eq (show _=[ps 0 (sv (st s)),ps 3 (.opt 0 0),ps 4 (.opt 1 0),ps 5 (.osl 2 0 M.length),ps 7 (.opt 3 0),pb 0 33 [(iv 0),(iv 0)],pb 1 103 (r5 s (qA s b+1) 0 0 k1),pb 2 44 (yD M),pb 3 44 [(sv (st (qC s (qA s a+5)))),(.osl 4 0 L.length)],pb 4 47 (yU L)] from by rfl)) ?_
      refine qB ?_
      by_cases h10:(qE s (qA s b+1)).1=0
      ·refine zC qD 1 [.k5,.n,.k1,.d,.n,.k3,.n] [ps 8 (.opt 141 0),pb 1 103 (r5 s ((qE s (qA s b+1)).2.2) 0 0 k1),pb 141 47 [(iv ((qE s (qA s b+1)).2.1)),(iv 0),sn]] (zY [1] 125 (jE (wO s (qA s b+1) k1 hs (by omega)) h10) oz)<|qB ?_
       have hn1:=wK (s:=s) (a:=(qA s b+1)) hlt
       have hgn:=vH s (qA s b+1)
       by_cases h11:(qP s ((qE s (qA s b+1)).2.2) 47)=true
       ·refine zC qD 1 [.k7,.d,.n,.r] [pb 1 103 (r5 s (qA s ((qE s (qA s b+1)).2.2)+1) 0 0 k1)] (zY [1] 165 (ZL s ((qE s (qA s b+1)).2.2) k1 47 hs (by omega) h11) oz)<|qB ?_
        have hlt2:=zM h11
        by_cases h12:(qE s (qA s ((qE s (qA s b+1)).2.2)+1)).1=0
        ·refine zC qD 1 [.k7,.d,.n,.k3,.d,.n] [pb 1 103 (r5 s ((qE s (qA s ((qE s (qA s b+1)).2.2)+1)).2.2) 0 0 k1),pb 141 47 [(iv ((qE s (qA s b+1)).2.1)),(iv ((qE s (qA s ((qE s (qA s b+1)).2.2)+1)).2.1)),sn]] (zY [1] 181 (jE (wO s (qA s ((qE s (qA s b+1)).2.2)+1) k1 hs (by omega)) h12) oz)<|qB ?_
         have hn2:=wK (s:=s) (a:=qA s (qE s (qA s b+1)).2.2+1) hlt2
         refine qH qD [.k7,.d,.n,.r] [pb 1 103 (r5 s ((qE s (qA s ((qE s (qA s b+1)).2.2)+1)).2.2) 0 0 4095)]<|qj (Wk.eq (show _=[ps 0 (sv (st s)),ps 3 (.opt 0 0),ps 4 (.opt 1 0),ps 5 (.osl 2 0 M.length),ps 7 (.opt 3 0),ps 8 (.opt 141 0),pb 0 33 [(iv 0),(iv 0)],pb 1 103 (vN s ((qE s (qA s ((qE s (qA s b+1)).2.2)+1)).2.2) 0 0 4095),pb 2 44 (yD M),pb 3 44 [(sv (st (qC s (qA s a+5)))),(.osl 4 0 L.length)],pb 4 47 (yU L),pb 141 47 [(iv ((qE s (qA s b+1)).2.1)),(iv ((qE s (qA s ((qE s (qA s b+1)).2.2)+1)).2.1)),sn]] from by rfl)) ?_
         refine qB<|qB<|qH qD [.k6,.n,.r] [ps 9 (bv true)]<|qX<|qj (Wk.nilc (B:=47) (cells:=[(iv ((qE s (qA s b+1)).2.1)),(iv ((qE s (qA s ((qE s (qA s b+1)).2.2)+1)).2.1)),sn]) 141 2 50 (by kernel_rfl) rfl)<|qj (Wk.less (l':=[ps 0 (sv (st s)),ps 3 (.opt 0 0),ps 4 (.opt 1 0),ps 5 (.osl 2 0 M.length),ps 7 (.opt 3 0),ps 8 (.opt 141 0),ps 9 (bv true),pb 0 33 [(iv 0),(iv 0)],pb 1 103 (vN s ((qE s (qA s ((qE s (qA s b+1)).2.2)+1)).2.2) 0 0 4095),pb 2 44 (yD M),pb 3 44 [(sv (st (qC s (qA s a+5)))),(.osl 4 0 L.length)],pb 4 47 (yU L),pb 141 47 [(iv ((qE s (qA s b+1)).2.1)),(iv ((qE s (qA s ((qE s (qA s b+1)).2.2)+1)).2.1)),(.osl 245 0 0)],pb 245 50 []]) 246 (by kernel_rfl) (by kernel_rfl))<|qj (Wk.eq (show _=[ps 0 (sv (st s)),ps 3 (.opt 0 0),ps 4 (.opt 1 0),ps 5 (.osl 2 0 M.length),ps 7 (.opt 3 0),ps 8 (.opt 141 0),ps 9 (bv true),pb 0 33 [(iv 0),(iv 0)],pb 1 103 (vN s ((qE s (qA s ((qE s (qA s b+1)).2.2)+1)).2.2) 0 0 4095),pb 2 44 (yD M),pb 3 44 [(sv (st (qC s (qA s a+5)))),(.osl 4 0 L.length)],pb 4 47 (yU L),pb 141 47 [(iv ((qE s (qA s b+1)).2.1)),(iv ((qE s (qA s ((qE s (qA s b+1)).2.2)+1)).2.1)),(.osl 245 0 (([]:List It).length))],pb 245 50 (zP ([]:List It))] from by rfl)) ?_
         refine zy (α:={x:List It × Nat × Int × Int × Int × Bool // BI s (brL s [] (qE s (qA s ((qE s (qA s b+1)).2.2)+1)).2.2 4095) x.1 x.2.1 x.2.2.1 x.2.2.2.1 x.2.2.2.2.1 x.2.2.2.2.2}) (fun x=>[ps 0 (sv (st s)),ps 3 (.opt 0 0),ps 4 (.opt 1 0),ps 5 (.osl 2 0 M.length),ps 7 (.opt 3 0),ps 8 (.opt 5 0),ps 9 (bv x.1.2.2.2.2.2),pb 0 33 [(iv 0),(iv 0)],pb 1 103 (r5 s x.1.2.1 x.1.2.2.1 x.1.2.2.2.1 x.1.2.2.2.2.1),pb 2 44 (yD M),pb 3 44 [(sv (st (qC s (qA s a+5)))),(.osl 4 0 L.length)],pb 4 47 (yU L),pb 5 47 [(iv ((qE s (qA s b+1)).2.1)),(iv ((qE s (qA s ((qE s (qA s b+1)).2.2)+1)).2.1)),(.osl 6 0 x.1.1.length)],pb 6 50 (zP x.1.1)]) (fun x=>mK x.1.2.2.2.2.2 x.1.2.2.1 x.1.2.2.2.2.1) 7 ⟨([],(qE s (qA s ((qE s (qA s b+1)).2.2)+1)).2.2,0,0,((4095:Nat):Int),true),.inl ⟨rfl,rfl,rfl,4095,rfl,hn2.2,Nat.le_of_eq (Nat.zero_add _),rfl⟩⟩ (Wk.ren3 _ 0 hc0 [0,1,2,3,4,141,245] [(kb 2,(yD M)),(kb 4,(yU L)),(kb 6,(zP ([]:List It)))] (oc (yP _) (oc (yj _) (oc (yA _) (oz)))) (by kernel_rfl) rfl rfl (by kernel_rfl) (by kernel_rfl)) ?_
         rintro ⟨⟨l,d,e2,f2,k2,g⟩,hbi⟩
         dsimp only at hbi
         refine qB<|qB ?_
         by_cases h13:g=true
         ·refine zD qD [(2,.gd true .no),(3,.gd true (.call [1] [(.opt 0 0)] [some (103,(r5 s d e2 f2 k2))] (bv (decide (e2=0))) [some (103,(r5 s d e2 f2 k2))])),(4,.yes true)] [ps 0 (sv (st s)),ps 3 (.opt 0 0),ps 4 (.opt 1 0),ps 5 (.osl 2 0 M.length),ps 7 (.opt 3 0),ps 8 (.opt 5 0),ps 96 (bv (decide (e2=0))),pb 0 33 [(iv 0),(iv 0)],pb 1 103 (r5 s d e2 f2 k2),pb 2 44 (yD M),pb 3 44 [(sv (st (qC s (qA s a+5)))),(.osl 4 0 L.length)],pb 4 47 (yU L),pb 5 47 [(iv ((qE s (qA s b+1)).2.1)),(iv ((qE s (qA s ((qE s (qA s b+1)).2.2)+1)).2.1)),(.osl 6 0 l.length)],pb 6 50 (zP l)] (on 2 (h13:g=true) (zY [1] 31 (qbb s d e2 f2 k2) (oc (h13:g=true) oz))) ?_
          have h14:e2=0:=(bi_g (h:=hbi) h13)
          refine qS (qT h14)<|qF<|qX<|qB ?_
          have hge:=bi_g (h:=hbi) h13
          obtain ⟨hf2,q,hkq,hd,hlq,hbl0⟩:=bi_go hbi h13 hge
          refine qj (Wk.eq (show _=[ps 0 (sv (st s)),ps 3 (.opt 0 0),ps 4 (.opt 1 0),ps 5 (.osl 2 0 M.length),ps 7 (.opt 3 0),ps 8 (.opt 5 0),ps 96 (bv (decide (e2=0))),pb 0 33 [(iv 0),(iv 0)],pb 1 103 (vN s d 0 0 q),pb 2 44 (yD M),pb 3 44 [(sv (st (qC s (qA s a+5)))),(.osl 4 0 L.length)],pb 4 47 (yU L),pb 5 47 [(iv ((qE s (qA s b+1)).2.1)),(iv ((qE s (qA s ((qE s (qA s b+1)).2.2)+1)).2.1)),(.osl 6 0 l.length)],pb 6 50 (zP l)] from by rw [hge,hf2,hkq])) ?_
          by_cases h15:(qN s 1 d q).1=0
          ·refine wC qD [(3,.call [1] [(.opt 0 0),(iv 1)] [some (103,(vN s d 0 0 q))] (.agg [(iv (iK ((qN s 1 d q).2.1))),(iv (iS ((qN s 1 d q).2.1))),(.ssl (wA (iP ((qN s 1 d q).2.1))) 0 ((iP ((qN s 1 d q).2.1)).length)),(iv ((iB ((qN s 1 d q).2.1)).1)),(iv ((iB ((qN s 1 d q).2.1)).2)),(sv (st (iL ((qN s 1 d q).2.1)))),(.ssl (zP (iC ((qN s 1 d q).2.1))) 0 ((iC ((qN s 1 d q).2.1)).length))]) [some (103,(vN s ((qN s 1 d q).2.2.1) 0 0 ((qN s 1 d q).2.2.2))),none]),(5,.app none (some (zP (l++[(qN s 1 d q).2.1]))))] (VB [(0,0),(0,1),(0,0),(2,1),(2,2),(0,5),(0,6),(0,7)]) [([194],[16]),([196],[11,194]),([198],[8]),([200,3,143],[3,198]),([202,159],[200]),([204,13,175],[13,159,196,202]),([206],[16]),([11],[11,204,206])] [.k6,.d,.k1,.d,.n,.k3,.d,.n,.d,.n] [pb 1 103 (vN s ((qN s 1 d q).2.2.1) 0 0 ((qN s 1 d q).2.2.2)),pb 5 47 [(iv ((qE s (qA s b+1)).2.1)),(iv ((qE s (qA s ((qE s (qA s b+1)).2.2)+1)).2.1)),(.osl 87 0 (l.length+1))],pb 87 50 (zP (l++[(qN s 1 d q).2.1]))] (zY [1] 71 (jE (qjh hs (k:=q) (by omega) (lv:=1) (by decide) (a:=d) (by omega)) h15) (oc (YD _:((zP l)).length=l.length*7) (oc (by omega:(l.length+1)*96≤140737488355328∧l.length+1≤9223372036854775807) (oc (Qj l _:(zP l)++[(iv (iK ((qN s 1 d q).2.1))),(iv (iS ((qN s 1 d q).2.1))),(.ssl (wA (iP ((qN s 1 d q).2.1))) 0 ((iP ((qN s 1 d q).2.1)).length)),(iv ((iB ((qN s 1 d q).2.1)).1)),(iv ((iB ((qN s 1 d q).2.1)).2)),(sv (st (iL ((qN s 1 d q).2.1)))),(.ssl (zP (iC ((qN s 1 d q).2.1))) 0 ((iC ((qN s 1 d q).2.1)).length))]=(zP (l++[(qN s 1 d q).2.1]))) oz))))<|qB ?_
           have hie:=wT (lv:=1) (k:=q) hd h15
           have hgie:=zR hie.1.2
           refine zC qD 1 [.k6,.n,.k1,.d,.n,.r] [ps 10 (sv (st (qC s ((qN s 1 d q).2.2.1)))),pb 1 103 (vN s (qA s ((qN s 1 d q).2.2.1)) 0 0 ((qN s 1 d q).2.2.2))] (zY [1] 119 (QG s ((qN s 1 d q).2.2.1) (((qN s 1 d q).2.2.2:Nat):Int) hs (by omega)) oz) ?_
           by_cases h16:(qA s ((qN s 1 d q).2.2.1):Int)<(s.length:Int)
           ·by_cases h17:(((s.getD (qA s ((qN s 1 d q).2.2.1)) 0).toNat:Nat):Int)=124
            ·refine qQ qD ([(1,.call [1] [(.opt 0 0)] [some (103,(vN s (qA s ((qN s 1 d q).2.2.1)) 0 0 ((qN s 1 d q).2.2.2)))] (bv true) [some (103,(vN s (qA s ((qN s 1 d q).2.2.1)) 0 0 ((qN s 1 d q).2.2.2)))])]++gy 3 7++gy 12 7++[(19,.yes true)]++gn 21 2++[(23,.yes false)]) [.k6,.n,.d,.r] [ps 9 (bv false)] (zY [1] 143 (jS s (qA s ((qN s 1 d q).2.2.1)) (((qN s 1 d q).2.2.2:Nat):Int)) (on 7 tt (on 6 (qT h16) (oc (by first|omega|(simp <;> omega):(0:Int)≤(qA s ((qN s 1 d q).2.2.1):Int)∧(qA s ((qN s 1 d q).2.2.1):Int)<(s.length:Int)) (on 2 (qT h16) (on 3 (bt h17) oz))))))<|qZ ?_
             exact qq ⟨((l++[(qN s 1 d q).2.1]),(qA s (qN s 1 d q).2.2.1),(0:Int),(0:Int),(((qN s 1 d q).2.2.2:Nat):Int),false),qif hd hbl0 h15 (.inr (.inl (qT ⟨by omega,by omega⟩)))⟩ (Wk.trans (Wk.eq (show _=[ps 0 (sv (st s)),ps 3 (.opt 0 0),ps 4 (.opt 1 0),ps 5 (.osl 2 0 M.length),ps 7 (.opt 3 0),ps 8 (.opt 5 0),ps 9 (bv false),pb 0 33 [(iv 0),(iv 0)],pb 1 103 (r5 s (qA s (qN s 1 d q).2.2.1) (0:Int) (0:Int) (((qN s 1 d q).2.2.2:Nat):Int)),pb 2 44 (yD M),pb 3 44 [(sv (st (qC s (qA s a+5)))),(.osl 4 0 L.length)],pb 4 47 (yU L),pb 5 47 [(iv ((qE s (qA s b+1)).2.1)),(iv ((qE s (qA s ((qE s (qA s b+1)).2.2)+1)).2.1)),(.osl 87 0 ((l++[(qN s 1 d q).2.1]).length))],pb 87 50 (zP (l++[(qN s 1 d q).2.1]))] from by rw [List.length_append];rfl)) (Wk.ren3 _ 0 hc0 [0,1,2,3,4,5,87] [(kb 2,(yD M)),(kb 4,(yU L)),(kb 6,(zP (l++[(qN s 1 d q).2.1])))] (oc (yP _) (oc (yj _) (oc (yA _) (oz)))) (by kernel_rfl) rfl rfl (by kernel_rfl) (by kernel_rfl))) (show mK false (0:Int) (((qN s 1 d q).2.2.2:Nat):Int)<mK g e2 k2 from YB h13 hge (fun c=>by cases c.1))
            by_cases h18:(qC s ((qN s 1 d q).2.2.1))=([118,111,105,99,101]:TX)
            ·refine qQ qD ([(1,.call [1] [(.opt 0 0)] [some (103,(vN s (qA s ((qN s 1 d q).2.2.1)) 0 0 ((qN s 1 d q).2.2.2)))] (bv true) [some (103,(vN s (qA s ((qN s 1 d q).2.2.1)) 0 0 ((qN s 1 d q).2.2.2)))])]++gy 3 7++gy 12 7++[(19,.yes true),(21,.gd true .no),(22,.gd true (.val (.av (.bool (!decide ((qC s ((qN s 1 d q).2.2.1))=([118,111,105,99,101]:TX))))))),(23,.yes true)]) [.k6,.n,.d,.r] [ps 9 (bv (!(decide ((qC s ((qN s 1 d q).2.2.1))=([118,111,105,99,101]:TX)))))] (zY [1] 143 (jS s (qA s ((qN s 1 d q).2.2.1)) (((qN s 1 d q).2.2.2:Nat):Int)) (on 7 tt (on 6 (qT h16) (oc (by first|omega|(simp <;> omega):(0:Int)≤(qA s ((qN s 1 d q).2.2.1):Int)∧(qA s ((qN s 1 d q).2.2.1):Int)<(s.length:Int)) (on 2 (qT h16) (on 2 (bf h17) (oc (yW _ _:(!((st (qC s ((qN s 1 d q).2.2.1))).toList == (st ([118,111,105,99,101]:TX)).toList)) = !decide ((qC s ((qN s 1 d q).2.2.1))=([118,111,105,99,101]:TX))) (oc (bf h17) oz))))))))<|qZ ?_
             exact qq ⟨((l++[(qN s 1 d q).2.1]),(qA s (qN s 1 d q).2.2.1),(0:Int),(0:Int),(((qN s 1 d q).2.2.2:Nat):Int),false),qif hd hbl0 h15 (.inr (.inr h18))⟩ (Wk.trans (Wk.eq (show [ps 0 (sv (st s)),ps 3 (.opt 0 0),ps 4 (.opt 1 0),ps 5 (.osl 2 0 M.length),ps 7 (.opt 3 0),ps 8 (.opt 5 0),ps 9 (bv (!(decide ((qC s ((qN s 1 d q).2.2.1))=([118,111,105,99,101]:TX))))),pb 0 33 [(iv 0),(iv 0)],pb 1 103 (vN s (qA s ((qN s 1 d q).2.2.1)) 0 0 ((qN s 1 d q).2.2.2)),pb 2 44 (yD M),pb 3 44 [(sv (st (qC s (qA s a+5)))),(.osl 4 0 L.length)],pb 4 47 (yU L),pb 5 47 [(iv ((qE s (qA s b+1)).2.1)),(iv ((qE s (qA s ((qE s (qA s b+1)).2.2)+1)).2.1)),(.osl 87 0 (l.length+1))],pb 87 50 (zP (l++[(qN s 1 d q).2.1]))]=[ps 0 (sv (st s)),ps 3 (.opt 0 0),ps 4 (.opt 1 0),ps 5 (.osl 2 0 M.length),ps 7 (.opt 3 0),ps 8 (.opt 5 0),ps 9 (bv false),pb 0 33 [(iv 0),(iv 0)],pb 1 103 (vN s (qA s ((qN s 1 d q).2.2.1)) 0 0 ((qN s 1 d q).2.2.2)),pb 2 44 (yD M),pb 3 44 [(sv (st (qC s (qA s a+5)))),(.osl 4 0 L.length)],pb 4 47 (yU L),pb 5 47 [(iv ((qE s (qA s b+1)).2.1)),(iv ((qE s (qA s ((qE s (qA s b+1)).2.2)+1)).2.1)),(.osl 87 0 (l.length+1))],pb 87 50 (zP (l++[(qN s 1 d q).2.1]))] from by rw [qT h18];rfl)) (Wk.trans (Wk.eq (show _=[ps 0 (sv (st s)),ps 3 (.opt 0 0),ps 4 (.opt 1 0),ps 5 (.osl 2 0 M.length),ps 7 (.opt 3 0),ps 8 (.opt 5 0),ps 9 (bv false),pb 0 33 [(iv 0),(iv 0)],pb 1 103 (r5 s (qA s (qN s 1 d q).2.2.1) (0:Int) (0:Int) (((qN s 1 d q).2.2.2:Nat):Int)),pb 2 44 (yD M),pb 3 44 [(sv (st (qC s (qA s a+5)))),(.osl 4 0 L.length)],pb 4 47 (yU L),pb 5 47 [(iv ((qE s (qA s b+1)).2.1)),(iv ((qE s (qA s ((qE s (qA s b+1)).2.2)+1)).2.1)),(.osl 87 0 ((l++[(qN s 1 d q).2.1]).length))],pb 87 50 (zP (l++[(qN s 1 d q).2.1]))] from by rw [List.length_append];rfl)) (Wk.ren3 _ 0 hc0 [0,1,2,3,4,5,87] [(kb 2,(yD M)),(kb 4,(yU L)),(kb 6,(zP (l++[(qN s 1 d q).2.1])))] (oc (yP _) (oc (yj _) (oc (yA _) (oz)))) (by kernel_rfl) rfl rfl (by kernel_rfl) (by kernel_rfl)))) (show mK false (0:Int) (((qN s 1 d q).2.2.2:Nat):Int)<mK g e2 k2 from YB h13 hge (fun c=>by cases c.1))
            refine qQ qD ([(1,.call [1] [(.opt 0 0)] [some (103,(vN s (qA s ((qN s 1 d q).2.2.1)) 0 0 ((qN s 1 d q).2.2.2)))] (bv true) [some (103,(vN s (qA s ((qN s 1 d q).2.2.1)) 0 0 ((qN s 1 d q).2.2.2)))])]++gy 3 7++gy 12 7++[(19,.yes true),(21,.gd true .no),(22,.gd true (.val (.av (.bool (!decide ((qC s ((qN s 1 d q).2.2.1))=([118,111,105,99,101]:TX))))))),(23,.yes true)]) [.k6,.n,.d,.r] [ps 9 (bv (!(decide ((qC s ((qN s 1 d q).2.2.1))=([118,111,105,99,101]:TX)))))] (zY [1] 143 (jS s (qA s ((qN s 1 d q).2.2.1)) (((qN s 1 d q).2.2.2:Nat):Int)) (on 7 tt (on 6 (qT h16) (oc (by first|omega|(simp <;> omega):(0:Int)≤(qA s ((qN s 1 d q).2.2.1):Int)∧(qA s ((qN s 1 d q).2.2.1):Int)<(s.length:Int)) (on 2 (qT h16) (on 2 (bf h17) (oc (yW _ _:(!((st (qC s ((qN s 1 d q).2.2.1))).toList == (st ([118,111,105,99,101]:TX)).toList)) = !decide ((qC s ((qN s 1 d q).2.2.1))=([118,111,105,99,101]:TX))) (oc (bf h17) oz))))))))<|qZ ?_
            exact qq ⟨((l++[(qN s 1 d q).2.1]),(qA s (qN s 1 d q).2.2.1),(0:Int),(0:Int),(((qN s 1 d q).2.2.2:Nat):Int),true),bi_next hd hlq hbl0 h15 (fun hh=>hh.elim (fun hh=>by omega) fun hh=>hh.elim (fun hh=>by have:=(of_decide_eq_true hh).2;omega) (fun hh=>h18 hh))⟩ (Wk.trans (Wk.eq (show [ps 0 (sv (st s)),ps 3 (.opt 0 0),ps 4 (.opt 1 0),ps 5 (.osl 2 0 M.length),ps 7 (.opt 3 0),ps 8 (.opt 5 0),ps 9 (bv (!(decide ((qC s ((qN s 1 d q).2.2.1))=([118,111,105,99,101]:TX))))),pb 0 33 [(iv 0),(iv 0)],pb 1 103 (vN s (qA s ((qN s 1 d q).2.2.1)) 0 0 ((qN s 1 d q).2.2.2)),pb 2 44 (yD M),pb 3 44 [(sv (st (qC s (qA s a+5)))),(.osl 4 0 L.length)],pb 4 47 (yU L),pb 5 47 [(iv ((qE s (qA s b+1)).2.1)),(iv ((qE s (qA s ((qE s (qA s b+1)).2.2)+1)).2.1)),(.osl 87 0 (l.length+1))],pb 87 50 (zP (l++[(qN s 1 d q).2.1]))]=[ps 0 (sv (st s)),ps 3 (.opt 0 0),ps 4 (.opt 1 0),ps 5 (.osl 2 0 M.length),ps 7 (.opt 3 0),ps 8 (.opt 5 0),ps 9 (bv true),pb 0 33 [(iv 0),(iv 0)],pb 1 103 (vN s (qA s ((qN s 1 d q).2.2.1)) 0 0 ((qN s 1 d q).2.2.2)),pb 2 44 (yD M),pb 3 44 [(sv (st (qC s (qA s a+5)))),(.osl 4 0 L.length)],pb 4 47 (yU L),pb 5 47 [(iv ((qE s (qA s b+1)).2.1)),(iv ((qE s (qA s ((qE s (qA s b+1)).2.2)+1)).2.1)),(.osl 87 0 (l.length+1))],pb 87 50 (zP (l++[(qN s 1 d q).2.1]))] from by rw [qV h18];rfl)) (Wk.trans (Wk.eq (show _=[ps 0 (sv (st s)),ps 3 (.opt 0 0),ps 4 (.opt 1 0),ps 5 (.osl 2 0 M.length),ps 7 (.opt 3 0),ps 8 (.opt 5 0),ps 9 (bv true),pb 0 33 [(iv 0),(iv 0)],pb 1 103 (r5 s (qA s (qN s 1 d q).2.2.1) (0:Int) (0:Int) (((qN s 1 d q).2.2.2:Nat):Int)),pb 2 44 (yD M),pb 3 44 [(sv (st (qC s (qA s a+5)))),(.osl 4 0 L.length)],pb 4 47 (yU L),pb 5 47 [(iv ((qE s (qA s b+1)).2.1)),(iv ((qE s (qA s ((qE s (qA s b+1)).2.2)+1)).2.1)),(.osl 87 0 ((l++[(qN s 1 d q).2.1]).length))],pb 87 50 (zP (l++[(qN s 1 d q).2.1]))] from by rw [List.length_append];rfl)) (Wk.ren3 _ 0 hc0 [0,1,2,3,4,5,87] [(kb 2,(yD M)),(kb 4,(yU L)),(kb 6,(zP (l++[(qN s 1 d q).2.1])))] (oc (yP _) (oc (yj _) (oc (yA _) (oz)))) (by kernel_rfl) rfl rfl (by kernel_rfl) (by kernel_rfl)))) (show mK true (0:Int) (((qN s 1 d q).2.2.2:Nat):Int)<mK g e2 k2 from qhu h13 hge hkq (wT (lv:=1) (k:=q) hd h15).2)
           refine qQ qD ([(1,.call [1] [(.opt 0 0)] [some (103,(vN s (qA s ((qN s 1 d q).2.2.1)) 0 0 ((qN s 1 d q).2.2.2)))] (bv true) [some (103,(vN s (qA s ((qN s 1 d q).2.2.1)) 0 0 ((qN s 1 d q).2.2.2)))])]++gy 3 7++gn 12 7++[(19,.yes false)]++gn 21 2) [.k6,.n,.d,.r] [ps 9 (bv false)] (zY [1] 143 (jS s (qA s ((qN s 1 d q).2.2.1)) (((qN s 1 d q).2.2.2:Nat):Int)) (on 7 tt (on 8 (qV h16) (on 2 ff oz))))<|qZ ?_
           exact qq ⟨((l++[(qN s 1 d q).2.1]),(qA s (qN s 1 d q).2.2.1),(0:Int),(0:Int),(((qN s 1 d q).2.2.2:Nat):Int),false),qif hd hbl0 h15 (.inl (by omega))⟩ (Wk.trans (Wk.eq (show _=[ps 0 (sv (st s)),ps 3 (.opt 0 0),ps 4 (.opt 1 0),ps 5 (.osl 2 0 M.length),ps 7 (.opt 3 0),ps 8 (.opt 5 0),ps 9 (bv false),pb 0 33 [(iv 0),(iv 0)],pb 1 103 (r5 s (qA s (qN s 1 d q).2.2.1) (0:Int) (0:Int) (((qN s 1 d q).2.2.2:Nat):Int)),pb 2 44 (yD M),pb 3 44 [(sv (st (qC s (qA s a+5)))),(.osl 4 0 L.length)],pb 4 47 (yU L),pb 5 47 [(iv ((qE s (qA s b+1)).2.1)),(iv ((qE s (qA s ((qE s (qA s b+1)).2.2)+1)).2.1)),(.osl 87 0 ((l++[(qN s 1 d q).2.1]).length))],pb 87 50 (zP (l++[(qN s 1 d q).2.1]))] from by rw [List.length_append];rfl)) (Wk.ren3 _ 0 hc0 [0,1,2,3,4,5,87] [(kb 2,(yD M)),(kb 4,(yU L)),(kb 6,(zP (l++[(qN s 1 d q).2.1])))] (oc (yP _) (oc (yj _) (oc (yA _) (oz)))) (by kernel_rfl) rfl rfl (by kernel_rfl) (by kernel_rfl))) (show mK false (0:Int) (((qN s 1 d q).2.2.2:Nat):Int)<mK g e2 k2 from YB h13 hge (fun c=>by cases c.1))
          refine wC qD [(3,.call [1] [(.opt 0 0),(iv 1)] [some (103,(vN s d 0 0 q))] (.agg [(iv (iK ((yv s 1 d q).1))),(iv (iS ((yv s 1 d q).1))),(.ssl (wA (iP ((yv s 1 d q).1))) 0 ((iP ((yv s 1 d q).1)).length)),(iv ((iB ((yv s 1 d q).1)).1)),(iv ((iB ((yv s 1 d q).1)).2)),(sv (st (iL ((yv s 1 d q).1)))),(.ssl (zP (iC ((yv s 1 d q).1))) 0 ((iC ((yv s 1 d q).1)).length))]) [some (103,(yz s ((qN s 1 d q).2.2.1) ((qN s 1 d q).1) ((qN s 1 d q).2.2.1) ((yv s 1 d q).2))),none]),(5,.app none (some (zP (l++[(yv s 1 d q).1]))))] (VB [(0,0),(0,1),(0,0),(2,1),(2,2),(0,5),(0,6),(0,7)]) [([194],[16]),([196],[11,194]),([198],[8]),([200,3,143],[3,198]),([202,159],[200]),([204,13,175],[13,159,196,202]),([206],[16]),([11],[11,204,206])] [.k6,.d,.k1,.d,.n,.k3,.d,.n,.d,.n] [pb 1 103 (yz s ((qN s 1 d q).2.2.1) ((qN s 1 d q).1) ((qN s 1 d q).2.2.1) ((yv s 1 d q).2)),pb 5 47 [(iv ((qE s (qA s b+1)).2.1)),(iv ((qE s (qA s ((qE s (qA s b+1)).2.2)+1)).2.1)),(.osl 87 0 (l.length+1))],pb 87 50 (zP (l++[(yv s 1 d q).1]))] (zY [1] 71 (QY (qjh hs (k:=q) (by omega) (lv:=1) (by decide) (a:=d) (by omega)) h15) (oc (YD _:((zP l)).length=l.length*7) (oc (by omega:(l.length+1)*96≤140737488355328∧l.length+1≤9223372036854775807) (oc (Qj l _:(zP l)++[(iv (iK ((yv s 1 d q).1))),(iv (iS ((yv s 1 d q).1))),(.ssl (wA (iP ((yv s 1 d q).1))) 0 ((iP ((yv s 1 d q).1)).length)),(iv ((iB ((yv s 1 d q).1)).1)),(iv ((iB ((yv s 1 d q).1)).2)),(sv (st (iL ((yv s 1 d q).1)))),(.ssl (zP (iC ((yv s 1 d q).1))) 0 ((iC ((yv s 1 d q).1)).length))]=(zP (l++[(yv s 1 d q).1]))) oz))))<|qB ?_
          have hie2:=itR_in (lv:=1) (k:=q) hd
          refine zC qD 1 [.k6,.n,.r] [ps 10 (sv (st (qK s ((qN s 1 d q).2.2.1))))] (zY [1] 119 (qcd s ((qN s 1 d q).2.2.1) ((yv s 1 d q).2) hs (by omega) ((qN s 1 d q).1) h15) oz)<|qQ qD ([(1,.call [1] [(.opt 0 0)] [some (103,(yz s ((qN s 1 d q).2.2.1) ((qN s 1 d q).1) ((qN s 1 d q).2.2.1) ((yv s 1 d q).2)))] (bv false) [some (103,(yz s ((qN s 1 d q).2.2.1) ((qN s 1 d q).1) ((qN s 1 d q).2.2.1) ((yv s 1 d q).2)))])]++gn 3 7++gn 12 7++gn 21 2) [.k6,.n,.d,.r] [ps 9 (bv false)] (zY [1] 143 (wG s ((qN s 1 d q).2.2.1) ((yv s 1 d q).2) ((qN s 1 d q).1) h15) (on 16 ff oz))<|qZ ?_
          exact qq ⟨((l++[(yv s 1 d q).1]),(qN s 1 d q).2.2.1,(qN s 1 d q).1,(((qN s 1 d q).2.2.1:Nat):Int),(yv s 1 d q).2,false),bi_no hbl0 h15⟩ (Wk.trans (Wk.eq (show _=[ps 0 (sv (st s)),ps 3 (.opt 0 0),ps 4 (.opt 1 0),ps 5 (.osl 2 0 M.length),ps 7 (.opt 3 0),ps 8 (.opt 5 0),ps 9 (bv false),pb 0 33 [(iv 0),(iv 0)],pb 1 103 (r5 s ((qN s 1 d q).2.2.1) ((qN s 1 d q).1) (((qN s 1 d q).2.2.1:Nat):Int) ((yv s 1 d q).2)),pb 2 44 (yD M),pb 3 44 [(sv (st (qC s (qA s a+5)))),(.osl 4 0 L.length)],pb 4 47 (yU L),pb 5 47 [(iv ((qE s (qA s b+1)).2.1)),(iv ((qE s (qA s ((qE s (qA s b+1)).2.2)+1)).2.1)),(.osl 87 0 ((l++[(yv s 1 d q).1]).length))],pb 87 50 (zP (l++[(yv s 1 d q).1]))] from by rw [List.length_append];rfl)) (Wk.ren3 _ 0 hc0 [0,1,2,3,4,5,87] [(kb 2,(yD M)),(kb 4,(yU L)),(kb 6,(zP (l++[(yv s 1 d q).1])))] (oc (yP _) (oc (yj _) (oc (yA _) (oz)))) (by kernel_rfl) rfl rfl (by kernel_rfl) (by kernel_rfl))) (show mK false ((qN s 1 d q).1) ((yv s 1 d q).2)<mK g e2 k2 from YB h13 hge (fun c=>by cases c.1))
         refine zD qD (gn 2 2++[(4,.yes false)]) [ps 0 (sv (st s)),ps 3 (.opt 0 0),ps 4 (.opt 1 0),ps 5 (.osl 2 0 M.length),ps 7 (.opt 3 0),ps 8 (.opt 5 0),ps 96 (bv false),pb 0 33 [(iv 0),(iv 0)],pb 1 103 (r5 s d e2 f2 k2),pb 2 44 (yD M),pb 3 44 [(sv (st (qC s (qA s a+5)))),(.osl 4 0 L.length)],pb 4 47 (yU L),pb 5 47 [(iv ((qE s (qA s b+1)).2.1)),(iv ((qE s (qA s ((qE s (qA s b+1)).2.2)+1)).2.1)),(.osl 6 0 l.length)],pb 6 50 (zP l)] (oc (Bool.eq_false_iff.2 h13:g=false) (oc (Bool.eq_false_iff.2 h13:g=false) (oc (Bool.eq_false_iff.2 h13:g=false) oz)))<|qO (b:=false) rfl rfl<|zI rfl rfl ?_
         by_cases h19:e2=0
         ·obtain ⟨hf2,q,hkq,hd,hBL⟩:=bi_done hbi h13 h19
          refine qj (Wk.eq (show _=[ps 0 (sv (st s)),ps 3 (.opt 0 0),ps 4 (.opt 1 0),ps 5 (.osl 2 0 M.length),ps 7 (.opt 3 0),ps 8 (.opt 5 0),ps 96 (bv false),pb 0 33 [(iv 0),(iv 0)],pb 1 103 (vN s d 0 0 q),pb 2 44 (yD M),pb 3 44 [(sv (st (qC s (qA s a+5)))),(.osl 4 0 L.length)],pb 4 47 (yU L),pb 5 47 [(iv ((qE s (qA s b+1)).2.1)),(iv ((qE s (qA s ((qE s (qA s b+1)).2.2)+1)).2.1)),(.osl 6 0 l.length)],pb 6 50 (zP l)] from by rw [h19,hf2,hkq])) ?_
          have hbr:wR s (qA s b+1)=(0,((qE s (qA s b+1)).2.1,(qE s (qA s ((qE s (qA s b+1)).2.2)+1)).2.1,l),d,q):=by rw [wR,if_pos h10,if_pos h11,if_pos h12,hBL,if_pos rfl]
          refine qj (Wk.frz2 (l':=[ps 0 (sv (st s)),ps 3 (.opt 0 0),ps 4 (.opt 1 0),ps 5 (.osl 2 0 M.length),ps 7 (.opt 3 0),ps 8 (.opt 5 0),ps 96 (bv false),pb 0 33 [(iv 0),(iv 0)],pb 1 103 (vN s d 0 0 q),pb 2 44 (yD M),pb 3 44 [(sv (st (qC s (qA s a+5)))),(.osl 4 0 L.length)],pb 4 47 (yU L),pb 5 47 [(iv ((qE s (qA s b+1)).2.1)),(iv ((qE s (qA s ((qE s (qA s b+1)).2.2)+1)).2.1)),(.ssl (zP l) 0 l.length)],(kb 6,none)]) 6 (T:=50) (cs:=(zP l)) [(kb 2,(yD M)),(kb 4,(yU L))] (oc (yP _) (oc (yj _) (oz))) (by kernel_rfl) (by kernel_rfl) (yA _) (by kernel_rfl))<|qj (Wk.less (l':=[ps 0 (sv (st s)),ps 3 (.opt 0 0),ps 4 (.opt 1 0),ps 5 (.osl 2 0 M.length),ps 7 (.opt 3 0),ps 8 (.opt 5 0),ps 96 (bv false),pb 0 33 [(iv 0),(iv 0)],pb 1 103 (vN s d 0 0 q),pb 2 44 (yD M),pb 3 44 [(sv (st (qC s (qA s a+5)))),(.osl 4 0 L.length)],pb 4 47 (yU L),pb 5 47 [(iv ((qE s (qA s b+1)).2.1)),(iv ((qE s (qA s ((qE s (qA s b+1)).2.2)+1)).2.1)),(.ssl (zP l) 0 l.length)]]) 47 (by kernel_rfl) (by kernel_rfl))<|qQ qD [(4,.app none (some (yU (L++[((qE s (qA s b+1)).2.1,(qE s (qA s ((qE s (qA s b+1)).2.2)+1)).2.1,l)]))))] [.k5,.d,.d,.k3,.d,.n,.d,.d,.n] [pb 3 44 [(sv (st (qC s (qA s a+5)))),(.osl 79 0 (L.length+1))],pb 79 47 (yU (L++[((qE s (qA s b+1)).2.1,(qE s (qA s ((qE s (qA s b+1)).2.2)+1)).2.1,l)]))] (oc (Ww _:((yU L)).length=L.length*3) (oc (by omega:(L.length+1)*40≤140737488355328∧L.length+1≤9223372036854775807) (oc (Yy L ((qE s (qA s b+1)).2.1,(qE s (qA s ((qE s (qA s b+1)).2.2)+1)).2.1,l):(yU L)++[(iv ((qE s (qA s b+1)).2.1)),(iv ((qE s (qA s ((qE s (qA s b+1)).2.2)+1)).2.1)),(.ssl (zP l) 0 l.length)]=(yU (L++[((qE s (qA s b+1)).2.1,(qE s (qA s ((qE s (qA s b+1)).2.2)+1)).2.1,l)]))) oz)))<|qZ ?_
          exact qq ⟨((L++[((qE s (qA s b+1)).2.1,(qE s (qA s ((qE s (qA s b+1)).2.2)+1)).2.1,l)]),d,(0:Int),(0:Int),(q:Int)),.inl ⟨rfl,rfl,by omega,by simp only [List.length_append,List.length_singleton];omega,_,by rw [← hvl,ZO (l:=L) (a:=b) (by omega),if_pos h8,if_neg (by omega),hbr,if_pos rfl,List.length_append,List.length_singleton]⟩⟩ (Wk.trans (Wk.eq (show _=[ps 0 (sv (st s)),ps 3 (.opt 0 0),ps 4 (.opt 1 0),ps 5 (.osl 2 0 M.length),ps 7 (.opt 3 0),pb 0 33 [(iv 0),(iv 0)],pb 1 103 (r5 s d (0:Int) (0:Int) (q:Int)),pb 2 44 (yD M),pb 3 44 [(sv (st (qC s (qA s a+5)))),(.osl 79 0 ((L++[((qE s (qA s b+1)).2.1,(qE s (qA s ((qE s (qA s b+1)).2.2)+1)).2.1,l)]).length))],pb 79 47 (yU (L++[((qE s (qA s b+1)).2.1,(qE s (qA s ((qE s (qA s b+1)).2.2)+1)).2.1,l)]))] from by rw [List.length_append];rfl)) (Wk.ren3 _ 0 hc0 [0,1,2,3,79] [(kb 2,(yD M)),(kb 4,(yU (L++[((qE s (qA s b+1)).2.1,(qE s (qA s ((qE s (qA s b+1)).2.2)+1)).2.1,l)])))] (oc (yP _) (oc (yj _) (oz))) (by kernel_rfl) rfl rfl (by kernel_rfl) (by kernel_rfl))) (show mE (0:Int) 1024 (L++[((qE s (qA s b+1)).2.1,(qE s (qA s ((qE s (qA s b+1)).2.2)+1)).2.1,l)]).length<mE e1 1024 L.length from mE_next h7 hL (by simp only [List.length_append,List.length_singleton];omega))
         obtain ⟨hf2,hBL⟩:=bi_err hbi h19
         refine qj (Wk.eq (show _=[ps 0 (sv (st s)),ps 3 (.opt 0 0),ps 4 (.opt 1 0),ps 5 (.osl 2 0 M.length),ps 7 (.opt 3 0),ps 8 (.opt 5 0),ps 96 (bv false),pb 0 33 [(iv 0),(iv 0)],pb 1 103 (yz s d e2 d k2),pb 2 44 (yD M),pb 3 44 [(sv (st (qC s (qA s a+5)))),(.osl 4 0 L.length)],pb 4 47 (yU L),pb 5 47 [(iv ((qE s (qA s b+1)).2.1)),(iv ((qE s (qA s ((qE s (qA s b+1)).2.2)+1)).2.1)),(.osl 6 0 l.length)],pb 6 50 (zP l)] from by rw [hf2])) ?_
         have hbr:wR s (qA s b+1)=(e2,ZG,d,0):=by rw [wR,if_pos h10,if_pos h11,if_pos h12,hBL,if_neg h19]
         refine qj (Wk.frz2 (l':=[ps 0 (sv (st s)),ps 3 (.opt 0 0),ps 4 (.opt 1 0),ps 5 (.osl 2 0 M.length),ps 7 (.opt 3 0),ps 8 (.opt 5 0),ps 96 (bv false),pb 0 33 [(iv 0),(iv 0)],pb 1 103 (yz s d e2 d k2),pb 2 44 (yD M),pb 3 44 [(sv (st (qC s (qA s a+5)))),(.osl 4 0 L.length)],pb 4 47 (yU L),pb 5 47 [(iv ((qE s (qA s b+1)).2.1)),(iv ((qE s (qA s ((qE s (qA s b+1)).2.2)+1)).2.1)),(.ssl (zP l) 0 l.length)],(kb 6,none)]) 6 (T:=50) (cs:=(zP l)) [(kb 2,(yD M)),(kb 4,(yU L))] (oc (yP _) (oc (yj _) (oz))) (by kernel_rfl) (by kernel_rfl) (yA _) (by kernel_rfl))<|qj (Wk.less (l':=[ps 0 (sv (st s)),ps 3 (.opt 0 0),ps 4 (.opt 1 0),ps 5 (.osl 2 0 M.length),ps 7 (.opt 3 0),ps 8 (.opt 5 0),ps 96 (bv false),pb 0 33 [(iv 0),(iv 0)],pb 1 103 (yz s d e2 d k2),pb 2 44 (yD M),pb 3 44 [(sv (st (qC s (qA s a+5)))),(.osl 4 0 L.length)],pb 4 47 (yU L),pb 5 47 [(iv ((qE s (qA s b+1)).2.1)),(iv ((qE s (qA s ((qE s (qA s b+1)).2.2)+1)).2.1)),(.ssl (zP l) 0 l.length)]]) 47 (by kernel_rfl) (by kernel_rfl))<|qQ qD [(4,.app none (some (yU (L++[((qE s (qA s b+1)).2.1,(qE s (qA s ((qE s (qA s b+1)).2.2)+1)).2.1,l)]))))] [.k5,.d,.d,.k3,.d,.n,.d,.d,.n] [pb 3 44 [(sv (st (qC s (qA s a+5)))),(.osl 79 0 (L.length+1))],pb 79 47 (yU (L++[((qE s (qA s b+1)).2.1,(qE s (qA s ((qE s (qA s b+1)).2.2)+1)).2.1,l)]))] (oc (Ww _:((yU L)).length=L.length*3) (oc (by omega:(L.length+1)*40≤140737488355328∧L.length+1≤9223372036854775807) (oc (Yy L ((qE s (qA s b+1)).2.1,(qE s (qA s ((qE s (qA s b+1)).2.2)+1)).2.1,l):(yU L)++[(iv ((qE s (qA s b+1)).2.1)),(iv ((qE s (qA s ((qE s (qA s b+1)).2.2)+1)).2.1)),(.ssl (zP l) 0 l.length)]=(yU (L++[((qE s (qA s b+1)).2.1,(qE s (qA s ((qE s (qA s b+1)).2.2)+1)).2.1,l)]))) oz)))<|qZ ?_
         exact qq ⟨((L++[((qE s (qA s b+1)).2.1,(qE s (qA s ((qE s (qA s b+1)).2.2)+1)).2.1,l)]),d,(e2:Int),(d:Int),k2),.inr ⟨h19,rfl,by rw [← hvl,ZO (l:=L) (a:=b) (by omega),if_pos h8,if_neg (by omega),hbr,if_neg (show ¬ (e2:Int)=0 from h19)]⟩⟩ (Wk.trans (Wk.eq (show _=[ps 0 (sv (st s)),ps 3 (.opt 0 0),ps 4 (.opt 1 0),ps 5 (.osl 2 0 M.length),ps 7 (.opt 3 0),pb 0 33 [(iv 0),(iv 0)],pb 1 103 (r5 s d (e2:Int) (d:Int) k2),pb 2 44 (yD M),pb 3 44 [(sv (st (qC s (qA s a+5)))),(.osl 79 0 ((L++[((qE s (qA s b+1)).2.1,(qE s (qA s ((qE s (qA s b+1)).2.2)+1)).2.1,l)]).length))],pb 79 47 (yU (L++[((qE s (qA s b+1)).2.1,(qE s (qA s ((qE s (qA s b+1)).2.2)+1)).2.1,l)]))] from by rw [List.length_append];rfl)) (Wk.ren3 _ 0 hc0 [0,1,2,3,79] [(kb 2,(yD M)),(kb 4,(yU (L++[((qE s (qA s b+1)).2.1,(qE s (qA s ((qE s (qA s b+1)).2.2)+1)).2.1,l)])))] (oc (yP _) (oc (yj _) (oz))) (by kernel_rfl) rfl rfl (by kernel_rfl) (by kernel_rfl))) (show mE (e2:Int) 1024 (L++[((qE s (qA s b+1)).2.1,(qE s (qA s ((qE s (qA s b+1)).2.2)+1)).2.1,l)]).length<mE e1 1024 L.length from WY h7 hL h19)
        refine zC qD 1 [.k7,.d,.n,.r] [pb 1 103 (yz s ((qE s (qA s ((qE s (qA s b+1)).2.2)+1)).2.2) ((qE s (qA s ((qE s (qA s b+1)).2.2)+1)).1) ((qE s (qA s ((qE s (qA s b+1)).2.2)+1)).2.2) k1)] (zY [1] 181 (QY (wO s (qA s ((qE s (qA s b+1)).2.2)+1) k1 hs (by omega)) h12) oz)<|qB ?_
        have hn2:=wK (s:=s) (a:=qA s (qE s (qA s b+1)).2.2+1) hlt2
        refine qH qD [.k7,.d,.n,.r] [pb 1 103 (yz s ((qE s (qA s ((qE s (qA s b+1)).2.2)+1)).2.2) ((qE s (qA s ((qE s (qA s b+1)).2.2)+1)).1) ((qE s (qA s ((qE s (qA s b+1)).2.2)+1)).2.2) 4095)]<|qj (Wk.eq (show _=[ps 0 (sv (st s)),ps 3 (.opt 0 0),ps 4 (.opt 1 0),ps 5 (.osl 2 0 M.length),ps 7 (.opt 3 0),ps 8 (.opt 141 0),pb 0 33 [(iv 0),(iv 0)],pb 1 103 (jV s ((qE s (qA s ((qE s (qA s b+1)).2.2)+1)).2.2) ((qE s (qA s ((qE s (qA s b+1)).2.2)+1)).1) ((qE s (qA s ((qE s (qA s b+1)).2.2)+1)).2.2) 4095),pb 2 44 (yD M),pb 3 44 [(sv (st (qC s (qA s a+5)))),(.osl 4 0 L.length)],pb 4 47 (yU L),pb 141 47 [(iv ((qE s (qA s b+1)).2.1)),(iv 0),sn]] from by rfl)) ?_
        refine qB<|qB<|qH qD [.k6,.n,.r] [ps 9 (bv true)]<|qX<|qj (Wk.nilc (B:=47) (cells:=[(iv ((qE s (qA s b+1)).2.1)),(iv 0),sn]) 141 2 50 (by kernel_rfl) rfl)<|qj (Wk.less (l':=[ps 0 (sv (st s)),ps 3 (.opt 0 0),ps 4 (.opt 1 0),ps 5 (.osl 2 0 M.length),ps 7 (.opt 3 0),ps 8 (.opt 141 0),ps 9 (bv true),pb 0 33 [(iv 0),(iv 0)],pb 1 103 (jV s ((qE s (qA s ((qE s (qA s b+1)).2.2)+1)).2.2) ((qE s (qA s ((qE s (qA s b+1)).2.2)+1)).1) ((qE s (qA s ((qE s (qA s b+1)).2.2)+1)).2.2) 4095),pb 2 44 (yD M),pb 3 44 [(sv (st (qC s (qA s a+5)))),(.osl 4 0 L.length)],pb 4 47 (yU L),pb 141 47 [(iv ((qE s (qA s b+1)).2.1)),(iv 0),(.osl 245 0 0)],pb 245 50 []]) 246 (by kernel_rfl) (by kernel_rfl))<|qj (Wk.eq (show _=[ps 0 (sv (st s)),ps 3 (.opt 0 0),ps 4 (.opt 1 0),ps 5 (.osl 2 0 M.length),ps 7 (.opt 3 0),ps 8 (.opt 141 0),ps 9 (bv true),pb 0 33 [(iv 0),(iv 0)],pb 1 103 (jV s ((qE s (qA s ((qE s (qA s b+1)).2.2)+1)).2.2) ((qE s (qA s ((qE s (qA s b+1)).2.2)+1)).1) ((qE s (qA s ((qE s (qA s b+1)).2.2)+1)).2.2) 4095),pb 2 44 (yD M),pb 3 44 [(sv (st (qC s (qA s a+5)))),(.osl 4 0 L.length)],pb 4 47 (yU L),pb 141 47 [(iv ((qE s (qA s b+1)).2.1)),(iv 0),(.osl 245 0 (([]:List It).length))],pb 245 50 (zP ([]:List It))] from by rfl)) ?_
        refine zy (α:={x:Nat // True}) (fun x=>[ps 0 (sv (st s)),ps 3 (.opt 0 0),ps 4 (.opt 1 0),ps 5 (.osl 2 0 M.length),ps 7 (.opt 3 0),ps 8 (.opt 5 0),ps 9 (bv true),pb 0 33 [(iv 0),(iv 0)],pb 1 103 (jV s ((qE s (qA s ((qE s (qA s b+1)).2.2)+1)).2.2) ((qE s (qA s ((qE s (qA s b+1)).2.2)+1)).1) ((qE s (qA s ((qE s (qA s b+1)).2.2)+1)).2.2) 4095),pb 2 44 (yD M),pb 3 44 [(sv (st (qC s (qA s a+5)))),(.osl 4 0 L.length)],pb 4 47 (yU L),pb 5 47 [(iv ((qE s (qA s b+1)).2.1)),(iv 0),(.osl 6 0 (([]:List It).length))],pb 6 50 (zP ([]:List It))]) (fun x=>0) 7 ⟨0,trivial⟩ (Wk.ren3 _ 0 hc0 [0,1,2,3,4,141,245] [(kb 2,(yD M)),(kb 4,(yU L)),(kb 6,(zP ([]:List It)))] (oc (yP _) (oc (yj _) (oc (yA _) (oz)))) (by kernel_rfl) rfl rfl (by kernel_rfl) (by kernel_rfl)) ?_
        rintro ⟨_zz,_⟩
        refine qB<|qB<|zD qD [(2,.gd true .no),(3,.gd true (.call [1] [(.opt 0 0)] [some (103,(jV s ((qE s (qA s ((qE s (qA s b+1)).2.2)+1)).2.2) ((qE s (qA s ((qE s (qA s b+1)).2.2)+1)).1) ((qE s (qA s ((qE s (qA s b+1)).2.2)+1)).2.2) 4095))] (bv false) [some (103,(jV s ((qE s (qA s ((qE s (qA s b+1)).2.2)+1)).2.2) ((qE s (qA s ((qE s (qA s b+1)).2.2)+1)).1) ((qE s (qA s ((qE s (qA s b+1)).2.2)+1)).2.2) 4095))]))] [ps 0 (sv (st s)),ps 3 (.opt 0 0),ps 4 (.opt 1 0),ps 5 (.osl 2 0 M.length),ps 7 (.opt 3 0),ps 8 (.opt 5 0),ps 96 (bv false),pb 0 33 [(iv 0),(iv 0)],pb 1 103 (jV s ((qE s (qA s ((qE s (qA s b+1)).2.2)+1)).2.2) ((qE s (qA s ((qE s (qA s b+1)).2.2)+1)).1) ((qE s (qA s ((qE s (qA s b+1)).2.2)+1)).2.2) 4095),pb 2 44 (yD M),pb 3 44 [(sv (st (qC s (qA s a+5)))),(.osl 4 0 L.length)],pb 4 47 (yU L),pb 5 47 [(iv ((qE s (qA s b+1)).2.1)),(iv 0),(.osl 6 0 (([]:List It).length))],pb 6 50 (zP ([]:List It))] (on 2 tt (zY [1] 31 (wG s ((qE s (qA s ((qE s (qA s b+1)).2.2)+1)).2.2) ((4095:Nat):Int) ((qE s (qA s ((qE s (qA s b+1)).2.2)+1)).1) h12) oz))<|qO (b:=false) rfl rfl<|zI rfl rfl ?_
        have hbr:wR s (qA s b+1)=((qE s (qA s ((qE s (qA s b+1)).2.2)+1)).1,ZG,(qE s (qA s ((qE s (qA s b+1)).2.2)+1)).2.2,0):=by rw [wR,if_pos h10,if_pos h11,if_neg h12]
        refine qj (Wk.frz2 (l':=[ps 0 (sv (st s)),ps 3 (.opt 0 0),ps 4 (.opt 1 0),ps 5 (.osl 2 0 M.length),ps 7 (.opt 3 0),ps 8 (.opt 5 0),ps 96 (bv false),pb 0 33 [(iv 0),(iv 0)],pb 1 103 (jV s ((qE s (qA s ((qE s (qA s b+1)).2.2)+1)).2.2) ((qE s (qA s ((qE s (qA s b+1)).2.2)+1)).1) ((qE s (qA s ((qE s (qA s b+1)).2.2)+1)).2.2) 4095),pb 2 44 (yD M),pb 3 44 [(sv (st (qC s (qA s a+5)))),(.osl 4 0 L.length)],pb 4 47 (yU L),pb 5 47 [(iv ((qE s (qA s b+1)).2.1)),(iv 0),(.ssl (zP ([]:List It)) 0 (([]:List It).length))],(kb 6,none)]) 6 (T:=50) (cs:=(zP ([]:List It))) [(kb 2,(yD M)),(kb 4,(yU L))] (oc (yP _) (oc (yj _) (oz))) (by kernel_rfl) (by kernel_rfl) (yA _) (by kernel_rfl))<|qj (Wk.less (l':=[ps 0 (sv (st s)),ps 3 (.opt 0 0),ps 4 (.opt 1 0),ps 5 (.osl 2 0 M.length),ps 7 (.opt 3 0),ps 8 (.opt 5 0),ps 96 (bv false),pb 0 33 [(iv 0),(iv 0)],pb 1 103 (jV s ((qE s (qA s ((qE s (qA s b+1)).2.2)+1)).2.2) ((qE s (qA s ((qE s (qA s b+1)).2.2)+1)).1) ((qE s (qA s ((qE s (qA s b+1)).2.2)+1)).2.2) 4095),pb 2 44 (yD M),pb 3 44 [(sv (st (qC s (qA s a+5)))),(.osl 4 0 L.length)],pb 4 47 (yU L),pb 5 47 [(iv ((qE s (qA s b+1)).2.1)),(iv 0),(.ssl (zP ([]:List It)) 0 (([]:List It).length))]]) 47 (by kernel_rfl) (by kernel_rfl))<|qQ qD [(4,.app none (some (yU (L++[((qE s (qA s b+1)).2.1,0,[])]))))] [.k5,.d,.d,.k3,.d,.n,.d,.d,.n] [pb 3 44 [(sv (st (qC s (qA s a+5)))),(.osl 79 0 (L.length+1))],pb 79 47 (yU (L++[((qE s (qA s b+1)).2.1,0,[])]))] (oc (Ww _:((yU L)).length=L.length*3) (oc (by omega:(L.length+1)*40≤140737488355328∧L.length+1≤9223372036854775807) (oc (Yy L ((qE s (qA s b+1)).2.1,0,[]):(yU L)++[(iv ((qE s (qA s b+1)).2.1)),(iv 0),(.ssl (zP ([]:List It)) 0 (([]:List It).length))]=(yU (L++[((qE s (qA s b+1)).2.1,0,[])]))) oz)))<|qZ ?_
        exact qq ⟨((L++[((qE s (qA s b+1)).2.1,0,[])]),(qE s (qA s ((qE s (qA s b+1)).2.2)+1)).2.2,((qE s (qA s ((qE s (qA s b+1)).2.2)+1)).1:Int),(((qE s (qA s ((qE s (qA s b+1)).2.2)+1)).2.2:Nat):Int),((4095:Nat):Int)),.inr ⟨h12,rfl,by rw [← hvl,ZO (l:=L) (a:=b) (by omega),if_pos h8,if_neg (by omega),hbr,if_neg (show ¬ (((qE s (qA s ((qE s (qA s b+1)).2.2)+1)).1):Int)=0 from h12)]⟩⟩ (Wk.trans (Wk.eq (show _=[ps 0 (sv (st s)),ps 3 (.opt 0 0),ps 4 (.opt 1 0),ps 5 (.osl 2 0 M.length),ps 7 (.opt 3 0),pb 0 33 [(iv 0),(iv 0)],pb 1 103 (r5 s ((qE s (qA s ((qE s (qA s b+1)).2.2)+1)).2.2) ((qE s (qA s ((qE s (qA s b+1)).2.2)+1)).1:Int) (((qE s (qA s ((qE s (qA s b+1)).2.2)+1)).2.2:Nat):Int) ((4095:Nat):Int)),pb 2 44 (yD M),pb 3 44 [(sv (st (qC s (qA s a+5)))),(.osl 79 0 ((L++[((qE s (qA s b+1)).2.1,0,[])]).length))],pb 79 47 (yU (L++[((qE s (qA s b+1)).2.1,0,[])]))] from by rw [List.length_append];rfl)) (Wk.ren3 _ 0 hc0 [0,1,2,3,79] [(kb 2,(yD M)),(kb 4,(yU (L++[((qE s (qA s b+1)).2.1,0,[])])))] (oc (yP _) (oc (yj _) (oz))) (by kernel_rfl) rfl rfl (by kernel_rfl) (by kernel_rfl))) (show mE ((qE s (qA s ((qE s (qA s b+1)).2.2)+1)).1:Int) 1024 (L++[((qE s (qA s b+1)).2.1,0,[])]).length<mE e1 1024 L.length from WY h7 hL h12)
       refine zC qD 1 [.k7,.d,.n,.r] [pb 1 103 (yz s (qA s ((qE s (qA s b+1)).2.2)) 2 (qA s ((qE s (qA s b+1)).2.2)) k1)] (zY [1] 165 (qje s ((qE s (qA s b+1)).2.2) k1 47 hs (by omega) h11) oz)<|qB ?_
       have hgn2:=zR hn1.2
       refine zC qD 1 [.k8,.k3,.d,.n] [pb 141 47 [(iv ((qE s (qA s b+1)).2.1)),(iv (vC (qK s (qA s ((qE s (qA s b+1)).2.2))))),sn]] (zY [1] 181 (qjg s (qA s ((qE s (qA s b+1)).2.2)) k1 hs (by omega) 2 (by decide)) oz)<|qB<|qH qD [.k7,.d,.n,.r] [pb 1 103 (yz s (qA s ((qE s (qA s b+1)).2.2)) 2 (qA s ((qE s (qA s b+1)).2.2)) 4095)]<|qj (Wk.eq (show _=[ps 0 (sv (st s)),ps 3 (.opt 0 0),ps 4 (.opt 1 0),ps 5 (.osl 2 0 M.length),ps 7 (.opt 3 0),ps 8 (.opt 141 0),pb 0 33 [(iv 0),(iv 0)],pb 1 103 (jV s (qA s ((qE s (qA s b+1)).2.2)) 2 (qA s ((qE s (qA s b+1)).2.2)) 4095),pb 2 44 (yD M),pb 3 44 [(sv (st (qC s (qA s a+5)))),(.osl 4 0 L.length)],pb 4 47 (yU L),pb 141 47 [(iv ((qE s (qA s b+1)).2.1)),(iv (vC (qK s (qA s ((qE s (qA s b+1)).2.2))))),sn]] from by rfl)) ?_
       refine qB<|qB<|qH qD [.k6,.n,.r] [ps 9 (bv true)]<|qX<|qj (Wk.nilc (B:=47) (cells:=[(iv ((qE s (qA s b+1)).2.1)),(iv (vC (qK s (qA s ((qE s (qA s b+1)).2.2))))),sn]) 141 2 50 (by kernel_rfl) rfl)<|qj (Wk.less (l':=[ps 0 (sv (st s)),ps 3 (.opt 0 0),ps 4 (.opt 1 0),ps 5 (.osl 2 0 M.length),ps 7 (.opt 3 0),ps 8 (.opt 141 0),ps 9 (bv true),pb 0 33 [(iv 0),(iv 0)],pb 1 103 (jV s (qA s ((qE s (qA s b+1)).2.2)) 2 (qA s ((qE s (qA s b+1)).2.2)) 4095),pb 2 44 (yD M),pb 3 44 [(sv (st (qC s (qA s a+5)))),(.osl 4 0 L.length)],pb 4 47 (yU L),pb 141 47 [(iv ((qE s (qA s b+1)).2.1)),(iv (vC (qK s (qA s ((qE s (qA s b+1)).2.2))))),(.osl 245 0 0)],pb 245 50 []]) 246 (by kernel_rfl) (by kernel_rfl))<|qj (Wk.eq (show _=[ps 0 (sv (st s)),ps 3 (.opt 0 0),ps 4 (.opt 1 0),ps 5 (.osl 2 0 M.length),ps 7 (.opt 3 0),ps 8 (.opt 141 0),ps 9 (bv true),pb 0 33 [(iv 0),(iv 0)],pb 1 103 (jV s (qA s ((qE s (qA s b+1)).2.2)) 2 (qA s ((qE s (qA s b+1)).2.2)) 4095),pb 2 44 (yD M),pb 3 44 [(sv (st (qC s (qA s a+5)))),(.osl 4 0 L.length)],pb 4 47 (yU L),pb 141 47 [(iv ((qE s (qA s b+1)).2.1)),(iv (vC (qK s (qA s ((qE s (qA s b+1)).2.2))))),(.osl 245 0 (([]:List It).length))],pb 245 50 (zP ([]:List It))] from by rfl)) ?_
       refine zy (α:={x:Nat // True}) (fun x=>[ps 0 (sv (st s)),ps 3 (.opt 0 0),ps 4 (.opt 1 0),ps 5 (.osl 2 0 M.length),ps 7 (.opt 3 0),ps 8 (.opt 5 0),ps 9 (bv true),pb 0 33 [(iv 0),(iv 0)],pb 1 103 (jV s (qA s ((qE s (qA s b+1)).2.2)) 2 (qA s ((qE s (qA s b+1)).2.2)) 4095),pb 2 44 (yD M),pb 3 44 [(sv (st (qC s (qA s a+5)))),(.osl 4 0 L.length)],pb 4 47 (yU L),pb 5 47 [(iv ((qE s (qA s b+1)).2.1)),(iv (vC (qK s (qA s ((qE s (qA s b+1)).2.2))))),(.osl 6 0 (([]:List It).length))],pb 6 50 (zP ([]:List It))]) (fun x=>0) 7 ⟨0,trivial⟩ (Wk.ren3 _ 0 hc0 [0,1,2,3,4,141,245] [(kb 2,(yD M)),(kb 4,(yU L)),(kb 6,(zP ([]:List It)))] (oc (yP _) (oc (yj _) (oc (yA _) (oz)))) (by kernel_rfl) rfl rfl (by kernel_rfl) (by kernel_rfl)) ?_
       rintro ⟨_zz,_⟩
       refine qB<|qB<|zD qD [(2,.gd true .no),(3,.gd true (.call [1] [(.opt 0 0)] [some (103,(jV s (qA s ((qE s (qA s b+1)).2.2)) 2 (qA s ((qE s (qA s b+1)).2.2)) 4095))] (bv false) [some (103,(jV s (qA s ((qE s (qA s b+1)).2.2)) 2 (qA s ((qE s (qA s b+1)).2.2)) 4095))]))] [ps 0 (sv (st s)),ps 3 (.opt 0 0),ps 4 (.opt 1 0),ps 5 (.osl 2 0 M.length),ps 7 (.opt 3 0),ps 8 (.opt 5 0),ps 96 (bv false),pb 0 33 [(iv 0),(iv 0)],pb 1 103 (jV s (qA s ((qE s (qA s b+1)).2.2)) 2 (qA s ((qE s (qA s b+1)).2.2)) 4095),pb 2 44 (yD M),pb 3 44 [(sv (st (qC s (qA s a+5)))),(.osl 4 0 L.length)],pb 4 47 (yU L),pb 5 47 [(iv ((qE s (qA s b+1)).2.1)),(iv (vC (qK s (qA s ((qE s (qA s b+1)).2.2))))),(.osl 6 0 (([]:List It).length))],pb 6 50 (zP ([]:List It))] (on 2 tt (zY [1] 31 (wG s (qA s ((qE s (qA s b+1)).2.2)) ((4095:Nat):Int) 2 (by decide)) oz))<|qO (b:=false) rfl rfl<|zI rfl rfl ?_
       have hbr:wR s (qA s b+1)=(2,ZG,qA s (qE s (qA s b+1)).2.2,0):=by rw [wR,if_pos h10,if_neg h11]
       refine qj (Wk.frz2 (l':=[ps 0 (sv (st s)),ps 3 (.opt 0 0),ps 4 (.opt 1 0),ps 5 (.osl 2 0 M.length),ps 7 (.opt 3 0),ps 8 (.opt 5 0),ps 96 (bv false),pb 0 33 [(iv 0),(iv 0)],pb 1 103 (jV s (qA s ((qE s (qA s b+1)).2.2)) 2 (qA s ((qE s (qA s b+1)).2.2)) 4095),pb 2 44 (yD M),pb 3 44 [(sv (st (qC s (qA s a+5)))),(.osl 4 0 L.length)],pb 4 47 (yU L),pb 5 47 [(iv ((qE s (qA s b+1)).2.1)),(iv (vC (qK s (qA s ((qE s (qA s b+1)).2.2))))),(.ssl (zP ([]:List It)) 0 (([]:List It).length))],(kb 6,none)]) 6 (T:=50) (cs:=(zP ([]:List It))) [(kb 2,(yD M)),(kb 4,(yU L))] (oc (yP _) (oc (yj _) (oz))) (by kernel_rfl) (by kernel_rfl) (yA _) (by kernel_rfl))<|qj (Wk.less (l':=[ps 0 (sv (st s)),ps 3 (.opt 0 0),ps 4 (.opt 1 0),ps 5 (.osl 2 0 M.length),ps 7 (.opt 3 0),ps 8 (.opt 5 0),ps 96 (bv false),pb 0 33 [(iv 0),(iv 0)],pb 1 103 (jV s (qA s ((qE s (qA s b+1)).2.2)) 2 (qA s ((qE s (qA s b+1)).2.2)) 4095),pb 2 44 (yD M),pb 3 44 [(sv (st (qC s (qA s a+5)))),(.osl 4 0 L.length)],pb 4 47 (yU L),pb 5 47 [(iv ((qE s (qA s b+1)).2.1)),(iv (vC (qK s (qA s ((qE s (qA s b+1)).2.2))))),(.ssl (zP ([]:List It)) 0 (([]:List It).length))]]) 47 (by kernel_rfl) (by kernel_rfl))<|qQ qD [(4,.app none (some (yU (L++[((qE s (qA s b+1)).2.1,vC (qK s (qA s ((qE s (qA s b+1)).2.2))),[])]))))] [.k5,.d,.d,.k3,.d,.n,.d,.d,.n] [pb 3 44 [(sv (st (qC s (qA s a+5)))),(.osl 79 0 (L.length+1))],pb 79 47 (yU (L++[((qE s (qA s b+1)).2.1,vC (qK s (qA s ((qE s (qA s b+1)).2.2))),[])]))] (oc (Ww _:((yU L)).length=L.length*3) (oc (by omega:(L.length+1)*40≤140737488355328∧L.length+1≤9223372036854775807) (oc (Yy L ((qE s (qA s b+1)).2.1,vC (qK s (qA s ((qE s (qA s b+1)).2.2))),[]):(yU L)++[(iv ((qE s (qA s b+1)).2.1)),(iv (vC (qK s (qA s ((qE s (qA s b+1)).2.2))))),(.ssl (zP ([]:List It)) 0 (([]:List It).length))]=(yU (L++[((qE s (qA s b+1)).2.1,vC (qK s (qA s ((qE s (qA s b+1)).2.2))),[])]))) oz)))<|qZ ?_
       exact qq ⟨((L++[((qE s (qA s b+1)).2.1,vC (qK s (qA s ((qE s (qA s b+1)).2.2))),[])]),qA s ((qE s (qA s b+1)).2.2),(2:Int),(qA s ((qE s (qA s b+1)).2.2):Int),((4095:Nat):Int)),.inr ⟨(show ¬ (2:Int)=0 by decide),rfl,by rw [← hvl,ZO (l:=L) (a:=b) (by omega),if_pos h8,if_neg (by omega),hbr,if_neg (show ¬ (2:Int)=0 from (show ¬ (2:Int)=0 by decide))]⟩⟩ (Wk.trans (Wk.eq (show _=[ps 0 (sv (st s)),ps 3 (.opt 0 0),ps 4 (.opt 1 0),ps 5 (.osl 2 0 M.length),ps 7 (.opt 3 0),pb 0 33 [(iv 0),(iv 0)],pb 1 103 (r5 s (qA s ((qE s (qA s b+1)).2.2)) (2:Int) (qA s ((qE s (qA s b+1)).2.2):Int) ((4095:Nat):Int)),pb 2 44 (yD M),pb 3 44 [(sv (st (qC s (qA s a+5)))),(.osl 79 0 ((L++[((qE s (qA s b+1)).2.1,vC (qK s (qA s ((qE s (qA s b+1)).2.2))),[])]).length))],pb 79 47 (yU (L++[((qE s (qA s b+1)).2.1,vC (qK s (qA s ((qE s (qA s b+1)).2.2))),[])]))] from by rw [List.length_append];rfl)) (Wk.ren3 _ 0 hc0 [0,1,2,3,79] [(kb 2,(yD M)),(kb 4,(yU (L++[((qE s (qA s b+1)).2.1,vC (qK s (qA s ((qE s (qA s b+1)).2.2))),[])])))] (oc (yP _) (oc (yj _) (oz))) (by kernel_rfl) rfl rfl (by kernel_rfl) (by kernel_rfl))) (show mE (2:Int) 1024 (L++[((qE s (qA s b+1)).2.1,vC (qK s (qA s ((qE s (qA s b+1)).2.2))),[])]).length<mE e1 1024 L.length from WY h7 hL (show ¬ (2:Int)=0 by decide))
      refine zC qD 1 [.k5,.n,.k1,.d,.n,.k3,.n] [ps 8 (.opt 141 0),pb 1 103 (yz s ((qE s (qA s b+1)).2.2) ((qE s (qA s b+1)).1) ((qE s (qA s b+1)).2.2) k1),pb 141 47 [(iv 0),(iv 0),sn]] (zY [1] 125 (QY (wO s (qA s b+1) k1 hs (by omega)) h10) oz)<|qB ?_
      have hn1:=wK (s:=s) (a:=(qA s b+1)) hlt
      have hgn:=vH s (qA s b+1)
      refine zC qD 1 [.r] [] (zY [1] 165 (YY s ((qE s (qA s b+1)).2.2) k1 47 ((qE s (qA s b+1)).1) h10) oz)<|qB<|zC qD 1 [.k8,.k3,.d,.n] [pb 141 47 [(iv 0),(iv (vC (qK s ((qE s (qA s b+1)).2.2)))),sn]] (zY [1] 181 (qjg s ((qE s (qA s b+1)).2.2) k1 hs (by omega) ((qE s (qA s b+1)).1) h10) oz)<|qB<|qH qD [.k7,.d,.n,.r] [pb 1 103 (yz s ((qE s (qA s b+1)).2.2) ((qE s (qA s b+1)).1) ((qE s (qA s b+1)).2.2) 4095)]<|qj (Wk.eq (show _=[ps 0 (sv (st s)),ps 3 (.opt 0 0),ps 4 (.opt 1 0),ps 5 (.osl 2 0 M.length),ps 7 (.opt 3 0),ps 8 (.opt 141 0),pb 0 33 [(iv 0),(iv 0)],pb 1 103 (jV s ((qE s (qA s b+1)).2.2) ((qE s (qA s b+1)).1) ((qE s (qA s b+1)).2.2) 4095),pb 2 44 (yD M),pb 3 44 [(sv (st (qC s (qA s a+5)))),(.osl 4 0 L.length)],pb 4 47 (yU L),pb 141 47 [(iv 0),(iv (vC (qK s ((qE s (qA s b+1)).2.2)))),sn]] from by rfl)) ?_
      refine qB<|qB<|qH qD [.k6,.n,.r] [ps 9 (bv true)]<|qX<|qj (Wk.nilc (B:=47) (cells:=[(iv 0),(iv (vC (qK s ((qE s (qA s b+1)).2.2)))),sn]) 141 2 50 (by kernel_rfl) rfl)<|qj (Wk.less (l':=[ps 0 (sv (st s)),ps 3 (.opt 0 0),ps 4 (.opt 1 0),ps 5 (.osl 2 0 M.length),ps 7 (.opt 3 0),ps 8 (.opt 141 0),ps 9 (bv true),pb 0 33 [(iv 0),(iv 0)],pb 1 103 (jV s ((qE s (qA s b+1)).2.2) ((qE s (qA s b+1)).1) ((qE s (qA s b+1)).2.2) 4095),pb 2 44 (yD M),pb 3 44 [(sv (st (qC s (qA s a+5)))),(.osl 4 0 L.length)],pb 4 47 (yU L),pb 141 47 [(iv 0),(iv (vC (qK s ((qE s (qA s b+1)).2.2)))),(.osl 245 0 0)],pb 245 50 []]) 246 (by kernel_rfl) (by kernel_rfl))<|qj (Wk.eq (show _=[ps 0 (sv (st s)),ps 3 (.opt 0 0),ps 4 (.opt 1 0),ps 5 (.osl 2 0 M.length),ps 7 (.opt 3 0),ps 8 (.opt 141 0),ps 9 (bv true),pb 0 33 [(iv 0),(iv 0)],pb 1 103 (jV s ((qE s (qA s b+1)).2.2) ((qE s (qA s b+1)).1) ((qE s (qA s b+1)).2.2) 4095),pb 2 44 (yD M),pb 3 44 [(sv (st (qC s (qA s a+5)))),(.osl 4 0 L.length)],pb 4 47 (yU L),pb 141 47 [(iv 0),(iv (vC (qK s ((qE s (qA s b+1)).2.2)))),(.osl 245 0 (([]:List It).length))],pb 245 50 (zP ([]:List It))] from by rfl)) ?_
      refine zy (α:={x:Nat // True}) (fun x=>[ps 0 (sv (st s)),ps 3 (.opt 0 0),ps 4 (.opt 1 0),ps 5 (.osl 2 0 M.length),ps 7 (.opt 3 0),ps 8 (.opt 5 0),ps 9 (bv true),pb 0 33 [(iv 0),(iv 0)],pb 1 103 (jV s ((qE s (qA s b+1)).2.2) ((qE s (qA s b+1)).1) ((qE s (qA s b+1)).2.2) 4095),pb 2 44 (yD M),pb 3 44 [(sv (st (qC s (qA s a+5)))),(.osl 4 0 L.length)],pb 4 47 (yU L),pb 5 47 [(iv 0),(iv (vC (qK s ((qE s (qA s b+1)).2.2)))),(.osl 6 0 (([]:List It).length))],pb 6 50 (zP ([]:List It))]) (fun x=>0) 7 ⟨0,trivial⟩ (Wk.ren3 _ 0 hc0 [0,1,2,3,4,141,245] [(kb 2,(yD M)),(kb 4,(yU L)),(kb 6,(zP ([]:List It)))] (oc (yP _) (oc (yj _) (oc (yA _) (oz)))) (by kernel_rfl) rfl rfl (by kernel_rfl) (by kernel_rfl)) ?_
      rintro ⟨_zz,_⟩
      refine qB<|qB<|zD qD [(2,.gd true .no),(3,.gd true (.call [1] [(.opt 0 0)] [some (103,(jV s ((qE s (qA s b+1)).2.2) ((qE s (qA s b+1)).1) ((qE s (qA s b+1)).2.2) 4095))] (bv false) [some (103,(jV s ((qE s (qA s b+1)).2.2) ((qE s (qA s b+1)).1) ((qE s (qA s b+1)).2.2) 4095))]))] [ps 0 (sv (st s)),ps 3 (.opt 0 0),ps 4 (.opt 1 0),ps 5 (.osl 2 0 M.length),ps 7 (.opt 3 0),ps 8 (.opt 5 0),ps 96 (bv false),pb 0 33 [(iv 0),(iv 0)],pb 1 103 (jV s ((qE s (qA s b+1)).2.2) ((qE s (qA s b+1)).1) ((qE s (qA s b+1)).2.2) 4095),pb 2 44 (yD M),pb 3 44 [(sv (st (qC s (qA s a+5)))),(.osl 4 0 L.length)],pb 4 47 (yU L),pb 5 47 [(iv 0),(iv (vC (qK s ((qE s (qA s b+1)).2.2)))),(.osl 6 0 (([]:List It).length))],pb 6 50 (zP ([]:List It))] (on 2 tt (zY [1] 31 (wG s ((qE s (qA s b+1)).2.2) ((4095:Nat):Int) ((qE s (qA s b+1)).1) h10) oz))<|qO (b:=false) rfl rfl<|zI rfl rfl ?_
      have hbr:wR s (qA s b+1)=((qE s (qA s b+1)).1,ZG,(qE s (qA s b+1)).2.2,0):=by rw [wR,if_neg h10]
      refine qj (Wk.frz2 (l':=[ps 0 (sv (st s)),ps 3 (.opt 0 0),ps 4 (.opt 1 0),ps 5 (.osl 2 0 M.length),ps 7 (.opt 3 0),ps 8 (.opt 5 0),ps 96 (bv false),pb 0 33 [(iv 0),(iv 0)],pb 1 103 (jV s ((qE s (qA s b+1)).2.2) ((qE s (qA s b+1)).1) ((qE s (qA s b+1)).2.2) 4095),pb 2 44 (yD M),pb 3 44 [(sv (st (qC s (qA s a+5)))),(.osl 4 0 L.length)],pb 4 47 (yU L),pb 5 47 [(iv 0),(iv (vC (qK s ((qE s (qA s b+1)).2.2)))),(.ssl (zP ([]:List It)) 0 (([]:List It).length))],(kb 6,none)]) 6 (T:=50) (cs:=(zP ([]:List It))) [(kb 2,(yD M)),(kb 4,(yU L))] (oc (yP _) (oc (yj _) (oz))) (by kernel_rfl) (by kernel_rfl) (yA _) (by kernel_rfl))<|qj (Wk.less (l':=[ps 0 (sv (st s)),ps 3 (.opt 0 0),ps 4 (.opt 1 0),ps 5 (.osl 2 0 M.length),ps 7 (.opt 3 0),ps 8 (.opt 5 0),ps 96 (bv false),pb 0 33 [(iv 0),(iv 0)],pb 1 103 (jV s ((qE s (qA s b+1)).2.2) ((qE s (qA s b+1)).1) ((qE s (qA s b+1)).2.2) 4095),pb 2 44 (yD M),pb 3 44 [(sv (st (qC s (qA s a+5)))),(.osl 4 0 L.length)],pb 4 47 (yU L),pb 5 47 [(iv 0),(iv (vC (qK s ((qE s (qA s b+1)).2.2)))),(.ssl (zP ([]:List It)) 0 (([]:List It).length))]]) 47 (by kernel_rfl) (by kernel_rfl))<|qQ qD [(4,.app none (some (yU (L++[(0,vC (qK s (qE s (qA s b+1)).2.2),[])]))))] [.k5,.d,.d,.k3,.d,.n,.d,.d,.n] [pb 3 44 [(sv (st (qC s (qA s a+5)))),(.osl 79 0 (L.length+1))],pb 79 47 (yU (L++[(0,vC (qK s (qE s (qA s b+1)).2.2),[])]))] (oc (Ww _:((yU L)).length=L.length*3) (oc (by omega:(L.length+1)*40≤140737488355328∧L.length+1≤9223372036854775807) (oc (Yy L (0,vC (qK s (qE s (qA s b+1)).2.2),[]):(yU L)++[(iv 0),(iv (vC (qK s ((qE s (qA s b+1)).2.2)))),(.ssl (zP ([]:List It)) 0 (([]:List It).length))]=(yU (L++[(0,vC (qK s (qE s (qA s b+1)).2.2),[])]))) oz)))<|qZ ?_
      exact qq ⟨((L++[(0,vC (qK s (qE s (qA s b+1)).2.2),[])]),(qE s (qA s b+1)).2.2,((qE s (qA s b+1)).1:Int),(((qE s (qA s b+1)).2.2:Nat):Int),((4095:Nat):Int)),.inr ⟨h10,rfl,by rw [← hvl,ZO (l:=L) (a:=b) (by omega),if_pos h8,if_neg (by omega),hbr,if_neg (show ¬ (((qE s (qA s b+1)).1):Int)=0 from h10)]⟩⟩ (Wk.trans (Wk.eq (show _=[ps 0 (sv (st s)),ps 3 (.opt 0 0),ps 4 (.opt 1 0),ps 5 (.osl 2 0 M.length),ps 7 (.opt 3 0),pb 0 33 [(iv 0),(iv 0)],pb 1 103 (r5 s ((qE s (qA s b+1)).2.2) ((qE s (qA s b+1)).1:Int) (((qE s (qA s b+1)).2.2:Nat):Int) ((4095:Nat):Int)),pb 2 44 (yD M),pb 3 44 [(sv (st (qC s (qA s a+5)))),(.osl 79 0 ((L++[(0,vC (qK s (qE s (qA s b+1)).2.2),[])]).length))],pb 79 47 (yU (L++[(0,vC (qK s (qE s (qA s b+1)).2.2),[])]))] from by rw [List.length_append];rfl)) (Wk.ren3 _ 0 hc0 [0,1,2,3,79] [(kb 2,(yD M)),(kb 4,(yU (L++[(0,vC (qK s (qE s (qA s b+1)).2.2),[])])))] (oc (yP _) (oc (yj _) (oz))) (by kernel_rfl) rfl rfl (by kernel_rfl) (by kernel_rfl))) (show mE ((qE s (qA s b+1)).1:Int) 1024 (L++[(0,vC (qK s (qE s (qA s b+1)).2.2),[])]).length<mE e1 1024 L.length from WY h7 hL h10)
     refine qO (b:=(qP s b 124)) rfl (Bool.eq_false_iff.2 h8)<|zI rfl rfl ?_
     have hVL:vcL s 1024 [] (qA s (qA s a+5)+(qC s (qA s a+5)).length) z=(0,L,qA s b,z1):=by rw [← hvl,ZO (by omega),if_neg h8]
     refine qj (Wk.frz2 (l':=[ps 0 (sv (st s)),ps 3 (.opt 0 0),ps 4 (.opt 1 0),ps 5 (.osl 2 0 M.length),ps 7 (.opt 3 0),ps 67 (bv (qP s b 124)),pb 0 33 [(iv 0),(iv 0)],pb 1 103 (r5 s (qA s b) 0 0 k1),pb 2 44 (yD M),pb 3 44 [(sv (st (qC s (qA s a+5)))),(.ssl (yU L) 0 L.length)],(kb 4,none)]) 4 (T:=47) (cs:=(yU L)) [(kb 2,(yD M))] (oc (yP _) (oz)) (by kernel_rfl) (by kernel_rfl) (yj _) (by kernel_rfl))<|qj (Wk.less (l':=[ps 0 (sv (st s)),ps 3 (.opt 0 0),ps 4 (.opt 1 0),ps 5 (.osl 2 0 M.length),ps 7 (.opt 3 0),ps 67 (bv (qP s b 124)),pb 0 33 [(iv 0),(iv 0)],pb 1 103 (r5 s (qA s b) 0 0 k1),pb 2 44 (yD M),pb 3 44 [(sv (st (qC s (qA s a+5)))),(.ssl (yU L) 0 L.length)]]) 21 (by kernel_rfl) (by kernel_rfl))<|qQ qD [(3,.app none (some (yD (M++[((qC s (qA s a+5)),L)]))))] [.k3,.d,.n,.d,.d,.k2,.d,.d,.n] [ps 5 (.osl 45 0 (M.length+1)),pb 45 44 (yD (M++[((qC s (qA s a+5)),L)]))] (oc (qdf _:((yD M)).length=M.length*2) (oc (by omega:(M.length+1)*40≤140737488355328∧M.length+1≤9223372036854775807) (oc (qaw M ((qC s (qA s a+5)),L):(yD M)++[(sv (st (qC s (qA s a+5)))),(.ssl (yU L) 0 L.length)]=(yD (M++[((qC s (qA s a+5)),L)]))) oz)))<|qZ ?_
     have hvr:jB s (qA s a) z=(0,((qC s (qA s a+5)),L),qA s b,z1):=by rw [jB,YT,if_pos (show qC s a=vow from h5),vG,if_pos h6,hVL,if_pos rfl]
     exact qq ⟨((M++[((qC s (qA s a+5)),L)]),qA s b,(0:Int),(0:Int),(k1)),.inl ⟨rfl,rfl,by omega,by simp only [List.length_append,List.length_singleton];omega,z1,by rw [← hrd,ZQ (l:=M) (a:=a) (by omega),if_neg (by omega),if_neg (by omega),hvr,if_pos rfl,List.length_append,List.length_singleton]⟩⟩ (Wk.trans (Wk.eq (show _=[ps 0 (sv (st s)),ps 3 (.opt 0 0),ps 4 (.opt 1 0),ps 5 (.osl 45 0 ((M++[((qC s (qA s a+5)),L)]).length)),pb 0 33 [(iv 0),(iv 0)],pb 1 103 (r5 s (qA s b) (0:Int) (0:Int) (k1)),pb 45 44 (yD (M++[((qC s (qA s a+5)),L)]))] from by rw [List.length_append];rfl)) (Wk.ren3 _ 0 hc0 [0,1,45] [(kb 2,(yD (M++[((qC s (qA s a+5)),L)])))] (oc (yP _) (oz)) (by kernel_rfl) rfl rfl (by kernel_rfl) (by kernel_rfl))) (show mE (0:Int) 64 (M++[((qC s (qA s a+5)),L)]).length<mE e 64 M.length from mE_next h2 hM (by simp only [List.length_append,List.length_singleton];omega))
    obtain ⟨hf1,hVL⟩:=vi_err hvi h7
    refine qj (Wk.eq (show [ps 0 (sv (st s)),ps 3 (.opt 0 0),ps 4 (.opt 1 0),ps 5 (.osl 2 0 M.length),ps 7 (.opt 3 0),pb 0 33 [(iv 0),(iv 0)],pb 1 103 (r5 s b e1 f1 k1),pb 2 44 (yD M),pb 3 44 [(sv (st (qC s (qA s a+5)))),(.osl 4 0 L.length)],pb 4 47 (yU L)]=[ps 0 (sv (st s)),ps 3 (.opt 0 0),ps 4 (.opt 1 0),ps 5 (.osl 2 0 M.length),ps 7 (.opt 3 0),pb 0 33 [(iv 0),(iv 0)],pb 1 103 (yz s b e1 b k1),pb 2 44 (yD M),pb 3 44 [(sv (st (qC s (qA s a+5)))),(.osl 4 0 L.length)],pb 4 47 (yU L)] from by rw [hf1])) ?_
    refine zC qD 1 [.k5,.n,.r] [ps 67 (bv false)] (zY [1] 13 (wF s b k1 124 e1 h7) oz)<|qO (b:=false) rfl rfl<|zI rfl rfl<|qj (Wk.frz2 (l':=[ps 0 (sv (st s)),ps 3 (.opt 0 0),ps 4 (.opt 1 0),ps 5 (.osl 2 0 M.length),ps 7 (.opt 3 0),ps 67 (bv false),pb 0 33 [(iv 0),(iv 0)],pb 1 103 (yz s b e1 b k1),pb 2 44 (yD M),pb 3 44 [(sv (st (qC s (qA s a+5)))),(.ssl (yU L) 0 L.length)],(kb 4,none)]) 4 (T:=47) (cs:=(yU L)) [(kb 2,(yD M))] (oc (yP _) (oz)) (by kernel_rfl) (by kernel_rfl) (yj _) (by kernel_rfl))<|qj (Wk.less (l':=[ps 0 (sv (st s)),ps 3 (.opt 0 0),ps 4 (.opt 1 0),ps 5 (.osl 2 0 M.length),ps 7 (.opt 3 0),ps 67 (bv false),pb 0 33 [(iv 0),(iv 0)],pb 1 103 (yz s b e1 b k1),pb 2 44 (yD M),pb 3 44 [(sv (st (qC s (qA s a+5)))),(.ssl (yU L) 0 L.length)]]) 21 (by kernel_rfl) (by kernel_rfl))<|qQ qD [(3,.app none (some (yD (M++[((qC s (qA s a+5)),L)]))))] [.k3,.d,.n,.d,.d,.k2,.d,.d,.n] [ps 5 (.osl 45 0 (M.length+1)),pb 45 44 (yD (M++[((qC s (qA s a+5)),L)]))] (oc (qdf _:((yD M)).length=M.length*2) (oc (by omega:(M.length+1)*40≤140737488355328∧M.length+1≤9223372036854775807) (oc (qaw M ((qC s (qA s a+5)),L):(yD M)++[(sv (st (qC s (qA s a+5)))),(.ssl (yU L) 0 L.length)]=(yD (M++[((qC s (qA s a+5)),L)]))) oz)))<|qZ ?_
    have hvr:jB s (qA s a) z=(e1,vS,b,0):=by rw [jB,YT,if_pos (show qC s a=vow from h5),vG,if_pos h6,hVL,if_neg (show ¬ (e1:Int)=0 from h7)]
    exact qq ⟨((M++[((qC s (qA s a+5)),L)]),b,(e1:Int),(b:Int),(k1)),.inr ⟨h7,rfl,by rw [← hrd,ZQ (l:=M) (a:=a) (by omega),if_neg (by omega),if_neg (by omega),hvr,if_neg (show ¬ (e1:Int)=0 from h7)]⟩⟩ (Wk.trans (Wk.eq (show _=[ps 0 (sv (st s)),ps 3 (.opt 0 0),ps 4 (.opt 1 0),ps 5 (.osl 45 0 ((M++[((qC s (qA s a+5)),L)]).length)),pb 0 33 [(iv 0),(iv 0)],pb 1 103 (r5 s b (e1:Int) (b:Int) (k1)),pb 45 44 (yD (M++[((qC s (qA s a+5)),L)]))] from by rw [List.length_append];rfl)) (Wk.ren3 _ 0 hc0 [0,1,45] [(kb 2,(yD (M++[((qC s (qA s a+5)),L)])))] (oc (yP _) (oz)) (by kernel_rfl) rfl rfl (by kernel_rfl) (by kernel_rfl))) (show mE (e1:Int) 64 (M++[((qC s (qA s a+5)),L)]).length<mE e 64 M.length from WY h2 hM h7)
   refine qS (congrArg Bool.not (Bool.eq_false_iff.2 h6))<|qB<|zC qD 1 [.d,.k3,.d,.d,.k1,.d,.n,.k1,.d] [pb 1 103 (yz s (qA s (qA s a+5)) 2 (qA s (qA s a+5)) kk)] (zY [1] 291 (yy s (qA s (qA s a+5)) kk 2) oz)<|zI rfl rfl<|qB<|qB<|zC qD 1 [.k3,.n,.r] [ps 142 (bv true)] (zY [1] 307 (wG s (qA s (qA s a+5)) kk 2 (by decide)) oz)<|qL (b:=true) rfl rfl<|qB<|VA qD [] [[],[0],[0,1],[0,1,2],[],[0,1,2,3,4]] [([286],[8]),([288],[286]),([290],[288]),([292],[3,290]),([4],[]),([1],[1,6,292])] [ps 2 sn,ps 3 (.opt 0 0),pb 0 33 [(iv 2),(nv (qA s (qA s a+5)))]] (oz) ?_
   have hvr:jB s (qA s a) z=(2,vS,qA s (qA s a+5),0):=by rw [jB,YT,if_pos (show qC s a=vow from h5),vG,if_neg h6]
   rw [show (yX s)=(2,[],qA s (qA s a+5)) from by rw [← hrd,ZQ (by omega),if_neg (by omega),if_neg (by omega),hvr,if_neg (by show ¬ ((2:Int)=0);decide)]]
   exact qk hc0 [2,3] [0]
  refine qS (bf h5)<|qB<|zC qD 1 [.d,.k3,.d,.k1,.d,.n,.r] [pb 1 103 (yz s (qA s a) 2 (qA s a) kk)] (zY [1] 147 (yy s (qA s a) kk 2) oz)<|zI rfl rfl<|qB<|qB<|zC qD 1 [.k3,.n,.r] [ps 142 (bv true)] (zY [1] 163 (wG s (qA s a) kk 2 (by decide)) oz)<|qL (b:=true) rfl rfl<|qB<|VA qD [] [[],[0],[0,1],[0,1,2],[],[0,1,2,3,4]] [([286],[8]),([288],[286]),([290],[288]),([292],[3,290]),([4],[]),([1],[1,6,292])] [ps 2 sn,ps 3 (.opt 0 0),pb 0 33 [(iv 2),(nv (qA s a))]] (oz) ?_
  have hvr:jB s (qA s a) z=(2,vS,qA s a,0):=by rw [jB,YT,if_neg (show ¬ qC s a=vow from h5),vG]
  rw [show (yX s)=(2,[],qA s a) from by rw [← hrd,ZQ (by omega),if_neg (by omega),if_neg (by omega),hvr,if_neg (by show ¬ ((2:Int)=0);decide)]]
  exact qk hc0 [2,3] [0]
 refine qR (qV h2)<|zI rfl rfl<|qB<|qB ?_
 obtain ⟨hf0,hRL⟩:=ri_err hin h2
 refine qj (Wk.eq (show _=[ps 0 (sv (st s)),ps 3 (.opt 0 0),ps 4 (.opt 1 0),ps 5 (.osl 2 0 M.length),ps 19 (bv (decide (e=0))),pb 0 33 [(iv 0),(iv 0)],pb 1 103 (yz s a e a kk),pb 2 44 (yD M)] from by rw [hf0])) ?_
 refine zC qD 1 [.d,.k3,.d,.n,.r] [ps 142 (bv true)] (zY [1] 27 (wG s a kk e h2) oz)<|qL (b:=true) rfl rfl<|qB<|VA qD [] [[],[0],[0,1],[0,1,2],[],[0,1,2,3,4]] [([286],[8]),([288],[286]),([290],[288]),([292],[3,290]),([4],[]),([1],[1,6,292])] [ps 2 sn,ps 3 (.opt 0 0),pb 0 33 [(iv e),(nv a)]] (oz) ?_
 rw [show (yX s)=(e,[],a) from hRL]
 exact qk hc0 [2,3] [0]
theorem pc_trimT {P:Program} {f:FuncId} {args cs:List PV} {off len:Nat} {p q:PV} (H':Hp) (hp:p.shd=true) (hq:q.shd=true) (h:PC P f args [] (.tup [.ssl cs off len,.agg [p,q]]) H'):PC P f args [] (.tup [.ssl cs off len,.agg [p,q]]) []:=by
 obtain ⟨h1,_,h2⟩:=h
 refine ⟨h1,Nat.le_refl _,fun c vs hh hrl=>(h2 c vs hh hrl).mono ?_⟩
 rintro e w' ⟨u,c',rfl,rfl,h3,h4⟩
 have hno:∀ (H:Hp),(∀ i,H.getD i none=none)→∀ i,¬ vQ (VX H) i:=fun H hH i ⟨T,cs,hx⟩=>by rw [ZA,hH] at hx;cases hx
 have hno0:=hno [] (fun i=>by simp)
 have hown:∀ i x,c.own i=some x→False:=fun i x hx=>by have:i<0:=hh.ids i x hx;omega
 have hk:=h3.keep
 refine ⟨u,⟨c'.w,c'.S,fun _=>none⟩,rfl,rfl,{ ids:=fun i x hx=>(by cases hx),blk:=fun i T cs hx=>absurd ⟨T,cs,hx⟩ (hno0 i),inj:=fun i j b T T' l1=>absurd l1 (hno0 i),apart:=fun i b T l1=>absurd l1 (hno0 i),bnd:=fun i b T hx=>(by cases hx),sok:=h3.sok,os:=h3.os,tape:=h3.tape,output:=h3.output,size:=h3.size,same:=h3.same,laid:=h3.laid,s0:=h3.s0,s1:=h3.s1,keep:=⟨hk.S,fun i x hx=>(hown i x hx).elim,hk.shape⟩ },?_⟩
 obtain ⟨us,rfl,q1,q2⟩:=qdh h4
 refine .tup q1 fun i hi=>?_
 have:i=0∨i=1:=by simp at hi;omega
 rcases this with rfl|rfl
 ·have e0:SRep c'.w c'.S (.ssl cs off len) (us.getD 0 undef):=qay (P:=P) (c:=c') (q2 0 (by simp)) rfl
  exact .sh e0
 ·obtain ⟨vs',e,k1,k2⟩:=Zk (show Rep P c' (.agg [p,q]) (us.getD 1 undef) from q2 1 (by simp))
  show Rep P _ (.agg [p,q]) (us.getD 1 undef)
  rw [e]
  refine .agg k1 fun j hj=>?_
  have:j=0∨j=1:=by simp at hj;omega
  rcases this with rfl|rfl
  ·have e0:SRep c'.w c'.S p (vs'.getD 0 undef):=qay (P:=P) (c:=c') (k2 0 (by simp)) hp
   exact .sh e0
  ·have e0:SRep c'.w c'.S q (vs'.getD 1 undef):=qay (P:=P) (c:=c') (k2 1 (by simp)) hq
   exact .sh e0
end Go.Proofs.YtmlnilkbolcknaaGreatDoor.Pm
namespace Go.Proofs.YtmlnilkbolcknaaGreatDoor
open Go Go.Shelf Go.RowKit Go.Lib
variable {P:Program} {ρ:Ren}

theorem qkg:∀ (l:List UInt8) (c:UInt8),(∀ b∈l,b.toNat<128)→128≤c.toNat→Lib.indexByte l c = -1
 | [],_,_,_=>rfl
 | b :: l,c,h,hc=>by
  have ih:=qkg l c (fun x hx=>h x (List.mem_cons_of_mem _ hx)) hc
  have hb:=h b List.mem_cons_self
  unfold Lib.indexByte
  have hbc:¬ (b == c)=true:=fun e=>absurd (show b=c by simpa using e) (fun e'=>by rw [e'] at hb;omega)
  rw [ih,if_neg hbc]
  rfl
set_option maxHeartbeats 8000000 in
set_option maxRecDepth 1000000 in
theorem rune_high (L:Lays.n152 P ρ) (s:ByteArray) (hs:∀ (j:Nat) b,s.data.toList[j]? = some b→b.toNat<128) (hz:4<s.size) (r:Int) (w:World) (h1:128≤r) :
  Calls P (ρ.f 152) #[.string s,.int .i32 r] w fun e w'=>e = .returned (.int .i64 (-1))∧Below w.heap.size w w':=by
 have HA:Aside (∀ (j:Nat) b,s.data.toList[j]? = some b→b.toNat<128):=hs
 clear hs
 have t3:=L.t3;have a3:=L.a3;have z3:=L.z3;have v3:=L.v3;have u3:=run_underlying L.t3
 have t4:=L.t4;have a4:=L.a4;have z4:=L.z4;have v4:=L.v4;have u4:=run_underlying L.t4
 have t5:=L.t5;have a5:=L.a5;have z5:=L.z5;have v5:=L.v5;have u5:=run_underlying L.t5
 have t9:=L.t9;have a9:=L.a9;have z9:=L.z9;have v9:=L.v9;have u9:=run_underlying L.t9
 have t21:=L.t21;have a21:=L.a21;have z21:=L.z21;have v21:=L.v21;have u21:=run_underlying L.t21
 have e137:∀ args w,(callFunc (ρ.f 137) args).run P w = .ok (.enter (ρ.f 137) args) w:=enters_of L.f137 (by kernel_rfl) rfl
 have e119:∀ args w,(callFunc (ρ.f 119) args).run P w = .ok (.enter (ρ.f 119) args) w:=enters_of L.f119 (by kernel_rfl) rfl
 have hr1:¬ r<128:=by omega
 have hr0:0≤r:=by omega
 by_cases hE:r=65533
 ·subst hE
  go_enter L.f152,Body.n152_ntmps ρ
  go_wp2
  go_loopg [5,6] s.size (fun g _ _ wx=>∃ i:Nat,i+g=s.size∧wx=w.iter s i)
  case atStart=>exact ⟨0,by omega,rfl⟩
  case round =>
   obtain ⟨i,hig,rfl⟩:=hrel
   cases gk with
   | zero =>
    obtain rfl:i=s.size:=by omega
    have hnx:=run_next_end (P:=P) w s s.size
    go_wp2
    go_ret
    exact ⟨rfl,(Below.refl _ _).alloc (Nat.le_refl _) _⟩
   | succ g =>
    have hi:i<s.size:=by omega
    obtain ⟨x,hx⟩:∃ x:UInt8,s[i]'hi=x:=⟨_,rfl⟩
    have hx128:x.toNat<128:=HA.out i x (by rw [← hx];exact Lib.data_getElem? s i hi)
    have hnx:=fun ty=>run_next_ascii (P:=P) w s i ty hi (by rw [hx];exact hx128)
    rw [hx] at hnx
    have hx3:((x.toNat:Int) == 65533)=false:=beq_eq_false_iff_ne.2 (by omega)
    go_wp2
    go_roundg g
    case measure=>omega
    case rel=>exact ⟨i+1,by omega,rfl⟩
 have hE':(r == 65533)=false:=beq_eq_false_iff_ne.2 hE
 by_cases hv:Lib.validRune r=true
 ·have hv':Utf8.valid r=true:=by
   rw [validRune_eq];exact hv
  obtain ⟨g1,g2,g3⟩:=encode_facts r hv' h1
  obtain ⟨es,hes⟩:∃ es,Utf8.encode r=es:=⟨_,rfl⟩
  rw [hes] at g1 g2 g3
  have g3':=g3 (by omega)
  obtain ⟨y,hy⟩:∃ y:UInt8,es[es.size-1]'(by omega)=y:=⟨_,rfl⟩
  rw [hy] at g3'
  clear g3
  have hsl:es.size-1<s.size:=by omega
  obtain ⟨x,hx⟩:∃ x:UInt8,s[es.size-1]'hsl=x:=⟨_,rfl⟩
  have hx128:x.toNat<128:=HA.out _ x (by rw [← hx];exact Lib.data_getElem? s _ hsl)
  have hxy:((x.toNat:Int) == (y.toNat:Int))=false:=beq_eq_false_iff_ne.2 (by omega)
  have hne:x≠y:=fun e=>by rw [e] at hx128;omega
  have hio:∀ a b,Lib.indexByte (s.extract a b).data.toList y = -1:=fun a b=>qkg _ _ (fun c hc=>by
   obtain ⟨j,hj⟩:=List.getElem?_of_mem (mem_extract hc)
   exact HA.out j c hj) g3'
  have hback:((y.toNat:Int)).toNat.toUInt8=y:=by simp
  rcases (show es.size=2∨es.size=3∨es.size=4 by omega) with hq|hq|hq
  ·simp only [hq] at hx hy
   have d1:(1:Int)<(s.size:Int):=by omega
   have d2:(1:Int)<(es.size:Int):=by omega
   have d3:1<s.size:=by omega
   have d5:(2:Int)≤(s.size:Int):=by omega
   have d4:1<es.size:=by omega
   have hwr:IntKind.i64.wrap 2=2:=by decide
   have hx':s[1]'d3=x:=hx
   have hy':es[1]'d4=y:=hy
   clear hx hy
   have mixed:=L.mixed
   go_enter L.f152,Body.n152_ntmps ρ
   go_wp2_with (first
    | (go_at_fn (ρ.f 119);refine (Any.utf8_ValidRune { L with } _ _).mono ?_;rintro e w' ⟨rfl,hw⟩;rw [hw,hv])
    | (go_at_fn (ρ.f 137);refine (Any.strings_IndexByte { L with } _ _ _).mono ?_;rintro e w' ⟨rfl,hw⟩;rw [hw,hback,hio]))
   go_step3
   go_wp2
   go_loopg [9,10] 1 (fun g s9 s10 wx=>s9 = .int .i64 1∧s10 = .int .i64 0∧wx=w)
   case atStart=>exact ⟨rfl,rfl,rfl⟩
   case round =>
    obtain ⟨rfl,rfl,rfl⟩:=hrel
    go_wp2
    go_step3
    go_wp2
    go_region_o
    go_wp2
    go_region_with_o (go_at_fn (ρ.f 137);refine (Any.strings_IndexByte { L with } _ _ _).mono ?_;rintro e w' ⟨rfl,hw⟩;rw [hw,hback,hio])
    go_wp2
    rw [Exit.noGoto_ret]
    go_wp2
    try rw [Exit.noGoto_ret]
    try go_wp2
    go_ret
    exact ⟨rfl,((Below.refl _ _).drew).drew⟩
  ·simp only [hq] at hx hy
   have d1:(2:Int)<(s.size:Int):=by omega
   have d2:(2:Int)<(es.size:Int):=by omega
   have d3:2<s.size:=by omega
   have d5:(3:Int)≤(s.size:Int):=by omega
   have d4:2<es.size:=by omega
   have hwr:IntKind.i64.wrap 3=3:=by decide
   have hx':s[2]'d3=x:=hx
   have hy':es[2]'d4=y:=hy
   clear hx hy
   have mixed:=L.mixed
   go_enter L.f152,Body.n152_ntmps ρ
   go_wp2_with (first
    | (go_at_fn (ρ.f 119);refine (Any.utf8_ValidRune { L with } _ _).mono ?_;rintro e w' ⟨rfl,hw⟩;rw [hw,hv])
    | (go_at_fn (ρ.f 137);refine (Any.strings_IndexByte { L with } _ _ _).mono ?_;rintro e w' ⟨rfl,hw⟩;rw [hw,hback,hio]))
   go_step3
   go_wp2
   go_loopg [9,10] 1 (fun g s9 s10 wx=>s9 = .int .i64 2∧s10 = .int .i64 0∧wx=w)
   case atStart=>exact ⟨rfl,rfl,rfl⟩
   case round =>
    obtain ⟨rfl,rfl,rfl⟩:=hrel
    go_wp2
    go_step3
    go_wp2
    go_region_o
    go_wp2
    go_region_with_o (go_at_fn (ρ.f 137);refine (Any.strings_IndexByte { L with } _ _ _).mono ?_;rintro e w' ⟨rfl,hw⟩;rw [hw,hback,hio])
    go_wp2
    rw [Exit.noGoto_ret]
    go_wp2
    try rw [Exit.noGoto_ret]
    try go_wp2
    go_ret
    exact ⟨rfl,((Below.refl _ _).drew).drew⟩
  ·simp only [hq] at hx hy
   have d1:(3:Int)<(s.size:Int):=by omega
   have d2:(3:Int)<(es.size:Int):=by omega
   have d3:3<s.size:=by omega
   have d5:(4:Int)≤(s.size:Int):=by omega
   have d4:3<es.size:=by omega
   have hwr:IntKind.i64.wrap 4=4:=by decide
   have hx':s[3]'d3=x:=hx
   have hy':es[3]'d4=y:=hy
   clear hx hy
   have mixed:=L.mixed
   go_enter L.f152,Body.n152_ntmps ρ
   go_wp2_with (first
    | (go_at_fn (ρ.f 119);refine (Any.utf8_ValidRune { L with } _ _).mono ?_;rintro e w' ⟨rfl,hw⟩;rw [hw,hv])
    | (go_at_fn (ρ.f 137);refine (Any.strings_IndexByte { L with } _ _ _).mono ?_;rintro e w' ⟨rfl,hw⟩;rw [hw,hback,hio]))
   go_step3
   go_wp2
   go_loopg [9,10] 1 (fun g s9 s10 wx=>s9 = .int .i64 3∧s10 = .int .i64 0∧wx=w)
   case atStart=>exact ⟨rfl,rfl,rfl⟩
   case round =>
    obtain ⟨rfl,rfl,rfl⟩:=hrel
    go_wp2
    go_step3
    go_wp2
    go_region_o
    go_wp2
    go_region_with_o (go_at_fn (ρ.f 137);refine (Any.strings_IndexByte { L with } _ _ _).mono ?_;rintro e w' ⟨rfl,hw⟩;rw [hw,hback,hio])
    go_wp2
    rw [Exit.noGoto_ret]
    go_wp2
    try rw [Exit.noGoto_ret]
    try go_wp2
    go_ret
    exact ⟨rfl,((Below.refl _ _).drew).drew⟩
 ·have hv':Lib.validRune r=false:=by simpa using hv
  go_enter L.f152,Body.n152_ntmps ρ
  go_wp2_with (go_at_fn (ρ.f 119);refine (Any.utf8_ValidRune { L with } _ _).mono ?_;rintro e w' ⟨rfl,hw⟩;rw [hw,hv'])
  go_ret
  exact ⟨rfl,Below.refl _ _⟩
end Go.Proofs.YtmlnilkbolcknaaGreatDoor
namespace Go.Proofs.YtmlnilkbolcknaaGreatDoor
open Go
variable {P:Program}

theorem QV {a b:Bool} (h:(a && b)=true):a=true∧b=true:=by simpa using h
theorem dec_w (s:ByteArray) (i:Nat) (h0:¬ (s.get! (i+0)).toNat<128):(Utf8.decode s i).2=1∨((Utf8.decode s i).2=2∧128≤(s.get! (i+1)).toNat)∨((Utf8.decode s i).2=3∧128≤(s.get! (i+1)).toNat∧128≤(s.get! (i+2)).toNat) ∨
  ((Utf8.decode s i).2=4∧128≤(s.get! (i+1)).toNat∧128≤(s.get! (i+2)).toNat∧128≤(s.get! (i+3)).toNat):=by
 have hc:∀ k,(decide (i+k<s.size) && (s.get! (i+k)).toNat / 64 == 2)=true→128≤(s.get! (i+k)).toNat:=fun k hk=>by
  simp only [Bool.and_eq_true,beq_iff_eq] at hk
  omega
 unfold Utf8.decode
 dsimp only
 rw [if_neg h0]
 by_cases h1:((s.get! (i+0)).toNat / 32 == 6 && (decide (i+1<s.size) && (s.get! (i+1)).toNat / 64 == 2))=true
 ·rw [if_pos h1]
  split
  ·exact .inr (.inl ⟨rfl,hc 1 (QV h1).2⟩)
  ·exact .inl rfl
 rw [if_neg h1]
 by_cases h2:((s.get! (i+0)).toNat / 16 == 14 && (decide (i+1<s.size) && (s.get! (i+1)).toNat / 64 == 2) && (decide (i+2<s.size) && (s.get! (i+2)).toNat / 64 == 2))=true
 ·rw [if_pos h2]
  split
  ·exact .inr (.inr (.inl ⟨rfl,hc 1 (QV (QV h2).1).2,hc 2 (QV h2).2⟩))
  ·exact .inl rfl
 rw [if_neg h2]
 by_cases h3:((s.get! (i+0)).toNat / 8 == 30 && (decide (i+1<s.size) && (s.get! (i+1)).toNat / 64 == 2) && (decide (i+2<s.size) && (s.get! (i+2)).toNat / 64 == 2) && (decide (i+3<s.size) && (s.get! (i+3)).toNat / 64 == 2))=true
 ·rw [if_pos h3]
  split
  ·exact .inr (.inr (.inr ⟨rfl,hc 1 (QV (QV (QV h3).1).1).2,hc 2 (QV (QV h3).1).2,hc 3 (QV h3).2⟩))
  ·exact .inl rfl
 rw [if_neg h3]
 exact .inl rfl
theorem dec_wide (s:ByteArray) (pos:Nat) (h:pos<s.size) (ha:128≤(s[pos]'h).toNat):∀ (j:Nat) b,j<(Utf8.decode s pos).2→s.data.toList[pos+j]? = some b→128≤b.toNat:=by
 intro j b hj hb
 have hz:s.get! (pos+0)=s[pos]'h:=get_at s pos h
 have h0:pos+j<s.size:=by
  have:=(List.getElem?_eq_some_iff.1 hb).1
  rwa [← Lib.size_eq] at this
 have hb':s.get! (pos+j)=b:=by
  have e:s.get! (pos+j)=s[pos+j]'h0:=by simp [ByteArray.get!,getElem!_pos,h0];rfl
  rw [e]
  have:=Lib.data_getElem? s (pos+j) h0
  rw [this] at hb
  exact Option.some.inj hb
 rw [← hb']
 have c0:128≤(s.get! (pos+0)).toNat:=by rw [hz];exact ha
 have hw:=dec_w s pos (by omega)
 rcases hw with e|⟨e,c1⟩|⟨e,c1,c2⟩|⟨e,c1,c2,c3⟩ <;> rw [e] at hj
 ·obtain rfl:j=0:=by omega
  exact c0
 ·rcases (show j=0∨j=1 by omega) with rfl|rfl <;> assumption
 ·rcases (show j=0∨j=1∨j=2 by omega) with rfl|rfl|rfl <;> assumption
 ·rcases (show j=0∨j=1∨j=2∨j=3 by omega) with rfl|rfl|rfl|rfl <;> assumption
theorem next_at {w:World} {p:Nat} {s:ByteArray} {pos:Nat} (hh:w.heap[p]? = some (.stringIter s pos)) (ty:TypeId) (h:pos<s.size) :
  (Instr.next (.pointer (some ⟨p,0,none⟩)) true ty).run P w = .ok (.tuple #[.bool true,.int .i64 pos,.int .i32 (Utf8.decode s pos).1]) { w with heap:=w.heap.setIfInBounds p (.stringIter s (pos+(Utf8.decode s pos).2)) }:=by
 simp only [Instr.next,getObj,setObj,Sem.run_bind,Sem.run,hh,Result.andThen,h,if_true]
 simp [goInt]
theorem next_over {w:World} {p:Nat} {s:ByteArray} {pos:Nat} (hh:w.heap[p]? = some (.stringIter s pos)) (ty:TypeId) (h:¬ pos<s.size) :
  (Instr.next (.pointer (some ⟨p,0,none⟩)) true ty).run P w = .ok (.tuple #[.bool false]) w:=by
 simp [Instr.next,getObj,Sem.run,hh,h]
end Go.Proofs.YtmlnilkbolcknaaGreatDoor
namespace Go.Proofs.YtmlnilkbolcknaaGreatDoor
open Go Go.Shelf Go.RowKit Go.Lib
variable {P:Program} {ρ:Ren}

theorem fit_dec (s:ByteArray) (pos:Nat) (h:pos<s.size):pos+(Utf8.decode s pos).2≤s.size:=by
 simp only [Utf8.decode]
 repeat' split
 all_goals simp_all
 all_goals omega
theorem qfq {w wx:World} {s:ByteArray} {i j:Nat} (h:Below w.heap.size w wx) (hh:wx.heap[w.heap.size]? = some (.stringIter s i)):Below w.heap.size w { wx with heap:=wx.heap.setIfInBounds w.heap.size (.stringIter s j) } ∧
  ({ wx with heap:=wx.heap.setIfInBounds w.heap.size (.stringIter s j) }:World).heap[w.heap.size]? = some (.stringIter s j)∧w.heap.size<({ wx with heap:=wx.heap.setIfInBounds w.heap.size (.stringIter s j) }:World).heap.size:=by
 have hl:w.heap.size<wx.heap.size:=by
  rcases Nat.lt_or_ge w.heap.size wx.heap.size with h'|h'
  ·exact h'
  ·rw [Array.getElem?_eq_none h'] at hh;cases hh
 refine ⟨⟨h.os,h.tape,h.output,by simpa using h.size,fun k hk=>?_⟩,by simp [hl],by simpa using hl⟩
 rw [← h.block k hk]
 exact Array.getElem?_setIfInBounds_ne (by omega)
theorem noany_wide {s chars:List UInt8} {i n:Nat} (h:NoAny s chars i) (hc:∀ (j:Nat) b,chars[j]? = some b→b.toNat<128) (hb:∀ (j:Nat) b,j<n→s[i+j]? = some b→128≤b.toNat):NoAny s chars (i+n):=fun j b hj hq=>by
 rcases Nat.lt_or_ge j i with h'|h'
 ·exact h j b h' hq
 ·have h1:=hb (j-i) b (by omega) (by rw [show i+(j-i)=j by omega];exact hq)
  cases e:chars.contains b
  ·rfl
  ·have hm:b∈chars:=by simpa using e
   obtain ⟨q,hq⟩:=List.getElem?_of_mem hm
   have:=hc q b hq
   omega
set_option maxHeartbeats 8000000 in
set_option maxRecDepth 1000000 in
theorem any_short (L:Lays.n153 P ρ) (s chars:ByteArray) (w:World) (h2:4<chars.size) (h8:s.size≤8) (hascii:∀ (j:Nat) b,chars.data.toList[j]? = some b→b.toNat<128) :
  Calls P (ρ.f 153) #[.string s,.string chars] w fun e w'=>e = .returned (.int .i64 (Lib.indexAny s.data.toList chars.data.toList))∧Below w.heap.size w w':=by
 have HA:Aside (∀ (j:Nat) b,chars.data.toList[j]? = some b→b.toNat<128):=hascii
 have hhigh:=fun r (hr:128≤r) W=>rune_high { L with } chars hascii h2 r W hr
 have HH:Aside (∀ r (_:128≤r) (W:World),Calls P (ρ.f 152) #[.string chars,.int .i32 r] W fun e w'=>e = .returned (.int .i64 (-1))∧Below W.heap.size W w'):=hhigh
 clear hascii hhigh
 have hemp:chars.toList.isEmpty=false:=by
  rw [Lib.toList_data]
  cases h:chars.data.toList with
  | nil=>have:=Lib.size_eq chars;rw [h,List.length_nil] at this;omega
  | cons _ _=>rfl
 have hn1:((chars.size:Int) == 1)=false:=beq_eq_false_iff_ne.2 (by omega)
 have h8z:decide ((8:Int)<(s.size:Int))=false:=decide_eq_false (by omega)
 have t3:=L.t3;have a3:=L.a3;have z3:=L.z3;have v3:=L.v3
 have t4:=L.t4;have a4:=L.a4;have z4:=L.z4;have v4:=L.v4
 have t5:=L.t5;have a5:=L.a5;have z5:=L.z5;have v5:=L.v5
 have t9:=L.t9;have a9:=L.a9;have z9:=L.z9;have v9:=L.v9
 have t21:=L.t21;have a21:=L.a21;have z21:=L.z21;have v21:=L.v21
 have e152:∀ args w,(callFunc (ρ.f 152) args).run P w = .ok (.enter (ρ.f 152) args) w:=enters_of L.f152 (by kernel_rfl) rfl
 have e226:∀ args w,(callFunc (ρ.f 226) args).run P w = .ok (.enter (ρ.f 226) args) w:=enters_of L.f226 (by kernel_rfl) rfl
 go_enter L.f153,Body.n153_ntmps ρ
 go_wp2_with (go_at_fn (ρ.f 226);refine (Any.strings_shouldUseASCIISet { L with } _ _).mono ?_;rintro e w' ⟨rfl,hw⟩;rw [hw,h8z])
 go_loopg [9,10] s.size (fun g _ _ wx=>∃ i:Nat,i+g=s.size∧wx.heap[w.heap.size]? = some (.stringIter s i)∧Below w.heap.size w wx∧Lib.NoAny s.data.toList chars.data.toList i)
 case atStart=>exact ⟨0,by omega,World.iter_heap w s 0,(Below.refl _ _).alloc (Nat.le_refl _) _,Lib.NoAny.zero _ _⟩
 case round =>
  obtain ⟨i,hig,hh,hbw,hno⟩:=hrel
  have HN:Aside (Lib.NoAny s.data.toList chars.data.toList i):=hno
  have HB:Aside (Below w.heap.size w wr):=hbw
  clear hno
  by_cases hi:i<s.size
  ·obtain ⟨x,hx⟩:∃ x:UInt8,s[i]'hi=x:=⟨_,rfl⟩
   have hxl:s.data.toList[i]? = some x:=by rw [← hx];exact Lib.data_getElem? s i hi
   have Hx:Aside (s.data.toList[i]? = some x):=hxl
   have HS:Aside (wr.heap[w.heap.size]? = some (.stringIter s i)):=hh
   have hnx:=fun ty=>next_at (P:=P) hh ty hi
   have hsets:=qfq (j:=i+(Utf8.decode s i).2) hbw hh
   have hfit:=fit_dec s i hi
   obtain ⟨W2,hW2⟩:∃ W2,({ wr with heap:=wr.heap.setIfInBounds w.heap.size (.stringIter s (i+(Utf8.decode s i).2)) }:World)=W2:=⟨_,rfl⟩
   rw [hW2] at hsets
   simp only [hW2] at hnx
   obtain ⟨k1,k2,k3⟩:=hsets
   have K1:Aside (Below w.heap.size w W2):=k1
   clear hbw hh hW2 hxl k1
   by_cases ha:x.toNat<128
   ·have hd:=decode_ascii s i hi (by rw [hx];exact ha)
    rw [hd] at hnx k2 hfit
    rw [hx] at hnx
    have K2:Aside (W2.heap[w.heap.size]? = some (.stringIter s (i+1))):=k2
    clear hd k2 hx
    dsimp only at hnx
    have hcon:=Lib.contains_iff_indexByte chars.data.toList x
    have hback:((x.toNat:Int)).toNat.toUInt8=x:=by simp
    cases hin:chars.data.toList.contains x
    ·rw [hin] at hcon
     have hlt:¬ ((0:Int)≤Lib.indexByte chars.data.toList x):=of_decide_eq_false hcon.symm
     clear hcon
     go_wp2_with (go_at_fn (ρ.f 152);refine (Any.strings_IndexRune_ascii { L with } _ _ _ (by omega) (by omega)).mono ?_;rintro e w' ⟨rfl,hw⟩;rw [hw,hback])
     go_roundg (s.size-(i+1))
     case measure=>omega
     case rel=>exact ⟨i+1,by omega,K2.out,K1.out,HN.out.succ Hx.out hin⟩
    ·rw [hin] at hcon
     have hge:(0:Int)≤Lib.indexByte chars.data.toList x:=of_decide_eq_true hcon.symm
     clear hcon
     go_wp2_with (go_at_fn (ρ.f 152);refine (Any.strings_IndexRune_ascii { L with } _ _ _ (by omega) (by omega)).mono ?_;rintro e w' ⟨rfl,hw⟩;rw [hw,hback])
     go_ret
     exact ⟨by rw [Lib.indexAny_hit HN.out Hx.out hin];rfl,K1.out⟩
   ·obtain ⟨hd1,hd2⟩:=decode_high s i hi (by rw [hx];omega)
    have hwide:=dec_wide s i hi (by rw [hx];omega)
    obtain ⟨c,hc⟩:∃ c,(Utf8.decode s i).1=c:=⟨_,rfl⟩
    obtain ⟨wd,hwd⟩:∃ wd,(Utf8.decode s i).2=wd:=⟨_,rfl⟩
    rw [hc] at hd1
    rw [hwd] at hd2 hwide k2 hfit
    simp only [hc] at hnx
    have K2:Aside (W2.heap[w.heap.size]? = some (.stringIter s (i+wd))):=k2
    have HW:Aside (∀ (j:Nat) b,j<wd→s.data.toList[i+j]? = some b→128≤b.toNat):=hwide
    clear hx hc hwd k2 hwide
    go_wp2_with (go_at_fn (ρ.f 152);refine (HH.out _ (by omega) _).mono ?_;rintro e w' ⟨rfl,hw⟩)
    go_roundg (s.size-(i+wd))
    case measure=>omega
    case rel=>exact ⟨i+wd,by omega,(hw.block _ k3).trans K2.out,K1.out.trans (hw.mono (by omega)),noany_wide HN.out HA.out HW.out⟩
  ·have hie:i=s.size:=by omega
   have hnx:=fun ty=>next_over (P:=P) hh ty hi
   clear hh
   go_wp2
   go_ret
   exact ⟨by rw [Lib.indexAny_none (by rw [← Lib.size_eq,← hie];exact HN.out)];rfl,HB.out⟩
end Go.Proofs.YtmlnilkbolcknaaGreatDoor
namespace Go.Proofs
open Go.Shelf
def Tryz.layr153_ren:Go.Shelf.Ren:=⟨fun|153=>106|152=>135|226=>136|227=>84|228=>115|137=>156|119=>157|224=>158|225=>159|217=>172|266=>184|n=>n,fun|9=>9|3=>3|4=>4|5=>5|21=>21|117=>145|116=>144|0=>0|46=>191|124=>148|n=>n,fun|n=>n⟩
theorem Tryz.layr153:Go.Proofs.Lays.n153 Tryz.prog Tryz.layr153_ren:={
  mixed:=by kernel_rfl,
  f119:=Tryz.func157.trans (congrArg some (by kernel_rfl)),
  f137:=Tryz.func156.trans (congrArg some (by kernel_rfl)),
  f152:=Tryz.func135.trans (congrArg some (by kernel_rfl)),
  f153:=Tryz.func106.trans (congrArg some (by kernel_rfl)),
  f217:=Tryz.func172.trans (congrArg some (by kernel_rfl)),
  f224:=Tryz.func158.trans (congrArg some (by kernel_rfl)),
  f225:=Tryz.func159.trans (congrArg some (by kernel_rfl)),
  f226:=Tryz.func136.trans (congrArg some (by kernel_rfl)),
  f227:=Tryz.func84.trans (congrArg some (by kernel_rfl)),
  f228:=Tryz.func115.trans (congrArg some (by kernel_rfl)),
  f266:=Tryz.func184.trans (congrArg some (by kernel_rfl)),
  t0:=Tryz.underlying0,
  a0:=Tryz.isAgg0,
  z0:=Tryz.sizeOf0,
  v0:=Tryz.zeroValue0,
  t3:=Tryz.underlying3,
  a3:=Tryz.isAgg3,
  z3:=Tryz.sizeOf3,
  v3:=Tryz.zeroValue3,
  t4:=Tryz.underlying4,
  a4:=Tryz.isAgg4,
  z4:=Tryz.sizeOf4,
  v4:=Tryz.zeroValue4,
  t5:=Tryz.underlying5,
  a5:=Tryz.isAgg5,
  z5:=Tryz.sizeOf5,
  v5:=Tryz.zeroValue5,
  t9:=Tryz.underlying9,
  a9:=Tryz.isAgg9,
  z9:=Tryz.sizeOf9,
  v9:=Tryz.zeroValue9,
  t21:=Tryz.underlying21,
  a21:=Tryz.isAgg21,
  z21:=Tryz.sizeOf21,
  v21:=Tryz.zeroValue21,
  t46:=Tryz.underlying191,
  a46:=Tryz.isAgg191,
  z46:=Tryz.sizeOf191,
  v46:=Tryz.zeroValue191,
  t116:=Tryz.underlying144,
  a116:=Tryz.isAgg144,
  z116:=Tryz.sizeOf144,
  t117:=Tryz.underlying145,
  a117:=Tryz.isAgg145,
  z117:=Tryz.sizeOf145,
  v117:=Tryz.zeroValue145,
  t124:=Tryz.underlying148,
  a124:=Tryz.isAgg148,
  z124:=Tryz.sizeOf148,
  v124:=Tryz.zeroValue148 }
def Tryz.layc172_ren:Go.Shelf.Ren:=⟨fun|172=>137|244=>160|245=>161|247=>173|279=>174|280=>175|281=>176|282=>177|287=>185|316=>186|171=>28|205=>187|321=>189|322=>190|243=>61|246=>94|283=>126|284=>127|285=>128|286=>129|129=>150|317=>149|318=>151|319=>152|320=>153|337=>170|338=>171|n=>n,fun|9=>9|3=>3|75=>79|76=>80|4=>4|5=>5|167=>214|37=>73|0=>0|85=>215|2=>2|168=>217|53=>178|175=>225|46=>191|210=>229|127=>120|145=>234|143=>232|21=>21|171=>177|173=>181|212=>197|51=>198|20=>20|213=>199|232=>223|233=>224|80=>86|n=>n,fun|15=>6|16=>7|17=>0|18=>4|19=>5|n=>n⟩
theorem Tryz.layc172:Go.Proofs.LaysC.n172 Tryz.prog Tryz.layc172_ren:={
  mixed:=by kernel_rfl,
  f129:=Tryz.func150.trans (congrArg some (by kernel_rfl)),
  f171:=Tryz.func28.trans (congrArg some (by kernel_rfl)),
  f172:=Tryz.func137.trans (congrArg some (by kernel_rfl)),
  f205:=Tryz.func187.trans (congrArg some (by kernel_rfl)),
  f243:=Tryz.func61.trans (congrArg some (by kernel_rfl)),
  f244:=Tryz.func160.trans (congrArg some (by kernel_rfl)),
  f245:=Tryz.func161.trans (congrArg some (by kernel_rfl)),
  f246:=Tryz.func94.trans (congrArg some (by kernel_rfl)),
  f247:=Tryz.func173.trans (congrArg some (by kernel_rfl)),
  f279:=Tryz.func174.trans (congrArg some (by kernel_rfl)),
  f280:=Tryz.func175.trans (congrArg some (by kernel_rfl)),
  f281:=Tryz.func176.trans (congrArg some (by kernel_rfl)),
  f282:=Tryz.func177.trans (congrArg some (by kernel_rfl)),
  f283:=Tryz.func126.trans (congrArg some (by kernel_rfl)),
  f284:=Tryz.func127.trans (congrArg some (by kernel_rfl)),
  f285:=Tryz.func128.trans (congrArg some (by kernel_rfl)),
  f286:=Tryz.func129.trans (congrArg some (by kernel_rfl)),
  f287:=Tryz.func185.trans (congrArg some (by kernel_rfl)),
  f316:=Tryz.func186.trans (congrArg some (by kernel_rfl)),
  f317:=Tryz.func149.trans (congrArg some (by kernel_rfl)),
  f318:=Tryz.func151.trans (congrArg some (by kernel_rfl)),
  f319:=Tryz.func152.trans (congrArg some (by kernel_rfl)),
  f320:=Tryz.func153.trans (congrArg some (by kernel_rfl)),
  f321:=Tryz.func189.trans (congrArg some (by kernel_rfl)),
  f322:=Tryz.func190.trans (congrArg some (by kernel_rfl)),
  f337:=Tryz.func170.trans (congrArg some (by kernel_rfl)),
  f338:=Tryz.func171.trans (congrArg some (by kernel_rfl)),
  t0:=Tryz.underlying0,
  a0:=Tryz.isAgg0,
  z0:=Tryz.sizeOf0,
  v0:=Tryz.zeroValue0,
  t2:=Tryz.underlying2,
  a2:=Tryz.isAgg2,
  z2:=Tryz.sizeOf2,
  v2:=Tryz.zeroValue2,
  t3:=Tryz.underlying3,
  a3:=Tryz.isAgg3,
  z3:=Tryz.sizeOf3,
  v3:=Tryz.zeroValue3,
  t4:=Tryz.underlying4,
  a4:=Tryz.isAgg4,
  z4:=Tryz.sizeOf4,
  v4:=Tryz.zeroValue4,
  t5:=Tryz.underlying5,
  a5:=Tryz.isAgg5,
  z5:=Tryz.sizeOf5,
  v5:=Tryz.zeroValue5,
  t9:=Tryz.underlying9,
  a9:=Tryz.isAgg9,
  z9:=Tryz.sizeOf9,
  v9:=Tryz.zeroValue9,
  t20:=Tryz.underlying20,
  a20:=Tryz.isAgg20,
  z20:=Tryz.sizeOf20,
  v20:=Tryz.zeroValue20,
  t21:=Tryz.underlying21,
  a21:=Tryz.isAgg21,
  z21:=Tryz.sizeOf21,
  v21:=Tryz.zeroValue21,
  t37:=Tryz.underlying73,
  a37:=Tryz.isAgg73,
  z37:=Tryz.sizeOf73,
  v37:=Tryz.zeroValue73,
  t46:=Tryz.underlying191,
  a46:=Tryz.isAgg191,
  z46:=Tryz.sizeOf191,
  v46:=Tryz.zeroValue191,
  t51:=Tryz.underlying198,
  a51:=Tryz.isAgg198,
  z51:=Tryz.sizeOf198,
  v51:=Tryz.zeroValue198,
  t53:=Tryz.underlying178,
  a53:=Tryz.isAgg178,
  z53:=Tryz.sizeOf178,
  v53:=Tryz.zeroValue178,
  t75:=Tryz.underlying79,
  a75:=Tryz.isAgg79,
  z75:=Tryz.sizeOf79,
  v75:=Tryz.zeroValue79,
  t76:=Tryz.underlying80,
  a76:=Tryz.isAgg80,
  z76:=Tryz.sizeOf80,
  v76:=Tryz.zeroValue80,
  t85:=Tryz.underlying215,
  a85:=Tryz.isAgg215,
  z85:=Tryz.sizeOf215,
  v85:=Tryz.zeroValue215,
  t127:=Tryz.underlying120,
  a127:=Tryz.isAgg120,
  z127:=Tryz.sizeOf120,
  v127:=Tryz.zeroValue120,
  t143:=Tryz.underlying232,
  a143:=Tryz.isAgg232,
  z143:=Tryz.sizeOf232,
  v143:=Tryz.zeroValue232,
  t145:=Tryz.underlying234,
  a145:=Tryz.isAgg234,
  z145:=Tryz.sizeOf234,
  v145:=Tryz.zeroValue234,
  t167:=Tryz.underlying214,
  a167:=Tryz.isAgg214,
  z167:=Tryz.sizeOf214,
  v167:=Tryz.zeroValue214,
  t168:=Tryz.underlying217,
  a168:=Tryz.isAgg217,
  z168:=Tryz.sizeOf217,
  v168:=Tryz.zeroValue217,
  t171:=Tryz.underlying177,
  a171:=Tryz.isAgg177,
  z171:=Tryz.sizeOf177,
  v171:=Tryz.zeroValue177,
  t173:=Tryz.underlying181,
  a173:=Tryz.isAgg181,
  z173:=Tryz.sizeOf181,
  v173:=Tryz.zeroValue181,
  t175:=Tryz.underlying225,
  a175:=Tryz.isAgg225,
  z175:=Tryz.sizeOf225,
  v175:=Tryz.zeroValue225,
  t210:=Tryz.underlying229,
  a210:=Tryz.isAgg229,
  z210:=Tryz.sizeOf229,
  v210:=Tryz.zeroValue229,
  t212:=Tryz.underlying197,
  a212:=Tryz.isAgg197,
  z212:=Tryz.sizeOf197,
  v212:=Tryz.zeroValue197,
  t213:=Tryz.underlying199,
  a213:=Tryz.isAgg199,
  z213:=Tryz.sizeOf199,
  t232:=Tryz.underlying223,
  a232:=Tryz.isAgg223,
  z232:=Tryz.sizeOf223,
  v232:=Tryz.zeroValue223,
  t233:=Tryz.underlying224,
  a233:=Tryz.isAgg224,
  z233:=Tryz.sizeOf224,
  v233:=Tryz.zeroValue224,
  g15:=by kernel_rfl,
  g16:=by kernel_rfl,
  g17:=by kernel_rfl,
  g18:=by kernel_rfl,
  g19:=by kernel_rfl,
  t80:=Tryz.underlying86,
  a80:=Tryz.isAgg86,
  z80:=Tryz.sizeOf86,
  v80:=Tryz.zeroValue86,
  i0:=by kernel_rfl,
  i2:=by kernel_rfl,
  i3:=by kernel_rfl,
  i4:=by kernel_rfl,
  i5:=by kernel_rfl,
  i9:=by kernel_rfl,
  i20:=by kernel_rfl,
  i21:=by kernel_rfl,
  i37:=by kernel_rfl,
  i46:=by kernel_rfl,
  i51:=by kernel_rfl,
  i53:=by kernel_rfl,
  i75:=by kernel_rfl,
  i76:=by kernel_rfl,
  i80:=by kernel_rfl,
  i85:=by kernel_rfl,
  i127:=by kernel_rfl,
  i143:=by kernel_rfl,
  i145:=by kernel_rfl,
  i167:=by kernel_rfl,
  i168:=by kernel_rfl,
  i171:=by kernel_rfl,
  i173:=by kernel_rfl,
  i175:=by kernel_rfl,
  i210:=by kernel_rfl,
  i212:=by kernel_rfl,
  i232:=by kernel_rfl,
  i233:=by kernel_rfl,
  m15:=by kernel_rfl,
  m16:=by kernel_rfl,
  m17:=by kernel_rfl,
  m18:=by kernel_rfl,
  m19:=by kernel_rfl,
  c0:=by kernel_rfl,
  c2:=by kernel_rfl,
  c3:=by kernel_rfl,
  c4:=by kernel_rfl,
  c5:=by kernel_rfl,
  c9:=by kernel_rfl,
  c20:=by kernel_rfl,
  c21:=by kernel_rfl,
  c37:=by kernel_rfl,
  c46:=by kernel_rfl,
  c51:=by kernel_rfl,
  c53:=by kernel_rfl,
  c75:=by kernel_rfl,
  c76:=by kernel_rfl,
  c80:=by kernel_rfl,
  c85:=by kernel_rfl,
  c127:=by kernel_rfl,
  c143:=by kernel_rfl,
  c145:=by kernel_rfl,
  c167:=by kernel_rfl,
  c168:=by kernel_rfl,
  c171:=by kernel_rfl,
  c173:=by kernel_rfl,
  c175:=by kernel_rfl,
  c210:=by kernel_rfl,
  c212:=by kernel_rfl,
  c213:=by kernel_rfl,
  c232:=by kernel_rfl,
  c233:=by kernel_rfl }
end Go.Proofs
namespace Go.Proofs.YtmlnilkbolcknaaGreatDoor.Pm
open Go Go.RowKit Go.Proofs.YtmlnilkbolcknaaGreatDoor.Pi

theorem any_all (s cs:List UInt8) (hs:s.length≤4294967280) (hc:cs.length≤1000) (h4:4<cs.length) (h2:∀ (j:Nat) b,cs[j]? = some b→b.toNat<128):PC Tryz.prog 106 [sv (st s),sv (st cs)] [] (iv (Lib.indexAny s cs)) [] :=
 vW (jA Tryz.func106 (by kernel_rfl) (by kernel_rfl)) rfl rfl fun w=>by
  have h116:(Tryz.prog.info? (Tryz.layr153_ren.t 116)).map (fun i=>(i.zero,i.size))=some (some (.agg (Array.replicate 256 (.bool false))),256):=by kernel_rfl
  by_cases h8:s.length≤8
  ·exact any_short Tryz.layr153 (st s) (st cs) w h4 h8 h2
  ·refine (Any.strings_IndexAny_long Tryz.layr153 (zero_of_info h116).1 (zero_of_info h116).2 (st s) (st cs) w (by show 2≤cs.length;omega) (by show 8<s.length;omega) (by show s.length<_;omega) (by show cs.length<_;omega) h2).mono fun e w' ⟨h1,h3⟩=>⟨h1,?_⟩
   rw [h3]
   exact ((Below.refl _ _).alloc (Nat.le_refl _) _).alloc (by simp) _
theorem atoi_okL (w:zX) (v:Int) (hw:w.length≤65536) (h:Lib.atoiAll w = .ok v):PC Tryz.prog 137 [sv (st w)] [] (.tup [iv v,.av .nilIface]) [] :=
 vW (jA Tryz.func137 (by kernel_rfl) (by kernel_rfl)) rfl rfl fun W=>(Any.strconv_Atoi_ok Tryz.layc172 (st w) (by show w.length≤_;omega) v h W).mono fun e w' ⟨h1,h2⟩=>⟨h1,by
  rcases h2 with rfl|⟨t,rfl⟩
  ·exact Below.refl _ _
  ·exact Lib.bytesWorld_below _ _ _⟩
theorem qla (w:zX) (hw:w.length≤65536) (h:Lib.atoiAll w = .range):PC Tryz.prog 137 [sv (st w)] [] (.tup [iv (Lib.atoiSat w),.err]) []:=by
 have ha:QM [sv (st w)]=some [.string (st w)]:=rfl
 refine pc_ofL (jA Tryz.func137 (by kernel_rfl) (by kernel_rfl)) (fun W vs hL hrl=>?_) fun c vs hrl=>?_
 ·rw [ZX (f:=ZZ) (fs:=QM) rfl (fun _ _=>rfl) (fun _ _ _ h k=>ZY h k) ha hrl]
  obtain ⟨tp,p,hv⟩:=hL.2.2.2
  refine (Any.strconv_Atoi_range Tryz.layc172 (st w) (by show w.length≤_;omega) h (.iface tp p) W (by have h0:=World.var?_cell Tryz.layc172.m16 hv 0;simpa using h0) (.inr ⟨tp,p,rfl⟩)).mono ?_
  rintro e w' ⟨N,rfl,_,_,hb⟩
  refine ⟨_,rfl,hb,fun c=>.tup rfl fun i hi=>?_⟩
  have:i=0∨i=1:=by simp at hi;omega
  rcases this with rfl|rfl
  ·exact .sh (qfa (p:=iv (Lib.atoiSat w)) rfl)
  ·exact .sh (.err _ _)
 ·rw [ZX (f:=ZZ) (fs:=QM) rfl (fun _ _=>rfl) (fun _ _ _ h k=>ZY h k) ha hrl]
  obtain ⟨h1,h2⟩:=WC (w:=c.w) (S:=fun b=>b<c.w.heap.size) (f:=ZZ) (fs:=QM) rfl (fun _ _=>rfl) (fun _ _ h=>qbr h) ha
  exact ⟨by simp [h1],fun i hi=>by rw [qbx];exact .sh (h2 i hi)⟩
theorem rdy_all {s:zX} (hl:s.length≤65536):Rdy s where
 any:=fun a _=>any_all _ _ (by rw [List.length_drop];omega) (by decide) (by decide) (by
  intro j b hb
  have hm:b∈sgn:=List.mem_of_getElem? hb
  revert hm
  unfold sgn
  intro hm
  simp only [List.mem_cons,List.not_mem_nil,or_false] at hm
  rcases hm with rfl|rfl|rfl|rfl|rfl|rfl|rfl|rfl|rfl|rfl|rfl <;> decide)
 ato:=fun w h1 h2 h3=>atoi_okL w _ (by omega) h3
 atr:=fun w h1 h2 h3=>qla w (by omega) h3
end Go.Proofs.YtmlnilkbolcknaaGreatDoor.Pm
set_option maxRecDepth 100000
set_option maxHeartbeats 4000000
namespace Go.Proofs.YtmlnilkbolcknaaGreatDoor.Pm
open Go Go.Proofs.YtmlnilkbolcknaaGreatDoor.Pi
theorem group_step (s:zX) (hs:s.length≤65536) (hr:Rdy s) (lv:Int) (hlv:0≤lv∧lv≤31) (a k:Nat) (ha:a≤s.length) (hk:k≤4095) (ihi:∀ (b q:Nat),q≤k→b≤s.length→PO Tryz.prog 109 [.opt 0 0,iv (lv+1)] [some (98,[sv (st s),nv b,nv q])] (if (qN s (lv+1) b q).1=0 then .ret (.agg (gI (qN s (lv+1) b q).2.1)) [some (98,[sv (st s),nv (qN s (lv+1) b q).2.2.1,nv (qN s (lv+1) b q).2.2.2]),none] else .pan (yY (qN s (lv+1) b q).1 (((qN s (lv+1) b q).2.2.1:Nat):Int)) [none])):PO Tryz.prog 140 [(.opt 0 0),(iv lv)] [some (98,(vB s a k))] (if (yE s lv a k).1=0 then .ret (.ssl (zP ((yE s lv a k).2.1)) 0 ((yE s lv a k).2.1.length)) [some (98,(vB s ((yE s lv a k).2.2.1) ((yE s lv a k).2.2.2)))] else .pan (yY ((yE s lv a k).1) (((yE s lv a k).2.2.1:Nat):Int)) [none]):=by
 refine jk Tryz.func140 rfl (by kernel_rfl) (ZF (Nat.le_of_ble_eq_true rfl) (Nat.le_of_ble_eq_true rfl)) (by kernel_rfl) (l0:=[ps 0 (.opt 0 0),ps 1 (iv lv),pb 0 98 (vB s a k)]) rfl (fun c0 Bor hc0=>?_)
 refine qB<|qH qD [.r] []<|qB ?_
 by_cases h1:(qP s a 91)=true
 ·refine zC qD 1 [.k2,.d,.n] [pb 0 98 (vB s (qA s a+1) k)] (zY [0] 17 (jM (qdm s a (k:Int) 91 hs (by omega)) h1) oz)<|qB<|qH qD [.k2,.n,.r] [ps 5 sn]<|qX<|qj (Wk.nil (s:=5) 50 (by kernel_rfl))<|qj (Wk.less (l':=[ps 0 (.opt 0 0),ps 1 (iv lv),ps 5 (.osl 33 0 0),pb 0 98 (vB s (qA s a+1) k),pb 33 50 []]) 34 (by kernel_rfl) (by kernel_rfl)) ?_
  have hlt:=zM h1
  refine qj (Wk.eq (show _=[ps 0 (.opt 0 0),ps 1 (iv lv),ps 5 (.osl 33 0 (([]:List It).length)),pb 0 98 (vB s (qA s a+1) k),pb 33 50 (zP ([]:List It))] from by rfl)) ?_
  refine zy (α:={x:List It × Nat × Nat // x.2.1≤s.length∧x.1.length+x.2.2≤k∧grL s lv x.1 x.2.1 x.2.2=grL s lv [] (qA s a+1) k}) (fun x=>[ps 0 (.opt 0 0),ps 1 (iv lv),ps 5 (.osl 1 0 x.1.1.length),pb 0 98 (vB s x.1.2.1 x.1.2.2),pb 1 50 (zP x.1.1)]) (fun x=>x.1.2.2) 2 ⟨([],qA s a+1,k),⟨hlt,Nat.le_of_eq (Nat.zero_add _),rfl⟩⟩ (Wk.ren3 _ 1 hc0 [0,33] [(kb 1,(zP ([]:List It)))] (oc (yA _) (oz)) (by kernel_rfl) rfl rfl (by kernel_rfl) (by kernel_rfl)) ?_
  rintro ⟨⟨l,b,q⟩,⟨hb,hq,hg⟩⟩
  dsimp only at hb hq hg
  refine qX<|qB ?_
  by_cases h2:(qN s (lv+1) b q).1=0
  ·refine zD qD [(4,.call [0] [(.opt 0 0),(iv (lv+1))] [some (98,(vB s b q))] (.agg [(iv (iK ((qN s (lv+1) b q).2.1))),(iv (iS ((qN s (lv+1) b q).2.1))),(.ssl (wA (iP ((qN s (lv+1) b q).2.1))) 0 ((iP ((qN s (lv+1) b q).2.1)).length)),(iv ((iB ((qN s (lv+1) b q).2.1)).1)),(iv ((iB ((qN s (lv+1) b q).2.1)).2)),(sv (st (iL ((qN s (lv+1) b q).2.1)))),(.ssl (zP (iC ((qN s (lv+1) b q).2.1))) 0 ((iC ((qN s (lv+1) b q).2.1)).length))]) [some (98,(vB s ((qN s (lv+1) b q).2.2.1) ((qN s (lv+1) b q).2.2.2))),none]),(6,.app none (some (zP (l++[(qN s (lv+1) b q).2.1]))))] [ps 0 (.opt 0 0),ps 1 (iv lv),ps 5 (.osl 50 0 (l.length+1)),pb 0 98 (vB s ((qN s (lv+1) b q).2.2.1) ((qN s (lv+1) b q).2.2.2)),pb 50 50 (zP (l++[(qN s (lv+1) b q).2.1]))] (oi (lv+1) (by omega) (zY [0] 34 (jM (ihi b q (by omega) (by omega)) h2) (oc (YD _:((zP l)).length=l.length*7) (oc (by omega:(l.length+1)*96≤140737488355328∧l.length+1≤9223372036854775807) (oc (Qj l _:(zP l)++[(iv (iK ((qN s (lv+1) b q).2.1))),(iv (iS ((qN s (lv+1) b q).2.1))),(.ssl (wA (iP ((qN s (lv+1) b q).2.1))) 0 ((iP ((qN s (lv+1) b q).2.1)).length)),(iv ((iB ((qN s (lv+1) b q).2.1)).1)),(iv ((iB ((qN s (lv+1) b q).2.1)).2)),(sv (st (iL ((qN s (lv+1) b q).2.1)))),(.ssl (zP (iC ((qN s (lv+1) b q).2.1))) 0 ((iC ((qN s (lv+1) b q).2.1)).length))]=(zP (l++[(qN s (lv+1) b q).2.1]))) oz)))))<|qB ?_
   have hie:=wT (lv:=lv+1) (k:=q) hb h2
   by_cases h3:(qP s ((qN s (lv+1) b q).2.2.1) 93)=true
   ·refine zC qD 1 [.k3,.n,.d,.n,.r] [ps 16 (bv true),pb 0 98 (vB s (qA s ((qN s (lv+1) b q).2.2.1)+1) ((qN s (lv+1) b q).2.2.2))] (zY [0] 74 (YO (jW s ((qN s (lv+1) b q).2.2.1) (((qN s (lv+1) b q).2.2.2:Nat):Int) 93 hs (by omega)) h3) oz)<|qL (b:=true) rfl rfl<|qB<|qH qD [.d,.d,.n,.d,.d,.r] [ps 4 (.osl 50 0 (l.length+1))] ?_
    rw [show yE s lv a k=(0,l++[(qN s (lv+1) b q).2.1],qA s (qN s (lv+1) b q).2.2.1+1,(qN s (lv+1) b q).2.2.2) from by rw [jN,if_pos h1,← hg,grL_ok h2 h3],if_pos rfl]
    refine qj (Wk.eq (show _=[ps 4 (.osl 50 0 ((l++[(qN s (lv+1) b q).2.1]).length)),pb 0 98 (vB s (qA s ((qN s (lv+1) b q).2.2.1)+1) ((qN s (lv+1) b q).2.2.2)),pb 50 50 (zP (l++[(qN s (lv+1) b q).2.1]))] from by rw [List.length_append];rfl)) ?_
    refine qj (Wk.frz (l':=[ps 4 (.ssl (zP (l++[(qN s (lv+1) b q).2.1])) 0 ((l++[(qN s (lv+1) b q).2.1]).length)),pb 0 98 (vB s (qA s ((qN s (lv+1) b q).2.2.1)+1) ((qN s (lv+1) b q).2.2.2)),(kb 50,none)]) 50 (T:=50) (cs:=(zP (l++[(qN s (lv+1) b q).2.1]))) (by kernel_rfl) (yA _) (by kernel_rfl))<|qj (Wk.less (l':=[ps 4 (.ssl (zP (l++[(qN s (lv+1) b q).2.1])) 0 ((l++[(qN s (lv+1) b q).2.1]).length)),pb 0 98 (vB s (qA s ((qN s (lv+1) b q).2.2.1)+1) ((qN s (lv+1) b q).2.2.2))]) 98 (by kernel_rfl) (by kernel_rfl)) ?_
    exact yk fun cx_ a_ hI_=>zB (rt hc0 [ps 4 (.ssl (zP (l++[(qN s (lv+1) b q).2.1])) 0 ((l++[(qN s (lv+1) b q).2.1]).length)),pb 0 98 (vB s (qA s ((qN s (lv+1) b q).2.2.1)+1) ((qN s (lv+1) b q).2.2.2))] [0] hI_ (hbk:=by exact oc rfl (oz)))
   refine zC qD 1 [.k3,.n,.d,.n,.r] [ps 16 (bv false),pb 0 98 (vB s (qA s ((qN s (lv+1) b q).2.2.1)) ((qN s (lv+1) b q).2.2.2))] (zY [0] 74 (qad (jW s ((qN s (lv+1) b q).2.2.1) (((qN s (lv+1) b q).2.2.2:Nat):Int) 93 hs (by omega)) h3) oz)<|qO (b:=false) rfl rfl<|qF<|qZ ?_
   exact qq ⟨(l++[(qN s (lv+1) b q).2.1],qA s (qN s (lv+1) b q).2.2.1,(qN s (lv+1) b q).2.2.2),⟨zR hie.1.2,by have:=hie.2;simp only [List.length_append,List.length_singleton];omega,by rw [qkl (by omega) h2 h3] at hg;exact hg⟩⟩ (Wk.trans (Wk.eq (show _=[ps 0 (.opt 0 0),ps 1 (iv lv),ps 5 (.osl 50 0 ((l++[(qN s (lv+1) b q).2.1]).length)),ps 16 (bv false),pb 0 98 (vB s (qA s ((qN s (lv+1) b q).2.2.1)) ((qN s (lv+1) b q).2.2.2)),pb 50 50 (zP (l++[(qN s (lv+1) b q).2.1]))] from by rw [List.length_append];rfl)) (Wk.ren3 _ 1 hc0 [0,50] [(kb 1,(zP (l++[(qN s (lv+1) b q).2.1])))] (oc (yA _) (oz)) (by kernel_rfl) rfl rfl (by kernel_rfl) (by kernel_rfl))) (show ((qN s (lv+1) b q).2.2.2)<q from hie.2)
  rw [show yE s lv a k=((qN s (lv+1) b q).1,[],(qN s (lv+1) b q).2.2.1,0) from by rw [jN,if_pos h1,← hg,grL_no h2],if_neg h2]
  exact vV qD [(4,.call [0] [(.opt 0 0),(iv (lv+1))] [some (98,(vB s b q))] (.av (yY ((qN s (lv+1) b q).1) (((qN s (lv+1) b q).2.2.1:Nat):Int))) [none])] [5,6,7] 4 [] (oi (lv+1) (by omega) (Qx [0] 34 (jD (ihi b q (by omega) (by omega)) h2) oz)) (fun cx_ a_ hI_=>wH (zv hc0 hI_))
 rw [show yE s lv a k=(2,[],qA s a,0) from by rw [jN,if_neg h1],if_neg (by show ¬ ((2:Int)=0);decide)]
 exact vV qD [(1,.call [0] [(.opt 0 0),(.av (.int .u8 91))] [some (98,(vB s a k))] (.av (yY 2 (qA s a:Int))) [none])] [] 1 [] (Qx [0] 17 (jD (qdm s a (k:Int) 91 hs (by omega)) h1) oz) (fun cx_ a_ hI_=>zv hc0 hI_)
theorem yQ (s:Int) (hs:0≤s):PC Tryz.prog 125 [(iv s)] [] (bv (zN s)) []:=by
 refine zG Tryz.func125 rfl (by kernel_rfl) (Nat.le_of_ble_eq_true rfl) (by kernel_rfl) (l0:=[ps 0 (iv s)]) rfl (fun c0 Bor hc0=>?_)
 refine qB<|qH qD [.r] []<|qB<|zD qD [] [ps 3 (iv ((s).tmod 7))] (oc (by decide:7≠(0:Int)) oz)<|qB<|qj (Wk.eq (show _=[ps 3 (iv (s % 7))] from by rw [Int.tmod_eq_emod_of_nonneg hs])) ?_
 by_cases h1:(s % 7)=0
 ·refine zD qD (gy 3 2++[(5,.yes true)]++gy 7 2) [ps 2 (bv true)] (on 3 (qT h1) (on 2 tt oz)) ?_
  rw [show zN s=true from qT (by omega)]
  exact qk hc0 [2] []
 by_cases h2:(s % 7)=3
 ·refine zD qD (gn 3 2++[(5,.yes false)]++gy 7 2++[(9,.yes true)]) [ps 2 (bv true)] (on 3 (qV h1) (on 3 (qT h2) oz)) ?_
  rw [show zN s=true from qT (by omega)]
  exact qk hc0 [2] []
 refine zD qD (gn 3 2++[(5,.yes false)]++gn 7 2++[(9,.yes false)]) [ps 2 (bv (decide ((s % 7)=4)))] (on 3 (qV h1) (on 3 (qV h2) oz))<|qj (Wk.eq (show _=[ps 2 (bv (zN s))] from by rw [show decide ((s % 7)=4)=zN s from decide_eq_decide.2 (by omega)])) ?_
 exact qk hc0 [2] []
theorem yK (s h:Int) (i1:Pi.I64 s) (i2:Pi.I64 h):PC Tryz.prog 91 [(.agg [(iv s),(iv h)])] [] (.tup [(sv (st ((qG s h).1))),(iv ((qG s h).2))]) []:=by
 refine zG Tryz.func91 rfl (by kernel_rfl) (Nat.le_of_ble_eq_true rfl) (by kernel_rfl) (l0:=[ps 0 (.agg [(iv s),(iv h)])]) rfl (fun c0 Bor hc0=>?_)
 refine qB<|zD qD [] [ps 1 (.opt 0 0),pb 0 41 [(iv s),(iv h)]] (oz)<|qB<|qB<|yC qD 1 [.k1,.n,.r] [ps 11 (bv (!(Pi.withinB s h)))] (zO 32 (pwithin_pc s h i1 i2) oz) ?_
 by_cases h1:(Pi.withinB s h)=true
 ·refine qR (congrArg Bool.not h1)<|qF<|qB<|qH qD [.k1,.n,.d,.r] [ps 4 se]<|qB<|qB ?_
  have hw:=Pi.withinB_iff.1 h1
  by_cases h2:s<0
  ·refine qQ qD (gy 4 4++[(11,.gd true .no),(12,.yes true)]) [.k2,.n,.r] [ps 24 (bv true)] (on 6 (qT h2) oz)<|qL (b:=true) rfl rfl<|qB<|qH qD [.k1,.d,.n,.d,.r] [ps 4 (sv (st ([45]:TX)))]<|qQ qD [] [.k2,.d,.n] [pb 0 41 [(iv (0-s)),(iv (0-h))]] (oi (0-s) (by omega) (oi (0-h) (by omega) oz))<|qB ?_
   obtain ⟨x,hx⟩:∃ x,x=0-s:=⟨_,rfl⟩
   obtain ⟨y,hy⟩:∃ y,y=0-h:=⟨_,rfl⟩
   refine qj (Wk.eq (show _=[ps 1 (.opt 0 0),ps 4 (sv (st ([45]:TX))),pb 0 41 [(iv x),(iv y)]] from by rw [hx,hy])) ?_
   have hnb:=Pi.nat7_range (x % 7)
   have hl2:=zW (o:=x+1) (by omega) (by omega)
   refine yC qD 2 [.k2,.n,.n,.r] [ps 5 (iv (x / 7)),ps 6 (iv (x % 7))] (zO 264 (YZ x (by omega) (by omega)) oz)<|qB<|wC qD [(6,.call [] [(iv (x % 7))] [] (iv (Pi.nat7 (x % 7))) [])] (VB [(0,0),(0,1),(0,0),(2,1),(0,4),(0,0),(5,1),(0,7),(0,8)]) [([78],[2]),([80],[1,78]),([82],[10]),([84],[82]),([86],[80,84]),([88],[12]),([90],[88]),([92],[86,90]),([14],[92])] [.k2,.d,.d,.n,.r] [ps 7 (iv ((y-(12*(x / 7)))-(Pi.nat7 (x % 7))))] (oi (12*(x / 7)) (by omega) (oi (y-(12*(x / 7))) (by omega) (zO 360 (ZS (x % 7)) (oi ((y-(12*(x / 7)))-(Pi.nat7 (x % 7))) (by omega) oz))))<|qB ?_
   obtain ⟨m,hm⟩:∃ m,m=vP x y:=⟨_,rfl⟩
   have hmb : -9000≤m∧m≤9000:=by rw [hm];unfold vP;omega
   refine qj (Wk.eq (show _=[ps 1 (.opt 0 0),ps 4 (sv (st ([45]:TX))),ps 7 (iv m),pb 0 41 [(iv x),(iv y)]] from by rw [hm];rfl)) ?_
   refine qH qD [.r] []<|qB<|qX<|qB<|qH qD [.k3,.n,.r] [ps 52 (bv (decide (0<m)))] ?_
   by_cases h3:0<m
   ·refine qS (qT h3)<|qQ qD [(2,.call [] [(sv (st ([65]:TX))),(nv ((min m 7).toNat))] [] (sv (st (Lib.repeatL ([65]:TX) ((min m 7).toNat)))) [])] [.k2,.d,.n,.d,.r] [ps 8 (sv (st (Lib.repeatL ([65]:TX) ((min m 7).toNat))))] (oc (wE ([65]:TX) ((min m 7).toNat) (by omega) (by simp only [List.length_cons,List.length_nil];omega)) (oc (congrArg (fun z=>[(sv (st ([65]:TX))),iv z]) (show min m 7=(((min m 7).toNat:Nat):Int) from by omega):[(sv (st ([65]:TX))),(iv (min m 7))]=vJ (yq [] 432) [(sv (st ([65]:TX))),(nv ((min m 7).toNat))]) oz)) ?_
    refine qZ<|qB<|qB<|qH qD [.k3,.n,.r] [ps 82 (bv (decide (6<(((Lib.repeatL ([65]:TX) ((min m 7).toNat)).length:Nat):Int))))] ?_
    by_cases h4:6<(((Lib.repeatL ([65]:TX) ((min m 7).toNat)).length:Nat):Int)
    ·refine qS (qT h4)<|qB<|zD qD [] [ps 2 se,ps 3 (iv 3)] (oz) ?_
     rw [yO (s:=s) (h:=h) h1 (.inl h2) (Eq.trans (by rw [← hx,← hy]) (vX (by rw [← hm];exact (QR h3)) h4))]
     exact qk hc0 [2,3] []
    refine qR (qV h4)<|qF<|qB<|zD qD [(2,.val (.av (.string (st (([45]:TX)++(Lib.repeatL ([65]:TX) ((min m 7).toNat))))))),(6,.call [] [(iv (x+1))] [] (sv (st (Lib.itoa (x+1)))) []),(7,.val (.av (.string (st ((([45]:TX)++(Lib.repeatL ([65]:TX) ((min m 7).toNat)))++(Lib.itoa (x+1)))))))] [ps 2 (sv (st ((([45]:TX)++(Lib.repeatL ([65]:TX) ((min m 7).toNat)))++(Lib.itoa (x+1))))),ps 3 (iv 0)] (oc (by first|omega|(simp <;> omega):((([45]:TX).length+(Lib.repeatL ([65]:TX) ((min m 7).toNat)).length:Nat):Int)≤9223372036854775807) (oc (qy _ _:st ([45]:TX)++st (Lib.repeatL ([65]:TX) ((min m 7).toNat))=st (([45]:TX)++(Lib.repeatL ([65]:TX) ((min m 7).toNat)))) (oi (x+1) (by omega) (zO 520 (vF (x+1) (by omega) (by omega)) (oc (by first|omega|(simp <;> omega):(((([45]:TX)++(Lib.repeatL ([65]:TX) ((min m 7).toNat))).length+(Lib.itoa (x+1)).length:Nat):Int)≤9223372036854775807) (oc (qy _ _:st (([45]:TX)++(Lib.repeatL ([65]:TX) ((min m 7).toNat)))++st (Lib.itoa (x+1))=st ((([45]:TX)++(Lib.repeatL ([65]:TX) ((min m 7).toNat)))++(Lib.itoa (x+1)))) oz)))))) ?_
    rw [yO (s:=s) (h:=h) h1 (.inl h2) (Eq.trans (by rw [← hx,← hy]) (yL (by rw [← hm];exact (QR h3)) h4))]
    exact qk hc0 [2,3] []
   refine qR (qV h3)<|qB ?_
   by_cases h5:m=0
   ·refine qQ qD (gy 3 2++[(5,.gd true (.call [] [(iv x)] [] (bv (zN x)) [])),(6,.yes true)]) [.k3,.d,.n,.r] [ps 58 (bv (zN x))] (on 3 (qT h5) (zO 456 (yQ x (by omega)) (oc (qT h5) oz))) ?_
    by_cases h6:(zN x)=true
    ·refine qL (b:=(zN x)) rfl h6<|qH qD [.k2,.d,.n,.d,.r] [ps 8 (sv (st ([80]:TX)))]<|qZ<|qB<|qB<|qH qD [.k3,.n,.r] [ps 82 (bv false)]<|qO (b:=false) rfl rfl<|qF<|qB<|zD qD [(2,.val (.av (.string (st (([45]:TX)++([80]:TX)))))),(6,.call [] [(iv (x+1))] [] (sv (st (Lib.itoa (x+1)))) []),(7,.val (.av (.string (st ((([45]:TX)++([80]:TX))++(Lib.itoa (x+1)))))))] [ps 2 (sv (st ((([45]:TX)++([80]:TX))++(Lib.itoa (x+1))))),ps 3 (iv 0)] (oc (by first|omega|(simp <;> omega):((([45]:TX).length+([80]:TX).length:Nat):Int)≤9223372036854775807) (oc (qy _ _:st ([45]:TX)++st ([80]:TX)=st (([45]:TX)++([80]:TX))) (oi (x+1) (by omega) (zO 560 (vF (x+1) (by omega) (by omega)) (oc (by first|omega|(simp <;> omega):(((([45]:TX)++([80]:TX)).length+(Lib.itoa (x+1)).length:Nat):Int)≤9223372036854775807) (oc (qy _ _:st (([45]:TX)++([80]:TX))++st (Lib.itoa (x+1))=st ((([45]:TX)++([80]:TX))++(Lib.itoa (x+1)))) oz)))))) ?_
     rw [yO (s:=s) (h:=h) h1 (.inl h2) (Eq.trans (by rw [← hx,← hy]) (yL (q:=[80]) (by rw [← hm];exact (YK h5 h6)) (by decide)))]
     exact qk hc0 [2,3] []
    refine qO (b:=(zN x)) rfl (Bool.eq_false_iff.2 h6)<|qB<|qH qD [.k3,.d,.n,.r] [ps 66 (bv (decide (m=0)))]<|qS (qT h5)<|qH qD [.k2,.d,.n,.d,.r] [ps 8 (sv (st ([77]:TX)))]<|qZ<|qB<|qB<|qH qD [.k3,.n,.r] [ps 82 (bv false)]<|qO (b:=false) rfl rfl<|qF<|qB<|zD qD [(2,.val (.av (.string (st (([45]:TX)++([77]:TX)))))),(6,.call [] [(iv (x+1))] [] (sv (st (Lib.itoa (x+1)))) []),(7,.val (.av (.string (st ((([45]:TX)++([77]:TX))++(Lib.itoa (x+1)))))))] [ps 2 (sv (st ((([45]:TX)++([77]:TX))++(Lib.itoa (x+1))))),ps 3 (iv 0)] (oc (by first|omega|(simp <;> omega):((([45]:TX).length+([77]:TX).length:Nat):Int)≤9223372036854775807) (oc (qy _ _:st ([45]:TX)++st ([77]:TX)=st (([45]:TX)++([77]:TX))) (oi (x+1) (by omega) (zO 584 (vF (x+1) (by omega) (by omega)) (oc (by first|omega|(simp <;> omega):(((([45]:TX)++([77]:TX)).length+(Lib.itoa (x+1)).length:Nat):Int)≤9223372036854775807) (oc (qy _ _:st (([45]:TX)++([77]:TX))++st (Lib.itoa (x+1))=st ((([45]:TX)++([77]:TX))++(Lib.itoa (x+1)))) oz)))))) ?_
    rw [yO (s:=s) (h:=h) h1 (.inl h2) (Eq.trans (by rw [← hx,← hy]) (yL (q:=[77]) (by rw [← hm];exact (qcf h5 h6)) (by decide)))]
    exact qk hc0 [2,3] []
   refine qQ qD (gn 3 3++[(6,.yes false)]) [.k3,.d,.n,.r] [ps 58 (bv false)] (on 4 (qV h5) oz)<|qO (b:=false) rfl rfl<|qB<|qH qD [.k3,.d,.n,.r] [ps 66 (bv (decide (m=0)))]<|qR (qV h5)<|qB<|yC qD 2 [.k3,.d,.n,.r] [ps 69 (bv (zN x))] (zO 520 (yQ x (by omega)) oz) ?_
   by_cases h7:(zN x)=true
   ·refine qL (b:=(zN x)) rfl h7<|qQ qD [(3,.call [] [(sv (st ([100]:TX))),(nv ((min (0-m) 7).toNat))] [] (sv (st (Lib.repeatL ([100]:TX) ((min (0-m) 7).toNat)))) [])] [.k2,.d,.n,.d,.r] [ps 8 (sv (st (Lib.repeatL ([100]:TX) ((min (0-m) 7).toNat))))] (oi (0-m) (by omega) (oc (wE ([100]:TX) ((min (0-m) 7).toNat) (by omega) (by simp only [List.length_cons,List.length_nil];omega)) (oc (congrArg (fun z=>[(sv (st ([100]:TX))),iv z]) (show min (0-m) 7=(((min (0-m) 7).toNat:Nat):Int) from by omega):[(sv (st ([100]:TX))),(iv (min (0-m) 7))]=vJ (yq [] 560) [(sv (st ([100]:TX))),(nv ((min (0-m) 7).toNat))]) oz))) ?_
    refine qZ<|qB<|qB<|qH qD [.k3,.n,.r] [ps 82 (bv (decide (6<(((Lib.repeatL ([100]:TX) ((min (0-m) 7).toNat)).length:Nat):Int))))] ?_
    by_cases h8:6<(((Lib.repeatL ([100]:TX) ((min (0-m) 7).toNat)).length:Nat):Int)
    ·refine qS (qT h8)<|qB<|zD qD [] [ps 2 se,ps 3 (iv 3)] (oz) ?_
     rw [yO (s:=s) (h:=h) h1 (.inl h2) (Eq.trans (by rw [← hx,← hy]) (vX (by rw [← hm];exact (YJ h3 h5 h7)) h8))]
     exact qk hc0 [2,3] []
    refine qR (qV h8)<|qF<|qB<|zD qD [(2,.val (.av (.string (st (([45]:TX)++(Lib.repeatL ([100]:TX) ((min (0-m) 7).toNat))))))),(6,.call [] [(iv (x+1))] [] (sv (st (Lib.itoa (x+1)))) []),(7,.val (.av (.string (st ((([45]:TX)++(Lib.repeatL ([100]:TX) ((min (0-m) 7).toNat)))++(Lib.itoa (x+1)))))))] [ps 2 (sv (st ((([45]:TX)++(Lib.repeatL ([100]:TX) ((min (0-m) 7).toNat)))++(Lib.itoa (x+1))))),ps 3 (iv 0)] (oc (by first|omega|(simp only [List.length_append,List.length_cons,List.length_nil];omega):((([45]:TX).length+(Lib.repeatL ([100]:TX) ((min (0-m) 7).toNat)).length:Nat):Int)≤9223372036854775807) (oc (qy _ _:st ([45]:TX)++st (Lib.repeatL ([100]:TX) ((min (0-m) 7).toNat))=st (([45]:TX)++(Lib.repeatL ([100]:TX) ((min (0-m) 7).toNat)))) (oi (x+1) (by omega) (zO 648 (vF (x+1) (by omega) (by omega)) (oc (by first|omega|(simp only [List.length_append,List.length_cons,List.length_nil];omega):(((([45]:TX)++(Lib.repeatL ([100]:TX) ((min (0-m) 7).toNat))).length+(Lib.itoa (x+1)).length:Nat):Int)≤9223372036854775807) (oc (qy _ _:st (([45]:TX)++(Lib.repeatL ([100]:TX) ((min (0-m) 7).toNat)))++st (Lib.itoa (x+1))=st ((([45]:TX)++(Lib.repeatL ([100]:TX) ((min (0-m) 7).toNat)))++(Lib.itoa (x+1)))) oz)))))) ?_
    rw [yO (s:=s) (h:=h) h1 (.inl h2) (Eq.trans (by rw [← hx,← hy]) (yL (by rw [← hm];exact (YJ h3 h5 h7)) h8))]
    exact qk hc0 [2,3] []
   refine qO (b:=(zN x)) rfl (Bool.eq_false_iff.2 h7)<|qB<|qH qD [.k3,.d,.n,.r] [ps 77 (bv (decide (m=(-1))))] ?_
   by_cases h9:m=(-1)
   ·refine qS (qT h9)<|qH qD [.k2,.d,.n,.d,.r] [ps 8 (sv (st ([109]:TX)))]<|qZ<|qB<|qB<|qH qD [.k3,.n,.r] [ps 82 (bv false)]<|qO (b:=false) rfl rfl<|qF<|qB<|zD qD [(2,.val (.av (.string (st (([45]:TX)++([109]:TX)))))),(6,.call [] [(iv (x+1))] [] (sv (st (Lib.itoa (x+1)))) []),(7,.val (.av (.string (st ((([45]:TX)++([109]:TX))++(Lib.itoa (x+1)))))))] [ps 2 (sv (st ((([45]:TX)++([109]:TX))++(Lib.itoa (x+1))))),ps 3 (iv 0)] (oc (by first|omega|(simp <;> omega):((([45]:TX).length+([109]:TX).length:Nat):Int)≤9223372036854775807) (oc (qy _ _:st ([45]:TX)++st ([109]:TX)=st (([45]:TX)++([109]:TX))) (oi (x+1) (by omega) (zO 640 (vF (x+1) (by omega) (by omega)) (oc (by first|omega|(simp <;> omega):(((([45]:TX)++([109]:TX)).length+(Lib.itoa (x+1)).length:Nat):Int)≤9223372036854775807) (oc (qy _ _:st (([45]:TX)++([109]:TX))++st (Lib.itoa (x+1))=st ((([45]:TX)++([109]:TX))++(Lib.itoa (x+1)))) oz)))))) ?_
    rw [yO (s:=s) (h:=h) h1 (.inl h2) (Eq.trans (by rw [← hx,← hy]) (yL (q:=[109]) (by rw [← hm];exact (qce h9 h7)) (by decide)))]
    exact qk hc0 [2,3] []
   refine qR (qV h9)<|qQ qD [(4,.call [] [(sv (st ([100]:TX))),(nv ((min ((0-m)-1) 7).toNat))] [] (sv (st (Lib.repeatL ([100]:TX) ((min ((0-m)-1) 7).toNat)))) [])] [.k2,.d,.n,.d,.r] [ps 8 (sv (st (Lib.repeatL ([100]:TX) ((min ((0-m)-1) 7).toNat))))] (oi (0-m) (by omega) (oi ((0-m)-1) (by omega) (oc (wE ([100]:TX) ((min ((0-m)-1) 7).toNat) (by omega) (by simp only [List.length_cons,List.length_nil];omega)) (oc (congrArg (fun z=>[(sv (st ([100]:TX))),iv z]) (show min ((0-m)-1) 7=(((min ((0-m)-1) 7).toNat:Nat):Int) from by omega):[(sv (st ([100]:TX))),(iv (min ((0-m)-1) 7))]=vJ (yq [] 592) [(sv (st ([100]:TX))),(nv ((min ((0-m)-1) 7).toNat))]) oz)))) ?_
   refine qZ<|qB<|qB<|qH qD [.k3,.n,.r] [ps 82 (bv (decide (6<(((Lib.repeatL ([100]:TX) ((min ((0-m)-1) 7).toNat)).length:Nat):Int))))] ?_
   by_cases h10:6<(((Lib.repeatL ([100]:TX) ((min ((0-m)-1) 7).toNat)).length:Nat):Int)
   ·refine qS (qT h10)<|qB<|zD qD [] [ps 2 se,ps 3 (iv 3)] (oz) ?_
    rw [yO (s:=s) (h:=h) h1 (.inl h2) (Eq.trans (by rw [← hx,← hy]) (vX (by rw [← hm];exact (QS h3 h5 h7 h9)) h10))]
    exact qk hc0 [2,3] []
   refine qR (qV h10)<|qF<|qB<|zD qD [(2,.val (.av (.string (st (([45]:TX)++(Lib.repeatL ([100]:TX) ((min ((0-m)-1) 7).toNat))))))),(6,.call [] [(iv (x+1))] [] (sv (st (Lib.itoa (x+1)))) []),(7,.val (.av (.string (st ((([45]:TX)++(Lib.repeatL ([100]:TX) ((min ((0-m)-1) 7).toNat)))++(Lib.itoa (x+1)))))))] [ps 2 (sv (st ((([45]:TX)++(Lib.repeatL ([100]:TX) ((min ((0-m)-1) 7).toNat)))++(Lib.itoa (x+1))))),ps 3 (iv 0)] (oc (by first|omega|(simp only [List.length_append,List.length_cons,List.length_nil];omega):((([45]:TX).length+(Lib.repeatL ([100]:TX) ((min ((0-m)-1) 7).toNat)).length:Nat):Int)≤9223372036854775807) (oc (qy _ _:st ([45]:TX)++st (Lib.repeatL ([100]:TX) ((min ((0-m)-1) 7).toNat))=st (([45]:TX)++(Lib.repeatL ([100]:TX) ((min ((0-m)-1) 7).toNat)))) (oi (x+1) (by omega) (zO 680 (vF (x+1) (by omega) (by omega)) (oc (by first|omega|(simp only [List.length_append,List.length_cons,List.length_nil];omega):(((([45]:TX)++(Lib.repeatL ([100]:TX) ((min ((0-m)-1) 7).toNat))).length+(Lib.itoa (x+1)).length:Nat):Int)≤9223372036854775807) (oc (qy _ _:st (([45]:TX)++(Lib.repeatL ([100]:TX) ((min ((0-m)-1) 7).toNat)))++st (Lib.itoa (x+1))=st ((([45]:TX)++(Lib.repeatL ([100]:TX) ((min ((0-m)-1) 7).toNat)))++(Lib.itoa (x+1)))) oz)))))) ?_
   rw [yO (s:=s) (h:=h) h1 (.inl h2) (Eq.trans (by rw [← hx,← hy]) (yL (by rw [← hm];exact (QS h3 h5 h7 h9)) h10))]
   exact qk hc0 [2,3] []
  by_cases h11:s=0
  ·refine qQ qD (gn 4 4++gy 8 3++[(11,.gd false (.yes true)),(12,.yes false)]) [.k2,.n,.r] [ps 24 (bv (decide (h<0)))] (on 4 (qV h2) (on 3 (qT h11) (oc (qV h2) (oc (qT h11) (oc (qV h2) oz))))) ?_
   by_cases h12:h<0
   ·refine qS (qT h12)<|qB<|qH qD [.k1,.d,.n,.d,.r] [ps 4 (sv (st ([45]:TX)))]<|qQ qD [] [.k2,.d,.n] [pb 0 41 [(iv (0-s)),(iv (0-h))]] (oi (0-s) (by omega) (oi (0-h) (by omega) oz))<|qB ?_
    obtain ⟨x,hx⟩:∃ x,x=0-s:=⟨_,rfl⟩
    obtain ⟨y,hy⟩:∃ y,y=0-h:=⟨_,rfl⟩
    refine qj (Wk.eq (show _=[ps 1 (.opt 0 0),ps 4 (sv (st ([45]:TX))),pb 0 41 [(iv x),(iv y)]] from by rw [hx,hy])) ?_
    have hnb:=Pi.nat7_range (x % 7)
    have hl2:=zW (o:=x+1) (by omega) (by omega)
    refine yC qD 2 [.k2,.n,.n,.r] [ps 5 (iv (x / 7)),ps 6 (iv (x % 7))] (zO 264 (YZ x (by omega) (by omega)) oz)<|qB<|wC qD [(6,.call [] [(iv (x % 7))] [] (iv (Pi.nat7 (x % 7))) [])] (VB [(0,0),(0,1),(0,0),(2,1),(0,4),(0,0),(5,1),(0,7),(0,8)]) [([78],[2]),([80],[1,78]),([82],[10]),([84],[82]),([86],[80,84]),([88],[12]),([90],[88]),([92],[86,90]),([14],[92])] [.k2,.d,.d,.n,.r] [ps 7 (iv ((y-(12*(x / 7)))-(Pi.nat7 (x % 7))))] (oi (12*(x / 7)) (by omega) (oi (y-(12*(x / 7))) (by omega) (zO 360 (ZS (x % 7)) (oi ((y-(12*(x / 7)))-(Pi.nat7 (x % 7))) (by omega) oz))))<|qB ?_
    obtain ⟨m,hm⟩:∃ m,m=vP x y:=⟨_,rfl⟩
    have hmb : -9000≤m∧m≤9000:=by rw [hm];unfold vP;omega
    refine qj (Wk.eq (show _=[ps 1 (.opt 0 0),ps 4 (sv (st ([45]:TX))),ps 7 (iv m),pb 0 41 [(iv x),(iv y)]] from by rw [hm];rfl)) ?_
    refine qH qD [.r] []<|qB<|qX<|qB<|qH qD [.k3,.n,.r] [ps 52 (bv (decide (0<m)))] ?_
    by_cases h13:0<m
    ·refine qS (qT h13)<|qQ qD [(2,.call [] [(sv (st ([65]:TX))),(nv ((min m 7).toNat))] [] (sv (st (Lib.repeatL ([65]:TX) ((min m 7).toNat)))) [])] [.k2,.d,.n,.d,.r] [ps 8 (sv (st (Lib.repeatL ([65]:TX) ((min m 7).toNat))))] (oc (wE ([65]:TX) ((min m 7).toNat) (by omega) (by simp only [List.length_cons,List.length_nil];omega)) (oc (congrArg (fun z=>[(sv (st ([65]:TX))),iv z]) (show min m 7=(((min m 7).toNat:Nat):Int) from by omega):[(sv (st ([65]:TX))),(iv (min m 7))]=vJ (yq [] 432) [(sv (st ([65]:TX))),(nv ((min m 7).toNat))]) oz)) ?_
     refine qZ<|qB<|qB<|qH qD [.k3,.n,.r] [ps 82 (bv (decide (6<(((Lib.repeatL ([65]:TX) ((min m 7).toNat)).length:Nat):Int))))] ?_
     by_cases h14:6<(((Lib.repeatL ([65]:TX) ((min m 7).toNat)).length:Nat):Int)
     ·refine qS (qT h14)<|qB<|zD qD [] [ps 2 se,ps 3 (iv 3)] (oz) ?_
      rw [yO (s:=s) (h:=h) h1 (.inr ⟨h11,h12⟩) (Eq.trans (by rw [← hx,← hy]) (vX (by rw [← hm];exact (QR h13)) h14))]
      exact qk hc0 [2,3] []
     refine qR (qV h14)<|qF<|qB<|zD qD [(2,.val (.av (.string (st (([45]:TX)++(Lib.repeatL ([65]:TX) ((min m 7).toNat))))))),(6,.call [] [(iv (x+1))] [] (sv (st (Lib.itoa (x+1)))) []),(7,.val (.av (.string (st ((([45]:TX)++(Lib.repeatL ([65]:TX) ((min m 7).toNat)))++(Lib.itoa (x+1)))))))] [ps 2 (sv (st ((([45]:TX)++(Lib.repeatL ([65]:TX) ((min m 7).toNat)))++(Lib.itoa (x+1))))),ps 3 (iv 0)] (oc (by first|omega|(simp <;> omega):((([45]:TX).length+(Lib.repeatL ([65]:TX) ((min m 7).toNat)).length:Nat):Int)≤9223372036854775807) (oc (qy _ _:st ([45]:TX)++st (Lib.repeatL ([65]:TX) ((min m 7).toNat))=st (([45]:TX)++(Lib.repeatL ([65]:TX) ((min m 7).toNat)))) (oi (x+1) (by omega) (zO 520 (vF (x+1) (by omega) (by omega)) (oc (by first|omega|(simp <;> omega):(((([45]:TX)++(Lib.repeatL ([65]:TX) ((min m 7).toNat))).length+(Lib.itoa (x+1)).length:Nat):Int)≤9223372036854775807) (oc (qy _ _:st (([45]:TX)++(Lib.repeatL ([65]:TX) ((min m 7).toNat)))++st (Lib.itoa (x+1))=st ((([45]:TX)++(Lib.repeatL ([65]:TX) ((min m 7).toNat)))++(Lib.itoa (x+1)))) oz)))))) ?_
     rw [yO (s:=s) (h:=h) h1 (.inr ⟨h11,h12⟩) (Eq.trans (by rw [← hx,← hy]) (yL (by rw [← hm];exact (QR h13)) h14))]
     exact qk hc0 [2,3] []
    refine qR (qV h13)<|qB ?_
    by_cases h15:m=0
    ·refine qQ qD (gy 3 2++[(5,.gd true (.call [] [(iv x)] [] (bv (zN x)) [])),(6,.yes true)]) [.k3,.d,.n,.r] [ps 58 (bv (zN x))] (on 3 (qT h15) (zO 456 (yQ x (by omega)) (oc (qT h15) oz))) ?_
     by_cases h16:(zN x)=true
     ·refine qL (b:=(zN x)) rfl h16<|qH qD [.k2,.d,.n,.d,.r] [ps 8 (sv (st ([80]:TX)))]<|qZ<|qB<|qB<|qH qD [.k3,.n,.r] [ps 82 (bv false)]<|qO (b:=false) rfl rfl<|qF<|qB<|zD qD [(2,.val (.av (.string (st (([45]:TX)++([80]:TX)))))),(6,.call [] [(iv (x+1))] [] (sv (st (Lib.itoa (x+1)))) []),(7,.val (.av (.string (st ((([45]:TX)++([80]:TX))++(Lib.itoa (x+1)))))))] [ps 2 (sv (st ((([45]:TX)++([80]:TX))++(Lib.itoa (x+1))))),ps 3 (iv 0)] (oc (by first|omega|(simp <;> omega):((([45]:TX).length+([80]:TX).length:Nat):Int)≤9223372036854775807) (oc (qy _ _:st ([45]:TX)++st ([80]:TX)=st (([45]:TX)++([80]:TX))) (oi (x+1) (by omega) (zO 560 (vF (x+1) (by omega) (by omega)) (oc (by first|omega|(simp <;> omega):(((([45]:TX)++([80]:TX)).length+(Lib.itoa (x+1)).length:Nat):Int)≤9223372036854775807) (oc (qy _ _:st (([45]:TX)++([80]:TX))++st (Lib.itoa (x+1))=st ((([45]:TX)++([80]:TX))++(Lib.itoa (x+1)))) oz)))))) ?_
      rw [yO (s:=s) (h:=h) h1 (.inr ⟨h11,h12⟩) (Eq.trans (by rw [← hx,← hy]) (yL (q:=[80]) (by rw [← hm];exact (YK h15 h16)) (by decide)))]
      exact qk hc0 [2,3] []
     refine qO (b:=(zN x)) rfl (Bool.eq_false_iff.2 h16)<|qB<|qH qD [.k3,.d,.n,.r] [ps 66 (bv (decide (m=0)))]<|qS (qT h15)<|qH qD [.k2,.d,.n,.d,.r] [ps 8 (sv (st ([77]:TX)))]<|qZ<|qB<|qB<|qH qD [.k3,.n,.r] [ps 82 (bv false)]<|qO (b:=false) rfl rfl<|qF<|qB<|zD qD [(2,.val (.av (.string (st (([45]:TX)++([77]:TX)))))),(6,.call [] [(iv (x+1))] [] (sv (st (Lib.itoa (x+1)))) []),(7,.val (.av (.string (st ((([45]:TX)++([77]:TX))++(Lib.itoa (x+1)))))))] [ps 2 (sv (st ((([45]:TX)++([77]:TX))++(Lib.itoa (x+1))))),ps 3 (iv 0)] (oc (by first|omega|(simp <;> omega):((([45]:TX).length+([77]:TX).length:Nat):Int)≤9223372036854775807) (oc (qy _ _:st ([45]:TX)++st ([77]:TX)=st (([45]:TX)++([77]:TX))) (oi (x+1) (by omega) (zO 584 (vF (x+1) (by omega) (by omega)) (oc (by first|omega|(simp <;> omega):(((([45]:TX)++([77]:TX)).length+(Lib.itoa (x+1)).length:Nat):Int)≤9223372036854775807) (oc (qy _ _:st (([45]:TX)++([77]:TX))++st (Lib.itoa (x+1))=st ((([45]:TX)++([77]:TX))++(Lib.itoa (x+1)))) oz)))))) ?_
     rw [yO (s:=s) (h:=h) h1 (.inr ⟨h11,h12⟩) (Eq.trans (by rw [← hx,← hy]) (yL (q:=[77]) (by rw [← hm];exact (qcf h15 h16)) (by decide)))]
     exact qk hc0 [2,3] []
    refine qQ qD (gn 3 3++[(6,.yes false)]) [.k3,.d,.n,.r] [ps 58 (bv false)] (on 4 (qV h15) oz)<|qO (b:=false) rfl rfl<|qB<|qH qD [.k3,.d,.n,.r] [ps 66 (bv (decide (m=0)))]<|qR (qV h15)<|qB<|yC qD 2 [.k3,.d,.n,.r] [ps 69 (bv (zN x))] (zO 520 (yQ x (by omega)) oz) ?_
    by_cases h17:(zN x)=true
    ·refine qL (b:=(zN x)) rfl h17<|qQ qD [(3,.call [] [(sv (st ([100]:TX))),(nv ((min (0-m) 7).toNat))] [] (sv (st (Lib.repeatL ([100]:TX) ((min (0-m) 7).toNat)))) [])] [.k2,.d,.n,.d,.r] [ps 8 (sv (st (Lib.repeatL ([100]:TX) ((min (0-m) 7).toNat))))] (oi (0-m) (by omega) (oc (wE ([100]:TX) ((min (0-m) 7).toNat) (by omega) (by simp only [List.length_cons,List.length_nil];omega)) (oc (congrArg (fun z=>[(sv (st ([100]:TX))),iv z]) (show min (0-m) 7=(((min (0-m) 7).toNat:Nat):Int) from by omega):[(sv (st ([100]:TX))),(iv (min (0-m) 7))]=vJ (yq [] 560) [(sv (st ([100]:TX))),(nv ((min (0-m) 7).toNat))]) oz))) ?_
     refine qZ<|qB<|qB<|qH qD [.k3,.n,.r] [ps 82 (bv (decide (6<(((Lib.repeatL ([100]:TX) ((min (0-m) 7).toNat)).length:Nat):Int))))] ?_
     by_cases h18:6<(((Lib.repeatL ([100]:TX) ((min (0-m) 7).toNat)).length:Nat):Int)
     ·refine qS (qT h18)<|qB<|zD qD [] [ps 2 se,ps 3 (iv 3)] (oz) ?_
      rw [yO (s:=s) (h:=h) h1 (.inr ⟨h11,h12⟩) (Eq.trans (by rw [← hx,← hy]) (vX (by rw [← hm];exact (YJ h13 h15 h17)) h18))]
      exact qk hc0 [2,3] []
     refine qR (qV h18)<|qF<|qB<|zD qD [(2,.val (.av (.string (st (([45]:TX)++(Lib.repeatL ([100]:TX) ((min (0-m) 7).toNat))))))),(6,.call [] [(iv (x+1))] [] (sv (st (Lib.itoa (x+1)))) []),(7,.val (.av (.string (st ((([45]:TX)++(Lib.repeatL ([100]:TX) ((min (0-m) 7).toNat)))++(Lib.itoa (x+1)))))))] [ps 2 (sv (st ((([45]:TX)++(Lib.repeatL ([100]:TX) ((min (0-m) 7).toNat)))++(Lib.itoa (x+1))))),ps 3 (iv 0)] (oc (by first|omega|(simp only [List.length_append,List.length_cons,List.length_nil];omega):((([45]:TX).length+(Lib.repeatL ([100]:TX) ((min (0-m) 7).toNat)).length:Nat):Int)≤9223372036854775807) (oc (qy _ _:st ([45]:TX)++st (Lib.repeatL ([100]:TX) ((min (0-m) 7).toNat))=st (([45]:TX)++(Lib.repeatL ([100]:TX) ((min (0-m) 7).toNat)))) (oi (x+1) (by omega) (zO 648 (vF (x+1) (by omega) (by omega)) (oc (by first|omega|(simp only [List.length_append,List.length_cons,List.length_nil];omega):(((([45]:TX)++(Lib.repeatL ([100]:TX) ((min (0-m) 7).toNat))).length+(Lib.itoa (x+1)).length:Nat):Int)≤9223372036854775807) (oc (qy _ _:st (([45]:TX)++(Lib.repeatL ([100]:TX) ((min (0-m) 7).toNat)))++st (Lib.itoa (x+1))=st ((([45]:TX)++(Lib.repeatL ([100]:TX) ((min (0-m) 7).toNat)))++(Lib.itoa (x+1)))) oz)))))) ?_
     rw [yO (s:=s) (h:=h) h1 (.inr ⟨h11,h12⟩) (Eq.trans (by rw [← hx,← hy]) (yL (by rw [← hm];exact (YJ h13 h15 h17)) h18))]
     exact qk hc0 [2,3] []
    refine qO (b:=(zN x)) rfl (Bool.eq_false_iff.2 h17)<|qB<|qH qD [.k3,.d,.n,.r] [ps 77 (bv (decide (m=(-1))))] ?_
    by_cases h19:m=(-1)
    ·refine qS (qT h19)<|qH qD [.k2,.d,.n,.d,.r] [ps 8 (sv (st ([109]:TX)))]<|qZ<|qB<|qB<|qH qD [.k3,.n,.r] [ps 82 (bv false)]<|qO (b:=false) rfl rfl<|qF<|qB<|zD qD [(2,.val (.av (.string (st (([45]:TX)++([109]:TX)))))),(6,.call [] [(iv (x+1))] [] (sv (st (Lib.itoa (x+1)))) []),(7,.val (.av (.string (st ((([45]:TX)++([109]:TX))++(Lib.itoa (x+1)))))))] [ps 2 (sv (st ((([45]:TX)++([109]:TX))++(Lib.itoa (x+1))))),ps 3 (iv 0)] (oc (by first|omega|(simp <;> omega):((([45]:TX).length+([109]:TX).length:Nat):Int)≤9223372036854775807) (oc (qy _ _:st ([45]:TX)++st ([109]:TX)=st (([45]:TX)++([109]:TX))) (oi (x+1) (by omega) (zO 640 (vF (x+1) (by omega) (by omega)) (oc (by first|omega|(simp <;> omega):(((([45]:TX)++([109]:TX)).length+(Lib.itoa (x+1)).length:Nat):Int)≤9223372036854775807) (oc (qy _ _:st (([45]:TX)++([109]:TX))++st (Lib.itoa (x+1))=st ((([45]:TX)++([109]:TX))++(Lib.itoa (x+1)))) oz)))))) ?_
     rw [yO (s:=s) (h:=h) h1 (.inr ⟨h11,h12⟩) (Eq.trans (by rw [← hx,← hy]) (yL (q:=[109]) (by rw [← hm];exact (qce h19 h17)) (by decide)))]
     exact qk hc0 [2,3] []
    refine qR (qV h19)<|qQ qD [(4,.call [] [(sv (st ([100]:TX))),(nv ((min ((0-m)-1) 7).toNat))] [] (sv (st (Lib.repeatL ([100]:TX) ((min ((0-m)-1) 7).toNat)))) [])] [.k2,.d,.n,.d,.r] [ps 8 (sv (st (Lib.repeatL ([100]:TX) ((min ((0-m)-1) 7).toNat))))] (oi (0-m) (by omega) (oi ((0-m)-1) (by omega) (oc (wE ([100]:TX) ((min ((0-m)-1) 7).toNat) (by omega) (by simp only [List.length_cons,List.length_nil];omega)) (oc (congrArg (fun z=>[(sv (st ([100]:TX))),iv z]) (show min ((0-m)-1) 7=(((min ((0-m)-1) 7).toNat:Nat):Int) from by omega):[(sv (st ([100]:TX))),(iv (min ((0-m)-1) 7))]=vJ (yq [] 592) [(sv (st ([100]:TX))),(nv ((min ((0-m)-1) 7).toNat))]) oz)))) ?_
    refine qZ<|qB<|qB<|qH qD [.k3,.n,.r] [ps 82 (bv (decide (6<(((Lib.repeatL ([100]:TX) ((min ((0-m)-1) 7).toNat)).length:Nat):Int))))] ?_
    by_cases h20:6<(((Lib.repeatL ([100]:TX) ((min ((0-m)-1) 7).toNat)).length:Nat):Int)
    ·refine qS (qT h20)<|qB<|zD qD [] [ps 2 se,ps 3 (iv 3)] (oz) ?_
     rw [yO (s:=s) (h:=h) h1 (.inr ⟨h11,h12⟩) (Eq.trans (by rw [← hx,← hy]) (vX (by rw [← hm];exact (QS h13 h15 h17 h19)) h20))]
     exact qk hc0 [2,3] []
    refine qR (qV h20)<|qF<|qB<|zD qD [(2,.val (.av (.string (st (([45]:TX)++(Lib.repeatL ([100]:TX) ((min ((0-m)-1) 7).toNat))))))),(6,.call [] [(iv (x+1))] [] (sv (st (Lib.itoa (x+1)))) []),(7,.val (.av (.string (st ((([45]:TX)++(Lib.repeatL ([100]:TX) ((min ((0-m)-1) 7).toNat)))++(Lib.itoa (x+1)))))))] [ps 2 (sv (st ((([45]:TX)++(Lib.repeatL ([100]:TX) ((min ((0-m)-1) 7).toNat)))++(Lib.itoa (x+1))))),ps 3 (iv 0)] (oc (by first|omega|(simp only [List.length_append,List.length_cons,List.length_nil];omega):((([45]:TX).length+(Lib.repeatL ([100]:TX) ((min ((0-m)-1) 7).toNat)).length:Nat):Int)≤9223372036854775807) (oc (qy _ _:st ([45]:TX)++st (Lib.repeatL ([100]:TX) ((min ((0-m)-1) 7).toNat))=st (([45]:TX)++(Lib.repeatL ([100]:TX) ((min ((0-m)-1) 7).toNat)))) (oi (x+1) (by omega) (zO 680 (vF (x+1) (by omega) (by omega)) (oc (by first|omega|(simp only [List.length_append,List.length_cons,List.length_nil];omega):(((([45]:TX)++(Lib.repeatL ([100]:TX) ((min ((0-m)-1) 7).toNat))).length+(Lib.itoa (x+1)).length:Nat):Int)≤9223372036854775807) (oc (qy _ _:st (([45]:TX)++(Lib.repeatL ([100]:TX) ((min ((0-m)-1) 7).toNat)))++st (Lib.itoa (x+1))=st ((([45]:TX)++(Lib.repeatL ([100]:TX) ((min ((0-m)-1) 7).toNat)))++(Lib.itoa (x+1)))) oz)))))) ?_
    rw [yO (s:=s) (h:=h) h1 (.inr ⟨h11,h12⟩) (Eq.trans (by rw [← hx,← hy]) (yL (by rw [← hm];exact (QS h13 h15 h17 h19)) h20))]
    exact qk hc0 [2,3] []
   refine qR (qV h12)<|qF<|qB ?_
   obtain ⟨x,hx⟩:∃ x,x=s:=⟨_,rfl⟩
   obtain ⟨y,hy⟩:∃ y,y=h:=⟨_,rfl⟩
   refine qj (Wk.eq (show _=[ps 1 (.opt 0 0),ps 4 se,ps 24 (bv (decide (h<0))),pb 0 41 [(iv x),(iv y)]] from by rw [hx,hy])) ?_
   have hnb:=Pi.nat7_range (x % 7)
   have hl2:=zW (o:=x+1) (by omega) (by omega)
   refine yC qD 2 [.k2,.n,.n,.d,.r] [ps 5 (iv (x / 7)),ps 6 (iv (x % 7))] (zO 176 (YZ x (by omega) (by omega)) oz)<|qB<|wC qD [(6,.call [] [(iv (x % 7))] [] (iv (Pi.nat7 (x % 7))) [])] (VB [(0,0),(0,1),(0,0),(2,1),(0,4),(0,0),(5,1),(0,7),(0,8)]) [([78],[2]),([80],[1,78]),([82],[10]),([84],[82]),([86],[80,84]),([88],[12]),([90],[88]),([92],[86,90]),([14],[92])] [.k2,.d,.d,.n,.r] [ps 7 (iv ((y-(12*(x / 7)))-(Pi.nat7 (x % 7))))] (oi (12*(x / 7)) (by omega) (oi (y-(12*(x / 7))) (by omega) (zO 272 (ZS (x % 7)) (oi ((y-(12*(x / 7)))-(Pi.nat7 (x % 7))) (by omega) oz))))<|qB ?_
   obtain ⟨m,hm⟩:∃ m,m=vP x y:=⟨_,rfl⟩
   have hmb : -9000≤m∧m≤9000:=by rw [hm];unfold vP;omega
   refine qj (Wk.eq (show _=[ps 1 (.opt 0 0),ps 4 se,ps 7 (iv m),pb 0 41 [(iv x),(iv y)]] from by rw [hm];rfl)) ?_
   refine qH qD [.r] []<|qB<|qX<|qB<|qH qD [.k3,.n,.r] [ps 52 (bv (decide (0<m)))] ?_
   by_cases h21:0<m
   ·refine qS (qT h21)<|qQ qD [(2,.call [] [(sv (st ([65]:TX))),(nv ((min m 7).toNat))] [] (sv (st (Lib.repeatL ([65]:TX) ((min m 7).toNat)))) [])] [.k2,.d,.n,.d,.r] [ps 8 (sv (st (Lib.repeatL ([65]:TX) ((min m 7).toNat))))] (oc (wE ([65]:TX) ((min m 7).toNat) (by omega) (by simp only [List.length_cons,List.length_nil];omega)) (oc (congrArg (fun z=>[(sv (st ([65]:TX))),iv z]) (show min m 7=(((min m 7).toNat:Nat):Int) from by omega):[(sv (st ([65]:TX))),(iv (min m 7))]=vJ (yq [] 344) [(sv (st ([65]:TX))),(nv ((min m 7).toNat))]) oz)) ?_
    refine qZ<|qB<|qB<|qH qD [.k3,.n,.r] [ps 82 (bv (decide (6<(((Lib.repeatL ([65]:TX) ((min m 7).toNat)).length:Nat):Int))))] ?_
    by_cases h22:6<(((Lib.repeatL ([65]:TX) ((min m 7).toNat)).length:Nat):Int)
    ·refine qS (qT h22)<|qB<|zD qD [] [ps 2 se,ps 3 (iv 3)] (oz) ?_
     rw [yI (s:=s) (h:=h) h1 (by omega) (Eq.trans (by rw [← hx,← hy]) (vX (by rw [← hm];exact (QR h21)) h22))]
     exact qk hc0 [2,3] []
    refine qR (qV h22)<|qF<|qB<|zD qD [(2,.val (.av (.string (st (([]:TX)++(Lib.repeatL ([65]:TX) ((min m 7).toNat))))))),(6,.call [] [(iv (x+1))] [] (sv (st (Lib.itoa (x+1)))) []),(7,.val (.av (.string (st ((([]:TX)++(Lib.repeatL ([65]:TX) ((min m 7).toNat)))++(Lib.itoa (x+1)))))))] [ps 2 (sv (st ((([]:TX)++(Lib.repeatL ([65]:TX) ((min m 7).toNat)))++(Lib.itoa (x+1))))),ps 3 (iv 0)] (oc (by first|omega|(simp <;> omega):((([]:TX).length+(Lib.repeatL ([65]:TX) ((min m 7).toNat)).length:Nat):Int)≤9223372036854775807) (oc (qy _ _:st ([]:TX)++st (Lib.repeatL ([65]:TX) ((min m 7).toNat))=st (([]:TX)++(Lib.repeatL ([65]:TX) ((min m 7).toNat)))) (oi (x+1) (by omega) (zO 432 (vF (x+1) (by omega) (by omega)) (oc (by first|omega|(simp <;> omega):(((([]:TX)++(Lib.repeatL ([65]:TX) ((min m 7).toNat))).length+(Lib.itoa (x+1)).length:Nat):Int)≤9223372036854775807) (oc (qy _ _:st (([]:TX)++(Lib.repeatL ([65]:TX) ((min m 7).toNat)))++st (Lib.itoa (x+1))=st ((([]:TX)++(Lib.repeatL ([65]:TX) ((min m 7).toNat)))++(Lib.itoa (x+1)))) oz)))))) ?_
    rw [yI (s:=s) (h:=h) h1 (by omega) (Eq.trans (by rw [← hx,← hy]) (yL (by rw [← hm];exact (QR h21)) h22))]
    exact qk hc0 [2,3] []
   refine qR (qV h21)<|qB ?_
   by_cases h23:m=0
   ·refine qQ qD (gy 3 2++[(5,.gd true (.call [] [(iv x)] [] (bv (zN x)) [])),(6,.yes true)]) [.k3,.d,.n,.r] [ps 58 (bv (zN x))] (on 3 (qT h23) (zO 368 (yQ x (by omega)) (oc (qT h23) oz))) ?_
    by_cases h24:(zN x)=true
    ·refine qL (b:=(zN x)) rfl h24<|qH qD [.k2,.d,.n,.d,.r] [ps 8 (sv (st ([80]:TX)))]<|qZ<|qB<|qB<|qH qD [.k3,.n,.r] [ps 82 (bv false)]<|qO (b:=false) rfl rfl<|qF<|qB<|zD qD [(2,.val (.av (.string (st (([]:TX)++([80]:TX)))))),(6,.call [] [(iv (x+1))] [] (sv (st (Lib.itoa (x+1)))) []),(7,.val (.av (.string (st ((([]:TX)++([80]:TX))++(Lib.itoa (x+1)))))))] [ps 2 (sv (st ((([]:TX)++([80]:TX))++(Lib.itoa (x+1))))),ps 3 (iv 0)] (oc (by first|omega|(simp <;> omega):((([]:TX).length+([80]:TX).length:Nat):Int)≤9223372036854775807) (oc (qy _ _:st ([]:TX)++st ([80]:TX)=st (([]:TX)++([80]:TX))) (oi (x+1) (by omega) (zO 472 (vF (x+1) (by omega) (by omega)) (oc (by first|omega|(simp <;> omega):(((([]:TX)++([80]:TX)).length+(Lib.itoa (x+1)).length:Nat):Int)≤9223372036854775807) (oc (qy _ _:st (([]:TX)++([80]:TX))++st (Lib.itoa (x+1))=st ((([]:TX)++([80]:TX))++(Lib.itoa (x+1)))) oz)))))) ?_
     rw [yI (s:=s) (h:=h) h1 (by omega) (Eq.trans (by rw [← hx,← hy]) (yL (q:=[80]) (by rw [← hm];exact (YK h23 h24)) (by decide)))]
     exact qk hc0 [2,3] []
    refine qO (b:=(zN x)) rfl (Bool.eq_false_iff.2 h24)<|qB<|qH qD [.k3,.d,.n,.r] [ps 66 (bv (decide (m=0)))]<|qS (qT h23)<|qH qD [.k2,.d,.n,.d,.r] [ps 8 (sv (st ([77]:TX)))]<|qZ<|qB<|qB<|qH qD [.k3,.n,.r] [ps 82 (bv false)]<|qO (b:=false) rfl rfl<|qF<|qB<|zD qD [(2,.val (.av (.string (st (([]:TX)++([77]:TX)))))),(6,.call [] [(iv (x+1))] [] (sv (st (Lib.itoa (x+1)))) []),(7,.val (.av (.string (st ((([]:TX)++([77]:TX))++(Lib.itoa (x+1)))))))] [ps 2 (sv (st ((([]:TX)++([77]:TX))++(Lib.itoa (x+1))))),ps 3 (iv 0)] (oc (by first|omega|(simp <;> omega):((([]:TX).length+([77]:TX).length:Nat):Int)≤9223372036854775807) (oc (qy _ _:st ([]:TX)++st ([77]:TX)=st (([]:TX)++([77]:TX))) (oi (x+1) (by omega) (zO 496 (vF (x+1) (by omega) (by omega)) (oc (by first|omega|(simp <;> omega):(((([]:TX)++([77]:TX)).length+(Lib.itoa (x+1)).length:Nat):Int)≤9223372036854775807) (oc (qy _ _:st (([]:TX)++([77]:TX))++st (Lib.itoa (x+1))=st ((([]:TX)++([77]:TX))++(Lib.itoa (x+1)))) oz)))))) ?_
    rw [yI (s:=s) (h:=h) h1 (by omega) (Eq.trans (by rw [← hx,← hy]) (yL (q:=[77]) (by rw [← hm];exact (qcf h23 h24)) (by decide)))]
    exact qk hc0 [2,3] []
   refine qQ qD (gn 3 3++[(6,.yes false)]) [.k3,.d,.n,.r] [ps 58 (bv false)] (on 4 (qV h23) oz)<|qO (b:=false) rfl rfl<|qB<|qH qD [.k3,.d,.n,.r] [ps 66 (bv (decide (m=0)))]<|qR (qV h23)<|qB<|yC qD 2 [.k3,.d,.n,.r] [ps 69 (bv (zN x))] (zO 432 (yQ x (by omega)) oz) ?_
   by_cases h25:(zN x)=true
   ·refine qL (b:=(zN x)) rfl h25<|qQ qD [(3,.call [] [(sv (st ([100]:TX))),(nv ((min (0-m) 7).toNat))] [] (sv (st (Lib.repeatL ([100]:TX) ((min (0-m) 7).toNat)))) [])] [.k2,.d,.n,.d,.r] [ps 8 (sv (st (Lib.repeatL ([100]:TX) ((min (0-m) 7).toNat))))] (oi (0-m) (by omega) (oc (wE ([100]:TX) ((min (0-m) 7).toNat) (by omega) (by simp only [List.length_cons,List.length_nil];omega)) (oc (congrArg (fun z=>[(sv (st ([100]:TX))),iv z]) (show min (0-m) 7=(((min (0-m) 7).toNat:Nat):Int) from by omega):[(sv (st ([100]:TX))),(iv (min (0-m) 7))]=vJ (yq [] 472) [(sv (st ([100]:TX))),(nv ((min (0-m) 7).toNat))]) oz))) ?_
    refine qZ<|qB<|qB<|qH qD [.k3,.n,.r] [ps 82 (bv (decide (6<(((Lib.repeatL ([100]:TX) ((min (0-m) 7).toNat)).length:Nat):Int))))] ?_
    by_cases h26:6<(((Lib.repeatL ([100]:TX) ((min (0-m) 7).toNat)).length:Nat):Int)
    ·refine qS (qT h26)<|qB<|zD qD [] [ps 2 se,ps 3 (iv 3)] (oz) ?_
     rw [yI (s:=s) (h:=h) h1 (by omega) (Eq.trans (by rw [← hx,← hy]) (vX (by rw [← hm];exact (YJ h21 h23 h25)) h26))]
     exact qk hc0 [2,3] []
    refine qR (qV h26)<|qF<|qB<|zD qD [(2,.val (.av (.string (st (([]:TX)++(Lib.repeatL ([100]:TX) ((min (0-m) 7).toNat))))))),(6,.call [] [(iv (x+1))] [] (sv (st (Lib.itoa (x+1)))) []),(7,.val (.av (.string (st ((([]:TX)++(Lib.repeatL ([100]:TX) ((min (0-m) 7).toNat)))++(Lib.itoa (x+1)))))))] [ps 2 (sv (st ((([]:TX)++(Lib.repeatL ([100]:TX) ((min (0-m) 7).toNat)))++(Lib.itoa (x+1))))),ps 3 (iv 0)] (oc (by first|omega|(simp only [List.length_append,List.length_cons,List.length_nil];omega):((([]:TX).length+(Lib.repeatL ([100]:TX) ((min (0-m) 7).toNat)).length:Nat):Int)≤9223372036854775807) (oc (qy _ _:st ([]:TX)++st (Lib.repeatL ([100]:TX) ((min (0-m) 7).toNat))=st (([]:TX)++(Lib.repeatL ([100]:TX) ((min (0-m) 7).toNat)))) (oi (x+1) (by omega) (zO 560 (vF (x+1) (by omega) (by omega)) (oc (by first|omega|(simp only [List.length_append,List.length_cons,List.length_nil];omega):(((([]:TX)++(Lib.repeatL ([100]:TX) ((min (0-m) 7).toNat))).length+(Lib.itoa (x+1)).length:Nat):Int)≤9223372036854775807) (oc (qy _ _:st (([]:TX)++(Lib.repeatL ([100]:TX) ((min (0-m) 7).toNat)))++st (Lib.itoa (x+1))=st ((([]:TX)++(Lib.repeatL ([100]:TX) ((min (0-m) 7).toNat)))++(Lib.itoa (x+1)))) oz)))))) ?_
    rw [yI (s:=s) (h:=h) h1 (by omega) (Eq.trans (by rw [← hx,← hy]) (yL (by rw [← hm];exact (YJ h21 h23 h25)) h26))]
    exact qk hc0 [2,3] []
   refine qO (b:=(zN x)) rfl (Bool.eq_false_iff.2 h25)<|qB<|qH qD [.k3,.d,.n,.r] [ps 77 (bv (decide (m=(-1))))] ?_
   by_cases h27:m=(-1)
   ·refine qS (qT h27)<|qH qD [.k2,.d,.n,.d,.r] [ps 8 (sv (st ([109]:TX)))]<|qZ<|qB<|qB<|qH qD [.k3,.n,.r] [ps 82 (bv false)]<|qO (b:=false) rfl rfl<|qF<|qB<|zD qD [(2,.val (.av (.string (st (([]:TX)++([109]:TX)))))),(6,.call [] [(iv (x+1))] [] (sv (st (Lib.itoa (x+1)))) []),(7,.val (.av (.string (st ((([]:TX)++([109]:TX))++(Lib.itoa (x+1)))))))] [ps 2 (sv (st ((([]:TX)++([109]:TX))++(Lib.itoa (x+1))))),ps 3 (iv 0)] (oc (by first|omega|(simp <;> omega):((([]:TX).length+([109]:TX).length:Nat):Int)≤9223372036854775807) (oc (qy _ _:st ([]:TX)++st ([109]:TX)=st (([]:TX)++([109]:TX))) (oi (x+1) (by omega) (zO 552 (vF (x+1) (by omega) (by omega)) (oc (by first|omega|(simp <;> omega):(((([]:TX)++([109]:TX)).length+(Lib.itoa (x+1)).length:Nat):Int)≤9223372036854775807) (oc (qy _ _:st (([]:TX)++([109]:TX))++st (Lib.itoa (x+1))=st ((([]:TX)++([109]:TX))++(Lib.itoa (x+1)))) oz)))))) ?_
    rw [yI (s:=s) (h:=h) h1 (by omega) (Eq.trans (by rw [← hx,← hy]) (yL (q:=[109]) (by rw [← hm];exact (qce h27 h25)) (by decide)))]
    exact qk hc0 [2,3] []
   refine qR (qV h27)<|qQ qD [(4,.call [] [(sv (st ([100]:TX))),(nv ((min ((0-m)-1) 7).toNat))] [] (sv (st (Lib.repeatL ([100]:TX) ((min ((0-m)-1) 7).toNat)))) [])] [.k2,.d,.n,.d,.r] [ps 8 (sv (st (Lib.repeatL ([100]:TX) ((min ((0-m)-1) 7).toNat))))] (oi (0-m) (by omega) (oi ((0-m)-1) (by omega) (oc (wE ([100]:TX) ((min ((0-m)-1) 7).toNat) (by omega) (by simp only [List.length_cons,List.length_nil];omega)) (oc (congrArg (fun z=>[(sv (st ([100]:TX))),iv z]) (show min ((0-m)-1) 7=(((min ((0-m)-1) 7).toNat:Nat):Int) from by omega):[(sv (st ([100]:TX))),(iv (min ((0-m)-1) 7))]=vJ (yq [] 504) [(sv (st ([100]:TX))),(nv ((min ((0-m)-1) 7).toNat))]) oz)))) ?_
   refine qZ<|qB<|qB<|qH qD [.k3,.n,.r] [ps 82 (bv (decide (6<(((Lib.repeatL ([100]:TX) ((min ((0-m)-1) 7).toNat)).length:Nat):Int))))] ?_
   by_cases h28:6<(((Lib.repeatL ([100]:TX) ((min ((0-m)-1) 7).toNat)).length:Nat):Int)
   ·refine qS (qT h28)<|qB<|zD qD [] [ps 2 se,ps 3 (iv 3)] (oz) ?_
    rw [yI (s:=s) (h:=h) h1 (by omega) (Eq.trans (by rw [← hx,← hy]) (vX (by rw [← hm];exact (QS h21 h23 h25 h27)) h28))]
    exact qk hc0 [2,3] []
   refine qR (qV h28)<|qF<|qB<|zD qD [(2,.val (.av (.string (st (([]:TX)++(Lib.repeatL ([100]:TX) ((min ((0-m)-1) 7).toNat))))))),(6,.call [] [(iv (x+1))] [] (sv (st (Lib.itoa (x+1)))) []),(7,.val (.av (.string (st ((([]:TX)++(Lib.repeatL ([100]:TX) ((min ((0-m)-1) 7).toNat)))++(Lib.itoa (x+1)))))))] [ps 2 (sv (st ((([]:TX)++(Lib.repeatL ([100]:TX) ((min ((0-m)-1) 7).toNat)))++(Lib.itoa (x+1))))),ps 3 (iv 0)] (oc (by first|omega|(simp only [List.length_append,List.length_cons,List.length_nil];omega):((([]:TX).length+(Lib.repeatL ([100]:TX) ((min ((0-m)-1) 7).toNat)).length:Nat):Int)≤9223372036854775807) (oc (qy _ _:st ([]:TX)++st (Lib.repeatL ([100]:TX) ((min ((0-m)-1) 7).toNat))=st (([]:TX)++(Lib.repeatL ([100]:TX) ((min ((0-m)-1) 7).toNat)))) (oi (x+1) (by omega) (zO 592 (vF (x+1) (by omega) (by omega)) (oc (by first|omega|(simp only [List.length_append,List.length_cons,List.length_nil];omega):(((([]:TX)++(Lib.repeatL ([100]:TX) ((min ((0-m)-1) 7).toNat))).length+(Lib.itoa (x+1)).length:Nat):Int)≤9223372036854775807) (oc (qy _ _:st (([]:TX)++(Lib.repeatL ([100]:TX) ((min ((0-m)-1) 7).toNat)))++st (Lib.itoa (x+1))=st ((([]:TX)++(Lib.repeatL ([100]:TX) ((min ((0-m)-1) 7).toNat)))++(Lib.itoa (x+1)))) oz)))))) ?_
   rw [yI (s:=s) (h:=h) h1 (by omega) (Eq.trans (by rw [← hx,← hy]) (yL (by rw [← hm];exact (QS h21 h23 h25 h27)) h28))]
   exact qk hc0 [2,3] []
  refine qQ qD (gn 4 7++[(11,.gd false (.yes false)),(12,.yes false)]) [.k2,.n,.r] [ps 24 (bv false)] (on 4 (qV h2) (on 3 (qV h11) (oc (qV h2) (oc (qV h11) (oc (qV h2) oz)))))<|qO (b:=false) rfl rfl<|qF<|qB ?_
  obtain ⟨x,hx⟩:∃ x,x=s:=⟨_,rfl⟩
  obtain ⟨y,hy⟩:∃ y,y=h:=⟨_,rfl⟩
  refine qj (Wk.eq (show _=[ps 1 (.opt 0 0),ps 4 se,ps 24 (bv false),pb 0 41 [(iv x),(iv y)]] from by rw [hx,hy])) ?_
  have hnb:=Pi.nat7_range (x % 7)
  have hl2:=zW (o:=x+1) (by omega) (by omega)
  refine yC qD 2 [.k2,.n,.n,.d,.r] [ps 5 (iv (x / 7)),ps 6 (iv (x % 7))] (zO 176 (YZ x (by omega) (by omega)) oz)<|qB<|wC qD [(6,.call [] [(iv (x % 7))] [] (iv (Pi.nat7 (x % 7))) [])] (VB [(0,0),(0,1),(0,0),(2,1),(0,4),(0,0),(5,1),(0,7),(0,8)]) [([78],[2]),([80],[1,78]),([82],[10]),([84],[82]),([86],[80,84]),([88],[12]),([90],[88]),([92],[86,90]),([14],[92])] [.k2,.d,.d,.n,.r] [ps 7 (iv ((y-(12*(x / 7)))-(Pi.nat7 (x % 7))))] (oi (12*(x / 7)) (by omega) (oi (y-(12*(x / 7))) (by omega) (zO 272 (ZS (x % 7)) (oi ((y-(12*(x / 7)))-(Pi.nat7 (x % 7))) (by omega) oz))))<|qB ?_
  obtain ⟨m,hm⟩:∃ m,m=vP x y:=⟨_,rfl⟩
  have hmb : -9000≤m∧m≤9000:=by rw [hm];unfold vP;omega
  refine qj (Wk.eq (show _=[ps 1 (.opt 0 0),ps 4 se,ps 7 (iv m),pb 0 41 [(iv x),(iv y)]] from by rw [hm];rfl)) ?_
  refine qH qD [.r] []<|qB<|qX<|qB<|qH qD [.k3,.n,.r] [ps 52 (bv (decide (0<m)))] ?_
  by_cases h29:0<m
  ·refine qS (qT h29)<|qQ qD [(2,.call [] [(sv (st ([65]:TX))),(nv ((min m 7).toNat))] [] (sv (st (Lib.repeatL ([65]:TX) ((min m 7).toNat)))) [])] [.k2,.d,.n,.d,.r] [ps 8 (sv (st (Lib.repeatL ([65]:TX) ((min m 7).toNat))))] (oc (wE ([65]:TX) ((min m 7).toNat) (by omega) (by simp only [List.length_cons,List.length_nil];omega)) (oc (congrArg (fun z=>[(sv (st ([65]:TX))),iv z]) (show min m 7=(((min m 7).toNat:Nat):Int) from by omega):[(sv (st ([65]:TX))),(iv (min m 7))]=vJ (yq [] 344) [(sv (st ([65]:TX))),(nv ((min m 7).toNat))]) oz)) ?_
   refine qZ<|qB<|qB<|qH qD [.k3,.n,.r] [ps 82 (bv (decide (6<(((Lib.repeatL ([65]:TX) ((min m 7).toNat)).length:Nat):Int))))] ?_
   by_cases h30:6<(((Lib.repeatL ([65]:TX) ((min m 7).toNat)).length:Nat):Int)
   ·refine qS (qT h30)<|qB<|zD qD [] [ps 2 se,ps 3 (iv 3)] (oz) ?_
    rw [yI (s:=s) (h:=h) h1 (by omega) (Eq.trans (by rw [← hx,← hy]) (vX (by rw [← hm];exact (QR h29)) h30))]
    exact qk hc0 [2,3] []
   refine qR (qV h30)<|qF<|qB<|zD qD [(2,.val (.av (.string (st (([]:TX)++(Lib.repeatL ([65]:TX) ((min m 7).toNat))))))),(6,.call [] [(iv (x+1))] [] (sv (st (Lib.itoa (x+1)))) []),(7,.val (.av (.string (st ((([]:TX)++(Lib.repeatL ([65]:TX) ((min m 7).toNat)))++(Lib.itoa (x+1)))))))] [ps 2 (sv (st ((([]:TX)++(Lib.repeatL ([65]:TX) ((min m 7).toNat)))++(Lib.itoa (x+1))))),ps 3 (iv 0)] (oc (by first|omega|(simp <;> omega):((([]:TX).length+(Lib.repeatL ([65]:TX) ((min m 7).toNat)).length:Nat):Int)≤9223372036854775807) (oc (qy _ _:st ([]:TX)++st (Lib.repeatL ([65]:TX) ((min m 7).toNat))=st (([]:TX)++(Lib.repeatL ([65]:TX) ((min m 7).toNat)))) (oi (x+1) (by omega) (zO 432 (vF (x+1) (by omega) (by omega)) (oc (by first|omega|(simp <;> omega):(((([]:TX)++(Lib.repeatL ([65]:TX) ((min m 7).toNat))).length+(Lib.itoa (x+1)).length:Nat):Int)≤9223372036854775807) (oc (qy _ _:st (([]:TX)++(Lib.repeatL ([65]:TX) ((min m 7).toNat)))++st (Lib.itoa (x+1))=st ((([]:TX)++(Lib.repeatL ([65]:TX) ((min m 7).toNat)))++(Lib.itoa (x+1)))) oz)))))) ?_
   rw [yI (s:=s) (h:=h) h1 (by omega) (Eq.trans (by rw [← hx,← hy]) (yL (by rw [← hm];exact (QR h29)) h30))]
   exact qk hc0 [2,3] []
  refine qR (qV h29)<|qB ?_
  by_cases h31:m=0
  ·refine qQ qD (gy 3 2++[(5,.gd true (.call [] [(iv x)] [] (bv (zN x)) [])),(6,.yes true)]) [.k3,.d,.n,.r] [ps 58 (bv (zN x))] (on 3 (qT h31) (zO 368 (yQ x (by omega)) (oc (qT h31) oz))) ?_
   by_cases h32:(zN x)=true
   ·refine qL (b:=(zN x)) rfl h32<|qH qD [.k2,.d,.n,.d,.r] [ps 8 (sv (st ([80]:TX)))]<|qZ<|qB<|qB<|qH qD [.k3,.n,.r] [ps 82 (bv false)]<|qO (b:=false) rfl rfl<|qF<|qB<|zD qD [(2,.val (.av (.string (st (([]:TX)++([80]:TX)))))),(6,.call [] [(iv (x+1))] [] (sv (st (Lib.itoa (x+1)))) []),(7,.val (.av (.string (st ((([]:TX)++([80]:TX))++(Lib.itoa (x+1)))))))] [ps 2 (sv (st ((([]:TX)++([80]:TX))++(Lib.itoa (x+1))))),ps 3 (iv 0)] (oc (by first|omega|(simp <;> omega):((([]:TX).length+([80]:TX).length:Nat):Int)≤9223372036854775807) (oc (qy _ _:st ([]:TX)++st ([80]:TX)=st (([]:TX)++([80]:TX))) (oi (x+1) (by omega) (zO 472 (vF (x+1) (by omega) (by omega)) (oc (by first|omega|(simp <;> omega):(((([]:TX)++([80]:TX)).length+(Lib.itoa (x+1)).length:Nat):Int)≤9223372036854775807) (oc (qy _ _:st (([]:TX)++([80]:TX))++st (Lib.itoa (x+1))=st ((([]:TX)++([80]:TX))++(Lib.itoa (x+1)))) oz)))))) ?_
    rw [yI (s:=s) (h:=h) h1 (by omega) (Eq.trans (by rw [← hx,← hy]) (yL (q:=[80]) (by rw [← hm];exact (YK h31 h32)) (by decide)))]
    exact qk hc0 [2,3] []
   refine qO (b:=(zN x)) rfl (Bool.eq_false_iff.2 h32)<|qB<|qH qD [.k3,.d,.n,.r] [ps 66 (bv (decide (m=0)))]<|qS (qT h31)<|qH qD [.k2,.d,.n,.d,.r] [ps 8 (sv (st ([77]:TX)))]<|qZ<|qB<|qB<|qH qD [.k3,.n,.r] [ps 82 (bv false)]<|qO (b:=false) rfl rfl<|qF<|qB<|zD qD [(2,.val (.av (.string (st (([]:TX)++([77]:TX)))))),(6,.call [] [(iv (x+1))] [] (sv (st (Lib.itoa (x+1)))) []),(7,.val (.av (.string (st ((([]:TX)++([77]:TX))++(Lib.itoa (x+1)))))))] [ps 2 (sv (st ((([]:TX)++([77]:TX))++(Lib.itoa (x+1))))),ps 3 (iv 0)] (oc (by first|omega|(simp <;> omega):((([]:TX).length+([77]:TX).length:Nat):Int)≤9223372036854775807) (oc (qy _ _:st ([]:TX)++st ([77]:TX)=st (([]:TX)++([77]:TX))) (oi (x+1) (by omega) (zO 496 (vF (x+1) (by omega) (by omega)) (oc (by first|omega|(simp <;> omega):(((([]:TX)++([77]:TX)).length+(Lib.itoa (x+1)).length:Nat):Int)≤9223372036854775807) (oc (qy _ _:st (([]:TX)++([77]:TX))++st (Lib.itoa (x+1))=st ((([]:TX)++([77]:TX))++(Lib.itoa (x+1)))) oz)))))) ?_
   rw [yI (s:=s) (h:=h) h1 (by omega) (Eq.trans (by rw [← hx,← hy]) (yL (q:=[77]) (by rw [← hm];exact (qcf h31 h32)) (by decide)))]
   exact qk hc0 [2,3] []
  refine qQ qD (gn 3 3++[(6,.yes false)]) [.k3,.d,.n,.r] [ps 58 (bv false)] (on 4 (qV h31) oz)<|qO (b:=false) rfl rfl<|qB<|qH qD [.k3,.d,.n,.r] [ps 66 (bv (decide (m=0)))]<|qR (qV h31)<|qB<|yC qD 2 [.k3,.d,.n,.r] [ps 69 (bv (zN x))] (zO 432 (yQ x (by omega)) oz) ?_
  by_cases h33:(zN x)=true
  ·refine qL (b:=(zN x)) rfl h33<|qQ qD [(3,.call [] [(sv (st ([100]:TX))),(nv ((min (0-m) 7).toNat))] [] (sv (st (Lib.repeatL ([100]:TX) ((min (0-m) 7).toNat)))) [])] [.k2,.d,.n,.d,.r] [ps 8 (sv (st (Lib.repeatL ([100]:TX) ((min (0-m) 7).toNat))))] (oi (0-m) (by omega) (oc (wE ([100]:TX) ((min (0-m) 7).toNat) (by omega) (by simp only [List.length_cons,List.length_nil];omega)) (oc (congrArg (fun z=>[(sv (st ([100]:TX))),iv z]) (show min (0-m) 7=(((min (0-m) 7).toNat:Nat):Int) from by omega):[(sv (st ([100]:TX))),(iv (min (0-m) 7))]=vJ (yq [] 472) [(sv (st ([100]:TX))),(nv ((min (0-m) 7).toNat))]) oz))) ?_
   refine qZ<|qB<|qB<|qH qD [.k3,.n,.r] [ps 82 (bv (decide (6<(((Lib.repeatL ([100]:TX) ((min (0-m) 7).toNat)).length:Nat):Int))))] ?_
   by_cases h34:6<(((Lib.repeatL ([100]:TX) ((min (0-m) 7).toNat)).length:Nat):Int)
   ·refine qS (qT h34)<|qB<|zD qD [] [ps 2 se,ps 3 (iv 3)] (oz) ?_
    rw [yI (s:=s) (h:=h) h1 (by omega) (Eq.trans (by rw [← hx,← hy]) (vX (by rw [← hm];exact (YJ h29 h31 h33)) h34))]
    exact qk hc0 [2,3] []
   refine qR (qV h34)<|qF<|qB<|zD qD [(2,.val (.av (.string (st (([]:TX)++(Lib.repeatL ([100]:TX) ((min (0-m) 7).toNat))))))),(6,.call [] [(iv (x+1))] [] (sv (st (Lib.itoa (x+1)))) []),(7,.val (.av (.string (st ((([]:TX)++(Lib.repeatL ([100]:TX) ((min (0-m) 7).toNat)))++(Lib.itoa (x+1)))))))] [ps 2 (sv (st ((([]:TX)++(Lib.repeatL ([100]:TX) ((min (0-m) 7).toNat)))++(Lib.itoa (x+1))))),ps 3 (iv 0)] (oc (by first|omega|(simp only [List.length_append,List.length_cons,List.length_nil];omega):((([]:TX).length+(Lib.repeatL ([100]:TX) ((min (0-m) 7).toNat)).length:Nat):Int)≤9223372036854775807) (oc (qy _ _:st ([]:TX)++st (Lib.repeatL ([100]:TX) ((min (0-m) 7).toNat))=st (([]:TX)++(Lib.repeatL ([100]:TX) ((min (0-m) 7).toNat)))) (oi (x+1) (by omega) (zO 560 (vF (x+1) (by omega) (by omega)) (oc (by first|omega|(simp only [List.length_append,List.length_cons,List.length_nil];omega):(((([]:TX)++(Lib.repeatL ([100]:TX) ((min (0-m) 7).toNat))).length+(Lib.itoa (x+1)).length:Nat):Int)≤9223372036854775807) (oc (qy _ _:st (([]:TX)++(Lib.repeatL ([100]:TX) ((min (0-m) 7).toNat)))++st (Lib.itoa (x+1))=st ((([]:TX)++(Lib.repeatL ([100]:TX) ((min (0-m) 7).toNat)))++(Lib.itoa (x+1)))) oz)))))) ?_
   rw [yI (s:=s) (h:=h) h1 (by omega) (Eq.trans (by rw [← hx,← hy]) (yL (by rw [← hm];exact (YJ h29 h31 h33)) h34))]
   exact qk hc0 [2,3] []
  refine qO (b:=(zN x)) rfl (Bool.eq_false_iff.2 h33)<|qB<|qH qD [.k3,.d,.n,.r] [ps 77 (bv (decide (m=(-1))))] ?_
  by_cases h35:m=(-1)
  ·refine qS (qT h35)<|qH qD [.k2,.d,.n,.d,.r] [ps 8 (sv (st ([109]:TX)))]<|qZ<|qB<|qB<|qH qD [.k3,.n,.r] [ps 82 (bv false)]<|qO (b:=false) rfl rfl<|qF<|qB<|zD qD [(2,.val (.av (.string (st (([]:TX)++([109]:TX)))))),(6,.call [] [(iv (x+1))] [] (sv (st (Lib.itoa (x+1)))) []),(7,.val (.av (.string (st ((([]:TX)++([109]:TX))++(Lib.itoa (x+1)))))))] [ps 2 (sv (st ((([]:TX)++([109]:TX))++(Lib.itoa (x+1))))),ps 3 (iv 0)] (oc (by first|omega|(simp <;> omega):((([]:TX).length+([109]:TX).length:Nat):Int)≤9223372036854775807) (oc (qy _ _:st ([]:TX)++st ([109]:TX)=st (([]:TX)++([109]:TX))) (oi (x+1) (by omega) (zO 552 (vF (x+1) (by omega) (by omega)) (oc (by first|omega|(simp <;> omega):(((([]:TX)++([109]:TX)).length+(Lib.itoa (x+1)).length:Nat):Int)≤9223372036854775807) (oc (qy _ _:st (([]:TX)++([109]:TX))++st (Lib.itoa (x+1))=st ((([]:TX)++([109]:TX))++(Lib.itoa (x+1)))) oz)))))) ?_
   rw [yI (s:=s) (h:=h) h1 (by omega) (Eq.trans (by rw [← hx,← hy]) (yL (q:=[109]) (by rw [← hm];exact (qce h35 h33)) (by decide)))]
   exact qk hc0 [2,3] []
  refine qR (qV h35)<|qQ qD [(4,.call [] [(sv (st ([100]:TX))),(nv ((min ((0-m)-1) 7).toNat))] [] (sv (st (Lib.repeatL ([100]:TX) ((min ((0-m)-1) 7).toNat)))) [])] [.k2,.d,.n,.d,.r] [ps 8 (sv (st (Lib.repeatL ([100]:TX) ((min ((0-m)-1) 7).toNat))))] (oi (0-m) (by omega) (oi ((0-m)-1) (by omega) (oc (wE ([100]:TX) ((min ((0-m)-1) 7).toNat) (by omega) (by simp only [List.length_cons,List.length_nil];omega)) (oc (congrArg (fun z=>[(sv (st ([100]:TX))),iv z]) (show min ((0-m)-1) 7=(((min ((0-m)-1) 7).toNat:Nat):Int) from by omega):[(sv (st ([100]:TX))),(iv (min ((0-m)-1) 7))]=vJ (yq [] 504) [(sv (st ([100]:TX))),(nv ((min ((0-m)-1) 7).toNat))]) oz)))) ?_
  refine qZ<|qB<|qB<|qH qD [.k3,.n,.r] [ps 82 (bv (decide (6<(((Lib.repeatL ([100]:TX) ((min ((0-m)-1) 7).toNat)).length:Nat):Int))))] ?_
  by_cases h36:6<(((Lib.repeatL ([100]:TX) ((min ((0-m)-1) 7).toNat)).length:Nat):Int)
  ·refine qS (qT h36)<|qB<|zD qD [] [ps 2 se,ps 3 (iv 3)] (oz) ?_
   rw [yI (s:=s) (h:=h) h1 (by omega) (Eq.trans (by rw [← hx,← hy]) (vX (by rw [← hm];exact (QS h29 h31 h33 h35)) h36))]
   exact qk hc0 [2,3] []
  refine qR (qV h36)<|qF<|qB<|zD qD [(2,.val (.av (.string (st (([]:TX)++(Lib.repeatL ([100]:TX) ((min ((0-m)-1) 7).toNat))))))),(6,.call [] [(iv (x+1))] [] (sv (st (Lib.itoa (x+1)))) []),(7,.val (.av (.string (st ((([]:TX)++(Lib.repeatL ([100]:TX) ((min ((0-m)-1) 7).toNat)))++(Lib.itoa (x+1)))))))] [ps 2 (sv (st ((([]:TX)++(Lib.repeatL ([100]:TX) ((min ((0-m)-1) 7).toNat)))++(Lib.itoa (x+1))))),ps 3 (iv 0)] (oc (by first|omega|(simp only [List.length_append,List.length_cons,List.length_nil];omega):((([]:TX).length+(Lib.repeatL ([100]:TX) ((min ((0-m)-1) 7).toNat)).length:Nat):Int)≤9223372036854775807) (oc (qy _ _:st ([]:TX)++st (Lib.repeatL ([100]:TX) ((min ((0-m)-1) 7).toNat))=st (([]:TX)++(Lib.repeatL ([100]:TX) ((min ((0-m)-1) 7).toNat)))) (oi (x+1) (by omega) (zO 592 (vF (x+1) (by omega) (by omega)) (oc (by first|omega|(simp only [List.length_append,List.length_cons,List.length_nil];omega):(((([]:TX)++(Lib.repeatL ([100]:TX) ((min ((0-m)-1) 7).toNat))).length+(Lib.itoa (x+1)).length:Nat):Int)≤9223372036854775807) (oc (qy _ _:st (([]:TX)++(Lib.repeatL ([100]:TX) ((min ((0-m)-1) 7).toNat)))++st (Lib.itoa (x+1))=st ((([]:TX)++(Lib.repeatL ([100]:TX) ((min ((0-m)-1) 7).toNat)))++(Lib.itoa (x+1)))) oz)))))) ?_
  rw [yI (s:=s) (h:=h) h1 (by omega) (Eq.trans (by rw [← hx,← hy]) (yL (by rw [← hm];exact (QS h29 h31 h33 h35)) h36))]
  exact qk hc0 [2,3] []
 refine qS (congrArg Bool.not (Bool.eq_false_iff.2 h1))<|qB<|zD qD [] [ps 2 se,ps 3 (iv 3)] (oz) ?_
 rw [qbk (s:=s) (h:=h) h1]
 exact qk hc0 [2,3] []
theorem named_pc0 (s:List UInt8) (hs:s.length≤9223372036854775807):PC Tryz.prog 139 [(sv (st s))] [] (.tup [(.agg [(iv ((qY s).1.1)),(iv ((qY s).1.2))]),(iv ((qY s).2))]) [none]:=by
 refine zG Tryz.func139 rfl (by kernel_rfl) (Nat.le_of_ble_eq_true rfl) (by kernel_rfl) (l0:=[ps 0 (sv (st s))]) rfl (fun c0 Bor hc0=>?_)
 refine qB<|qH qD [.k1,.n,.n] [ps 2 (.opt 0 0),pb 0 41 [(iv 0),(iv 0)]]<|qB ?_
 have hnn:=VH (qz s)
 have ht1:=qdv s
 have ht2:=qfe s
 have ht3:=qOf_le s
 have hnb:=Pi.nat7_range (((qI (qz s)).1-1) % 7)
 refine yC qD 1 [.k2,.n,.r] [ps 4 (sv (st (wv s)))] (zO 24 (qfl s [45]) oz)<|qB<|yC qD 1 [.k3,.n,.r] [ps 5 (sv (st (qz s)))] (zO 48 (qin (wv s) quals (by decide) qjf) oz)<|qB<|qQ qD [(6,.val (.av (.string (st (zL s)))))] [.k4,.n,.r] [ps 6 (sv (st (zL s)))] (oi ((((wv s).length:Nat):Int)-(((qz s).length:Nat):Int)) (by omega) (oc (by omega:(0:Int)≤(0:Int)∧(0:Int)≤((((wv s).length:Nat):Int)-(((qz s).length:Nat):Int))∧((((wv s).length:Nat):Int)-(((qz s).length:Nat):Int))≤(((wv s).length:Nat):Int)) (oc (q_cut s:(st (wv s)).extract ((0:Int):Int).toNat (((((wv s).length:Nat):Int)-(((qz s).length:Nat):Int)):Int).toNat=st (zL s)) oz)))<|qB<|yC qD 1 [.k3,.d,.k1,.n,.n,.r] [ps 7 (iv ((qI (qz s)).1)),ps 8 (bv ((qI (qz s)).2))] (zO 136 (qcl (qz s) (by omega)) oz)<|qB<|qB ?_
 by_cases h1:((qI (qz s)).2)=true
 ·by_cases h2:((qI (qz s)).1)<1
  ·refine qQ qD (gn 3 2++[(5,.yes false)]++gy 7 2++[(9,.yes true)]) [.k5,.d,.n,.r] [ps 40 (bv true)] (oc (congrArg Bool.not h1:(!((qI (qz s)).2))=false) (oc (congrArg Bool.not h1:(!((qI (qz s)).2))=false) (oc (congrArg Bool.not h1:(!((qI (qz s)).2))=false) (on 3 (qT h2) oz))))<|qL (b:=true) rfl rfl<|qB<|qH qD [.d,.k1,.n,.d,.d,.d,.d,.r] [ps 3 (iv 2)] ?_
   rw [vD (s:=s) (.inr (.inl h2))]
   exact qk hc0 [2,3] [0]
  refine qQ qD (gn 3 2++[(5,.yes false),(7,.gd false .no),(8,.gd false (.val (.av (.bool (decide ((zL s)=([]:TX))))))),(9,.yes false)]) [.k5,.d,.n,.r] [ps 40 (bv (decide ((zL s)=([]:TX))))] (oc (congrArg Bool.not h1:(!((qI (qz s)).2))=false) (oc (congrArg Bool.not h1:(!((qI (qz s)).2))=false) (oc (congrArg Bool.not h1:(!((qI (qz s)).2))=false) (on 2 (qV h2) (oc (qv _ _:((st (zL s)).toList == (st ([]:TX)).toList)=decide ((zL s)=([]:TX))) (oc (qV h2) oz)))))) ?_
  by_cases h3:(zL s)=([]:TX)
  ·refine qS (qT h3)<|qB<|qH qD [.d,.k1,.n,.d,.d,.d,.d,.r] [ps 3 (iv 2)] ?_
   rw [vD (s:=s) (.inr (.inr h3))]
   exact qk hc0 [2,3] [0]
  refine qR (qV h3)<|qF<|qB<|qB ?_
  by_cases h4:200<(((qI (qz s)).1)-1)
  ·refine qQ qD (gy 4 3++[(7,.yes true)]) [.k5,.d,.n,.r] [ps 49 (bv true)] (oi (((qI (qz s)).1)-1) (by omega) (on 4 (qT h4) oz))<|qL (b:=true) rfl rfl<|qB<|qH qD [.d,.k1,.n,.d,.d,.d,.d,.r] [ps 3 (iv 3)] ?_
   rw [wz (s:=s) h1 h2 h3 (.inl h4)]
   exact qk hc0 [2,3] [0]
  refine qQ qD (gn 4 3++[(7,.yes false)]) [.k5,.d,.n,.r] [ps 49 (bv (decide (6<(((zL s).length:Nat):Int))))] (oi (((qI (qz s)).1)-1) (by omega) (on 4 (qV h4) oz)) ?_
  by_cases h5:6<(((zL s).length:Nat):Int)
  ·refine qS (qT h5)<|qB<|qH qD [.d,.k1,.n,.d,.d,.d,.d,.r] [ps 3 (iv 3)] ?_
   rw [wz (s:=s) h1 h2 h3 (.inr h5)]
   exact qk hc0 [2,3] [0]
  refine qR (qV h5)<|qF<|qB<|qQ qD [(2,.call [] [(iv (((qI (qz s)).1)-1)),(iv 7)] [] (.tup [(iv ((((qI (qz s)).1)-1) / 7)),(iv ((((qI (qz s)).1)-1) % 7))]) [])] [.k5,.n,.n,.d,.r] [ps 9 (iv ((((qI (qz s)).1)-1) / 7)),ps 10 (iv ((((qI (qz s)).1)-1) % 7))] (oi (((qI (qz s)).1)-1) (by omega) (zO 344 (YZ (((qI (qz s)).1)-1) (by omega) (by omega)) oz))<|qB<|qQ qD [(5,.call [] [(iv ((((qI (qz s)).1)-1) % 7))] [] (iv (Pi.nat7 ((((qI (qz s)).1)-1) % 7))) [])] [.k5,.d,.d,.n,.k1,.n] [ps 11 (.opt 456 0),pb 456 41 [(iv (((qI (qz s)).1)-1)),(iv ((12*((((qI (qz s)).1)-1) / 7))+(Pi.nat7 ((((qI (qz s)).1)-1) % 7))))]] (oi (((qI (qz s)).1)-1) (by omega) (oi (12*((((qI (qz s)).1)-1) / 7)) (by omega) (zO 432 (ZS ((((qI (qz s)).1)-1) % 7)) (oi ((12*((((qI (qz s)).1)-1) / 7))+(Pi.nat7 ((((qI (qz s)).1)-1) % 7))) (by omega) oz))))<|qB<|qH qD [.k6,.n,.r] [ps 12 (nv ((zL s).length))]<|qB<|qX<|qB<|qB ?_
  by_cases h6:(zL s)=([80]:TX)
  ·refine qQ qD ([(1,.val (.av (.bool (decide ((zL s)=([80]:TX))))))]++gy 3 2++[(5,.gd true (.call [] [(iv (((qI (qz s)).1)-1))] [] (bv (zN (((qI (qz s)).1)-1))) [])),(6,.yes true)]) [.k7,.n,.r] [ps 68 (bv (zN (((qI (qz s)).1)-1)))] (oc (qv _ _:((st (zL s)).toList == (st ([80]:TX)).toList)=decide ((zL s)=([80]:TX))) (on 2 (qT h6) (oi (((qI (qz s)).1)-1) (by omega) (oc (qT h6) (zO 536 (yQ (((qI (qz s)).1)-1) (by omega)) (oc (qT h6) oz)))))) ?_
   by_cases h7:(zN (((qI (qz s)).1)-1))=true
   ·refine qL (b:=(zN (((qI (qz s)).1)-1))) rfl h7<|qF<|qL (b:=(zN (((qI (qz s)).1)-1))) rfl h7<|qF<|qZ<|qB<|qB<|qH qD [.k2,.d,.d,.d,.k1,.d,.d,.n,.r] [ps 134 (bv (decide ((((wv s).length:Nat):Int)<(s.length:Int))))] ?_
    by_cases h8:(((wv s).length:Nat):Int)<(s.length:Int)
    ·refine qS (qT h8)<|qQ qD [] [.k3,.d,.k1,.d,.n] [pb 456 41 [(iv (0-(((qI (qz s)).1)-1))),(iv (0-((12*((((qI (qz s)).1)-1) / 7))+(Pi.nat7 ((((qI (qz s)).1)-1) % 7)))))]] (oi (0-(((qI (qz s)).1)-1)) (by omega) (oi (0-((12*((((qI (qz s)).1)-1) / 7))+(Pi.nat7 ((((qI (qz s)).1)-1) % 7)))) (by omega) oz))<|qB<|qB ?_
     obtain ⟨x,hx⟩:∃ x,x=0-(((qI (qz s)).1)-1):=⟨_,rfl⟩
     obtain ⟨y,hy⟩:∃ y,y=0-((12*((((qI (qz s)).1)-1) / 7))+(Pi.nat7 ((((qI (qz s)).1)-1) % 7))):=⟨_,rfl⟩
     refine qj (Wk.eq (show _=[ps 0 (sv (st s)),ps 2 (.opt 0 0),ps 11 (.opt 456 0),pb 0 41 [(iv 0),(iv 0)],pb 456 41 [(iv x),(iv y)]] from by rw [hx,hy])) ?_
     refine yC qD 1 [.k3,.n,.n,.r] [ps 13 (sv (st ((qG x y).1))),ps 14 (iv ((qG x y).2))] (zO 688 (yK x y (by unfold Pi.I64;omega) (by unfold Pi.I64;omega)) oz)<|qB ?_
     by_cases h9:((qG x y).2)=0
     ·refine qQ qD (gn 3 2++[(5,.gd false (.val (.av (.bool (!decide (((qG x y).1)=s)))))),(6,.yes false)]) [.d,.k2,.d,.d,.n,.r] [ps 154 (bv (!(decide (((qG x y).1)=s))))] (on 3 (bt h9) (oc (yW _ _:(!((st ((qG x y).1)).toList == (st s).toList)) = !decide (((qG x y).1)=s)) (oc (bt h9) oz))) ?_
      by_cases h10:((qG x y).1)=s
      ·refine qR (bt h10)<|qF<|qB<|zD qD [] [ps 2 (.opt 0 0),ps 3 (iv 0),pb 0 41 [(iv x),(iv y)]] (oz) ?_
       rw [(qM (s:=s) h1 h2 h3 h4 h5 (qfv h6 h7) (j:=(x,y)) (by unfold vZ qU;rw [if_pos (by omega)];exact Prod.ext (by show _=x;omega) (by show _=y;omega))).trans (zH h9 h10)]
       exact qk hc0 [2,3] [0]
      refine qS (bf h10)<|qB<|qH qD [.k1,.n,.d,.d,.k1,.d] [ps 3 (iv 2)] ?_
      rw [(qM (s:=s) h1 h2 h3 h4 h5 (qfv h6 h7) (j:=(x,y)) (by unfold vZ qU;rw [if_pos (by omega)];exact Prod.ext (by show _=x;omega) (by show _=y;omega))).trans (zJ h10)]
      exact qk hc0 [2,3] [0]
     refine qQ qD (gy 3 3++[(6,.yes true)]) [.d,.k2,.d,.d,.n,.r] [ps 154 (bv true)] (on 4 (bf h9) oz)<|qL (b:=true) rfl rfl<|qB<|qH qD [.k1,.n,.d,.d,.k1,.d] [ps 3 (iv 2)] ?_
     rw [(qM (s:=s) h1 h2 h3 h4 h5 (qfv h6 h7) (j:=(x,y)) (by unfold vZ qU;rw [if_pos (by omega)];exact Prod.ext (by show _=x;omega) (by show _=y;omega))).trans (zK h9)]
     exact qk hc0 [2,3] [0]
    refine qR (qV h8)<|qF<|qB<|qB ?_
    obtain ⟨x,hx⟩:∃ x,x=((qI (qz s)).1)-1:=⟨_,rfl⟩
    obtain ⟨y,hy⟩:∃ y,y=(12*((((qI (qz s)).1)-1) / 7))+(Pi.nat7 ((((qI (qz s)).1)-1) % 7)):=⟨_,rfl⟩
    refine qj (Wk.eq (show _=[ps 0 (sv (st s)),ps 2 (.opt 0 0),ps 11 (.opt 456 0),ps 134 (bv (decide ((((wv s).length:Nat):Int)<(s.length:Int)))),pb 0 41 [(iv 0),(iv 0)],pb 456 41 [(iv x),(iv y)]] from by rw [hx,hy])) ?_
    refine yC qD 1 [.k3,.n,.n,.d,.r] [ps 13 (sv (st ((qG x y).1))),ps 14 (iv ((qG x y).2))] (zO 608 (yK x y (by unfold Pi.I64;omega) (by unfold Pi.I64;omega)) oz)<|qB ?_
    by_cases h11:((qG x y).2)=0
    ·refine qQ qD (gn 3 2++[(5,.gd false (.val (.av (.bool (!decide (((qG x y).1)=s)))))),(6,.yes false)]) [.d,.k2,.d,.d,.n,.r] [ps 154 (bv (!(decide (((qG x y).1)=s))))] (on 3 (bt h11) (oc (yW _ _:(!((st ((qG x y).1)).toList == (st s).toList)) = !decide (((qG x y).1)=s)) (oc (bt h11) oz))) ?_
     by_cases h12:((qG x y).1)=s
     ·refine qR (bt h12)<|qF<|qB<|zD qD [] [ps 2 (.opt 0 0),ps 3 (iv 0),pb 0 41 [(iv x),(iv y)]] (oz) ?_
      rw [(qM (s:=s) h1 h2 h3 h4 h5 (qfv h6 h7) (j:=(x,y)) (by unfold vZ qU;rw [if_neg (by omega)];exact Prod.ext (by show _=x;omega) (by show _=y;omega))).trans (zH h11 h12)]
      exact qk hc0 [2,3] [0]
     refine qS (bf h12)<|qB<|qH qD [.k1,.n,.d,.d,.k1,.d] [ps 3 (iv 2)] ?_
     rw [(qM (s:=s) h1 h2 h3 h4 h5 (qfv h6 h7) (j:=(x,y)) (by unfold vZ qU;rw [if_neg (by omega)];exact Prod.ext (by show _=x;omega) (by show _=y;omega))).trans (zJ h12)]
     exact qk hc0 [2,3] [0]
    refine qQ qD (gy 3 3++[(6,.yes true)]) [.d,.k2,.d,.d,.n,.r] [ps 154 (bv true)] (on 4 (bf h11) oz)<|qL (b:=true) rfl rfl<|qB<|qH qD [.k1,.n,.d,.d,.k1,.d] [ps 3 (iv 2)] ?_
    rw [(qM (s:=s) h1 h2 h3 h4 h5 (qfv h6 h7) (j:=(x,y)) (by unfold vZ qU;rw [if_neg (by omega)];exact Prod.ext (by show _=x;omega) (by show _=y;omega))).trans (zK h11)]
    exact qk hc0 [2,3] [0]
   refine qO (b:=(zN (((qI (qz s)).1)-1))) rfl (Bool.eq_false_iff.2 h7) ?_
   by_cases h13:(zL s)=([77]:TX)
   ·refine qQ qD ([(1,.val (.av (.bool (decide ((zL s)=([77]:TX))))))]++gy 3 2++[(5,.gd true (.call [] [(iv (((qI (qz s)).1)-1))] [] (bv (zN (((qI (qz s)).1)-1))) [])),(6,.gd true .no),(7,.yes true)]) [.k7,.d,.n,.r] [ps 68 (bv (!(zN (((qI (qz s)).1)-1))))] (oc (qv _ _:((st (zL s)).toList == (st ([77]:TX)).toList)=decide ((zL s)=([77]:TX))) (on 2 (qT h13) (oi (((qI (qz s)).1)-1) (by omega) (oc (qT h13) (zO 600 (yQ (((qI (qz s)).1)-1) (by omega)) (on 2 (qT h13) oz))))))<|qS (congrArg Bool.not (Bool.eq_false_iff.2 h7))<|qF<|qZ<|qB<|qB<|qH qD [.k2,.d,.d,.d,.k1,.d,.d,.n,.r] [ps 134 (bv (decide ((((wv s).length:Nat):Int)<(s.length:Int))))] ?_
    by_cases h14:(((wv s).length:Nat):Int)<(s.length:Int)
    ·refine qS (qT h14)<|qQ qD [] [.k3,.d,.k1,.d,.n] [pb 456 41 [(iv (0-(((qI (qz s)).1)-1))),(iv (0-((12*((((qI (qz s)).1)-1) / 7))+(Pi.nat7 ((((qI (qz s)).1)-1) % 7)))))]] (oi (0-(((qI (qz s)).1)-1)) (by omega) (oi (0-((12*((((qI (qz s)).1)-1) / 7))+(Pi.nat7 ((((qI (qz s)).1)-1) % 7)))) (by omega) oz))<|qB<|qB ?_
     obtain ⟨x,hx⟩:∃ x,x=0-(((qI (qz s)).1)-1):=⟨_,rfl⟩
     obtain ⟨y,hy⟩:∃ y,y=0-((12*((((qI (qz s)).1)-1) / 7))+(Pi.nat7 ((((qI (qz s)).1)-1) % 7))):=⟨_,rfl⟩
     refine qj (Wk.eq (show _=[ps 0 (sv (st s)),ps 2 (.opt 0 0),ps 11 (.opt 456 0),pb 0 41 [(iv 0),(iv 0)],pb 456 41 [(iv x),(iv y)]] from by rw [hx,hy])) ?_
     refine yC qD 1 [.k3,.n,.n,.r] [ps 13 (sv (st ((qG x y).1))),ps 14 (iv ((qG x y).2))] (zO 760 (yK x y (by unfold Pi.I64;omega) (by unfold Pi.I64;omega)) oz)<|qB ?_
     by_cases h15:((qG x y).2)=0
     ·refine qQ qD (gn 3 2++[(5,.gd false (.val (.av (.bool (!decide (((qG x y).1)=s)))))),(6,.yes false)]) [.d,.k2,.d,.d,.n,.r] [ps 154 (bv (!(decide (((qG x y).1)=s))))] (on 3 (bt h15) (oc (yW _ _:(!((st ((qG x y).1)).toList == (st s).toList)) = !decide (((qG x y).1)=s)) (oc (bt h15) oz))) ?_
      by_cases h16:((qG x y).1)=s
      ·refine qR (bt h16)<|qF<|qB<|zD qD [] [ps 2 (.opt 0 0),ps 3 (iv 0),pb 0 41 [(iv x),(iv y)]] (oz) ?_
       rw [(qM (s:=s) h1 h2 h3 h4 h5 (VT h13 h7) (j:=(x,y)) (by unfold vZ qU;rw [if_pos (by omega)];exact Prod.ext (by show _=x;omega) (by show _=y;omega))).trans (zH h15 h16)]
       exact qk hc0 [2,3] [0]
      refine qS (bf h16)<|qB<|qH qD [.k1,.n,.d,.d,.k1,.d] [ps 3 (iv 2)] ?_
      rw [(qM (s:=s) h1 h2 h3 h4 h5 (VT h13 h7) (j:=(x,y)) (by unfold vZ qU;rw [if_pos (by omega)];exact Prod.ext (by show _=x;omega) (by show _=y;omega))).trans (zJ h16)]
      exact qk hc0 [2,3] [0]
     refine qQ qD (gy 3 3++[(6,.yes true)]) [.d,.k2,.d,.d,.n,.r] [ps 154 (bv true)] (on 4 (bf h15) oz)<|qL (b:=true) rfl rfl<|qB<|qH qD [.k1,.n,.d,.d,.k1,.d] [ps 3 (iv 2)] ?_
     rw [(qM (s:=s) h1 h2 h3 h4 h5 (VT h13 h7) (j:=(x,y)) (by unfold vZ qU;rw [if_pos (by omega)];exact Prod.ext (by show _=x;omega) (by show _=y;omega))).trans (zK h15)]
     exact qk hc0 [2,3] [0]
    refine qR (qV h14)<|qF<|qB<|qB ?_
    obtain ⟨x,hx⟩:∃ x,x=((qI (qz s)).1)-1:=⟨_,rfl⟩
    obtain ⟨y,hy⟩:∃ y,y=(12*((((qI (qz s)).1)-1) / 7))+(Pi.nat7 ((((qI (qz s)).1)-1) % 7)):=⟨_,rfl⟩
    refine qj (Wk.eq (show _=[ps 0 (sv (st s)),ps 2 (.opt 0 0),ps 11 (.opt 456 0),ps 134 (bv (decide ((((wv s).length:Nat):Int)<(s.length:Int)))),pb 0 41 [(iv 0),(iv 0)],pb 456 41 [(iv x),(iv y)]] from by rw [hx,hy])) ?_
    refine yC qD 1 [.k3,.n,.n,.d,.r] [ps 13 (sv (st ((qG x y).1))),ps 14 (iv ((qG x y).2))] (zO 680 (yK x y (by unfold Pi.I64;omega) (by unfold Pi.I64;omega)) oz)<|qB ?_
    by_cases h17:((qG x y).2)=0
    ·refine qQ qD (gn 3 2++[(5,.gd false (.val (.av (.bool (!decide (((qG x y).1)=s)))))),(6,.yes false)]) [.d,.k2,.d,.d,.n,.r] [ps 154 (bv (!(decide (((qG x y).1)=s))))] (on 3 (bt h17) (oc (yW _ _:(!((st ((qG x y).1)).toList == (st s).toList)) = !decide (((qG x y).1)=s)) (oc (bt h17) oz))) ?_
     by_cases h18:((qG x y).1)=s
     ·refine qR (bt h18)<|qF<|qB<|zD qD [] [ps 2 (.opt 0 0),ps 3 (iv 0),pb 0 41 [(iv x),(iv y)]] (oz) ?_
      rw [(qM (s:=s) h1 h2 h3 h4 h5 (VT h13 h7) (j:=(x,y)) (by unfold vZ qU;rw [if_neg (by omega)];exact Prod.ext (by show _=x;omega) (by show _=y;omega))).trans (zH h17 h18)]
      exact qk hc0 [2,3] [0]
     refine qS (bf h18)<|qB<|qH qD [.k1,.n,.d,.d,.k1,.d] [ps 3 (iv 2)] ?_
     rw [(qM (s:=s) h1 h2 h3 h4 h5 (VT h13 h7) (j:=(x,y)) (by unfold vZ qU;rw [if_neg (by omega)];exact Prod.ext (by show _=x;omega) (by show _=y;omega))).trans (zJ h18)]
     exact qk hc0 [2,3] [0]
    refine qQ qD (gy 3 3++[(6,.yes true)]) [.d,.k2,.d,.d,.n,.r] [ps 154 (bv true)] (on 4 (bf h17) oz)<|qL (b:=true) rfl rfl<|qB<|qH qD [.k1,.n,.d,.d,.k1,.d] [ps 3 (iv 2)] ?_
    rw [(qM (s:=s) h1 h2 h3 h4 h5 (VT h13 h7) (j:=(x,y)) (by unfold vZ qU;rw [if_neg (by omega)];exact Prod.ext (by show _=x;omega) (by show _=y;omega))).trans (zK h17)]
    exact qk hc0 [2,3] [0]
   refine qQ qD ([(1,.val (.av (.bool (decide ((zL s)=([77]:TX))))))]++gn 3 4++[(7,.yes false)]) [.k7,.d,.n,.r] [ps 68 (bv false)] (oc (qv _ _:((st (zL s)).toList == (st ([77]:TX)).toList)=decide ((zL s)=([77]:TX))) (on 5 (qV h13) oz))<|qO (b:=false) rfl rfl<|qB ?_
   by_cases h19:(zL s)=([109]:TX)
   ·refine qQ qD ([(1,.val (.av (.bool (decide ((zL s)=([109]:TX))))))]++gy 3 2++[(5,.gd true (.call [] [(iv (((qI (qz s)).1)-1))] [] (bv (zN (((qI (qz s)).1)-1))) [])),(6,.gd true .no),(7,.yes true)]) [.k7,.d,.n,.r] [ps 84 (bv (!(zN (((qI (qz s)).1)-1))))] (oc (qv _ _:((st (zL s)).toList == (st ([109]:TX)).toList)=decide ((zL s)=([109]:TX))) (on 2 (qT h19) (oi (((qI (qz s)).1)-1) (by omega) (oc (qT h19) (zO 672 (yQ (((qI (qz s)).1)-1) (by omega)) (on 2 (qT h19) oz))))))<|qS (congrArg Bool.not (Bool.eq_false_iff.2 h7))<|qQ qD [] [.k3,.d,.d,.k1,.d,.d,.k1,.d,.n] [pb 456 41 [(iv (((qI (qz s)).1)-1)),(iv (((12*((((qI (qz s)).1)-1) / 7))+(Pi.nat7 ((((qI (qz s)).1)-1) % 7)))-1))]] (oi (((12*((((qI (qz s)).1)-1) / 7))+(Pi.nat7 ((((qI (qz s)).1)-1) % 7)))-1) (by omega) oz)<|qZ<|qB<|qB<|qH qD [.k2,.d,.k1,.n,.r] [ps 134 (bv (decide ((((wv s).length:Nat):Int)<(s.length:Int))))] ?_
    by_cases h20:(((wv s).length:Nat):Int)<(s.length:Int)
    ·refine qS (qT h20)<|qQ qD [] [.k3,.d,.k1,.d,.n] [pb 456 41 [(iv (0-(((qI (qz s)).1)-1))),(iv (0-(((12*((((qI (qz s)).1)-1) / 7))+(Pi.nat7 ((((qI (qz s)).1)-1) % 7)))-1)))]] (oi (0-(((qI (qz s)).1)-1)) (by omega) (oi (0-(((12*((((qI (qz s)).1)-1) / 7))+(Pi.nat7 ((((qI (qz s)).1)-1) % 7)))-1)) (by omega) oz))<|qB<|qB ?_
     obtain ⟨x,hx⟩:∃ x,x=0-(((qI (qz s)).1)-1):=⟨_,rfl⟩
     obtain ⟨y,hy⟩:∃ y,y=0-(((12*((((qI (qz s)).1)-1) / 7))+(Pi.nat7 ((((qI (qz s)).1)-1) % 7)))-1):=⟨_,rfl⟩
     refine qj (Wk.eq (show _=[ps 0 (sv (st s)),ps 2 (.opt 0 0),ps 11 (.opt 456 0),pb 0 41 [(iv 0),(iv 0)],pb 456 41 [(iv x),(iv y)]] from by rw [hx,hy])) ?_
     refine yC qD 1 [.k3,.n,.n,.r] [ps 13 (sv (st ((qG x y).1))),ps 14 (iv ((qG x y).2))] (zO 872 (yK x y (by unfold Pi.I64;omega) (by unfold Pi.I64;omega)) oz)<|qB ?_
     by_cases h21:((qG x y).2)=0
     ·refine qQ qD (gn 3 2++[(5,.gd false (.val (.av (.bool (!decide (((qG x y).1)=s)))))),(6,.yes false)]) [.d,.k2,.d,.d,.n,.r] [ps 154 (bv (!(decide (((qG x y).1)=s))))] (on 3 (bt h21) (oc (yW _ _:(!((st ((qG x y).1)).toList == (st s).toList)) = !decide (((qG x y).1)=s)) (oc (bt h21) oz))) ?_
      by_cases h22:((qG x y).1)=s
      ·refine qR (bt h22)<|qF<|qB<|zD qD [] [ps 2 (.opt 0 0),ps 3 (iv 0),pb 0 41 [(iv x),(iv y)]] (oz) ?_
       rw [(qM (s:=s) h1 h2 h3 h4 h5 (VS (fun c=>h7 c.2) (fun c=>h13 c.1) h19 h7) (j:=(x,y)) (by unfold vZ qU;rw [if_pos (by omega)];exact Prod.ext (by show _=x;omega) (by show _=y;omega))).trans (zH h21 h22)]
       exact qk hc0 [2,3] [0]
      refine qS (bf h22)<|qB<|qH qD [.k1,.n,.d,.d,.k1,.d] [ps 3 (iv 2)] ?_
      rw [(qM (s:=s) h1 h2 h3 h4 h5 (VS (fun c=>h7 c.2) (fun c=>h13 c.1) h19 h7) (j:=(x,y)) (by unfold vZ qU;rw [if_pos (by omega)];exact Prod.ext (by show _=x;omega) (by show _=y;omega))).trans (zJ h22)]
      exact qk hc0 [2,3] [0]
     refine qQ qD (gy 3 3++[(6,.yes true)]) [.d,.k2,.d,.d,.n,.r] [ps 154 (bv true)] (on 4 (bf h21) oz)<|qL (b:=true) rfl rfl<|qB<|qH qD [.k1,.n,.d,.d,.k1,.d] [ps 3 (iv 2)] ?_
     rw [(qM (s:=s) h1 h2 h3 h4 h5 (VS (fun c=>h7 c.2) (fun c=>h13 c.1) h19 h7) (j:=(x,y)) (by unfold vZ qU;rw [if_pos (by omega)];exact Prod.ext (by show _=x;omega) (by show _=y;omega))).trans (zK h21)]
     exact qk hc0 [2,3] [0]
    refine qR (qV h20)<|qF<|qB<|qB ?_
    obtain ⟨x,hx⟩:∃ x,x=((qI (qz s)).1)-1:=⟨_,rfl⟩
    obtain ⟨y,hy⟩:∃ y,y=((12*((((qI (qz s)).1)-1) / 7))+(Pi.nat7 ((((qI (qz s)).1)-1) % 7)))-1:=⟨_,rfl⟩
    refine qj (Wk.eq (show _=[ps 0 (sv (st s)),ps 2 (.opt 0 0),ps 11 (.opt 456 0),ps 134 (bv (decide ((((wv s).length:Nat):Int)<(s.length:Int)))),pb 0 41 [(iv 0),(iv 0)],pb 456 41 [(iv x),(iv y)]] from by rw [hx,hy])) ?_
    refine yC qD 1 [.k3,.n,.n,.d,.r] [ps 13 (sv (st ((qG x y).1))),ps 14 (iv ((qG x y).2))] (zO 792 (yK x y (by unfold Pi.I64;omega) (by unfold Pi.I64;omega)) oz)<|qB ?_
    by_cases h23:((qG x y).2)=0
    ·refine qQ qD (gn 3 2++[(5,.gd false (.val (.av (.bool (!decide (((qG x y).1)=s)))))),(6,.yes false)]) [.d,.k2,.d,.d,.n,.r] [ps 154 (bv (!(decide (((qG x y).1)=s))))] (on 3 (bt h23) (oc (yW _ _:(!((st ((qG x y).1)).toList == (st s).toList)) = !decide (((qG x y).1)=s)) (oc (bt h23) oz))) ?_
     by_cases h24:((qG x y).1)=s
     ·refine qR (bt h24)<|qF<|qB<|zD qD [] [ps 2 (.opt 0 0),ps 3 (iv 0),pb 0 41 [(iv x),(iv y)]] (oz) ?_
      rw [(qM (s:=s) h1 h2 h3 h4 h5 (VS (fun c=>h7 c.2) (fun c=>h13 c.1) h19 h7) (j:=(x,y)) (by unfold vZ qU;rw [if_neg (by omega)];exact Prod.ext (by show _=x;omega) (by show _=y;omega))).trans (zH h23 h24)]
      exact qk hc0 [2,3] [0]
     refine qS (bf h24)<|qB<|qH qD [.k1,.n,.d,.d,.k1,.d] [ps 3 (iv 2)] ?_
     rw [(qM (s:=s) h1 h2 h3 h4 h5 (VS (fun c=>h7 c.2) (fun c=>h13 c.1) h19 h7) (j:=(x,y)) (by unfold vZ qU;rw [if_neg (by omega)];exact Prod.ext (by show _=x;omega) (by show _=y;omega))).trans (zJ h24)]
     exact qk hc0 [2,3] [0]
    refine qQ qD (gy 3 3++[(6,.yes true)]) [.d,.k2,.d,.d,.n,.r] [ps 154 (bv true)] (on 4 (bf h23) oz)<|qL (b:=true) rfl rfl<|qB<|qH qD [.k1,.n,.d,.d,.k1,.d] [ps 3 (iv 2)] ?_
    rw [(qM (s:=s) h1 h2 h3 h4 h5 (VS (fun c=>h7 c.2) (fun c=>h13 c.1) h19 h7) (j:=(x,y)) (by unfold vZ qU;rw [if_neg (by omega)];exact Prod.ext (by show _=x;omega) (by show _=y;omega))).trans (zK h23)]
    exact qk hc0 [2,3] [0]
   refine qQ qD ([(1,.val (.av (.bool (decide ((zL s)=([109]:TX))))))]++gn 3 4++[(7,.yes false)]) [.k7,.d,.n,.r] [ps 84 (bv false)] (oc (qv _ _:((st (zL s)).toList == (st ([109]:TX)).toList)=decide ((zL s)=([109]:TX))) (on 5 (qV h19) oz))<|qO (b:=false) rfl rfl<|qB<|qQ qD [(1,.call [] [(sv (st (zL s))),(sv (st [65]))] [] (sv (st (Lib.trimS (zL s) [65]))) []),(2,.val (.av (.bool (decide ((Lib.trimS (zL s) [65])=([]:TX))))))] [.k7,.d,.n,.r] [ps 97 (bv (decide ((Lib.trimS (zL s) [65])=([]:TX))))] (zO 712 (yR (zL s) [65] (by omega) (by decide) (yN (by decide))) (oc (qv _ _:((st (Lib.trimS (zL s) [65])).toList == (st ([]:TX)).toList)=decide ((Lib.trimS (zL s) [65])=([]:TX))) oz)) ?_
   by_cases h25:(Lib.trimS (zL s) [65])=([]:TX)
   ·refine qS (qT h25)<|qQ qD [] [.k3,.d,.d,.k1,.d,.d,.k1,.d,.n] [pb 456 41 [(iv (((qI (qz s)).1)-1)),(iv (((12*((((qI (qz s)).1)-1) / 7))+(Pi.nat7 ((((qI (qz s)).1)-1) % 7)))+(((zL s).length:Nat):Int)))]] (oi (((12*((((qI (qz s)).1)-1) / 7))+(Pi.nat7 ((((qI (qz s)).1)-1) % 7)))+(((zL s).length:Nat):Int)) (by omega) oz)<|qZ<|qB<|qB<|qH qD [.k2,.d,.k1,.n,.r] [ps 134 (bv (decide ((((wv s).length:Nat):Int)<(s.length:Int))))] ?_
    by_cases h26:(((wv s).length:Nat):Int)<(s.length:Int)
    ·refine qS (qT h26)<|qQ qD [] [.k3,.d,.k1,.d,.n] [pb 456 41 [(iv (0-(((qI (qz s)).1)-1))),(iv (0-(((12*((((qI (qz s)).1)-1) / 7))+(Pi.nat7 ((((qI (qz s)).1)-1) % 7)))+(((zL s).length:Nat):Int))))]] (oi (0-(((qI (qz s)).1)-1)) (by omega) (oi (0-(((12*((((qI (qz s)).1)-1) / 7))+(Pi.nat7 ((((qI (qz s)).1)-1) % 7)))+(((zL s).length:Nat):Int))) (by omega) oz))<|qB<|qB ?_
     obtain ⟨x,hx⟩:∃ x,x=0-(((qI (qz s)).1)-1):=⟨_,rfl⟩
     obtain ⟨y,hy⟩:∃ y,y=0-(((12*((((qI (qz s)).1)-1) / 7))+(Pi.nat7 ((((qI (qz s)).1)-1) % 7)))+(((zL s).length:Nat):Int)):=⟨_,rfl⟩
     refine qj (Wk.eq (show _=[ps 0 (sv (st s)),ps 2 (.opt 0 0),ps 11 (.opt 456 0),pb 0 41 [(iv 0),(iv 0)],pb 456 41 [(iv x),(iv y)]] from by rw [hx,hy])) ?_
     refine yC qD 1 [.k3,.n,.n,.r] [ps 13 (sv (st ((qG x y).1))),ps 14 (iv ((qG x y).2))] (zO 912 (yK x y (by unfold Pi.I64;omega) (by unfold Pi.I64;omega)) oz)<|qB ?_
     by_cases h27:((qG x y).2)=0
     ·refine qQ qD (gn 3 2++[(5,.gd false (.val (.av (.bool (!decide (((qG x y).1)=s)))))),(6,.yes false)]) [.d,.k2,.d,.d,.n,.r] [ps 154 (bv (!(decide (((qG x y).1)=s))))] (on 3 (bt h27) (oc (yW _ _:(!((st ((qG x y).1)).toList == (st s).toList)) = !decide (((qG x y).1)=s)) (oc (bt h27) oz))) ?_
      by_cases h28:((qG x y).1)=s
      ·refine qR (bt h28)<|qF<|qB<|zD qD [] [ps 2 (.opt 0 0),ps 3 (iv 0),pb 0 41 [(iv x),(iv y)]] (oz) ?_
       rw [(qM (s:=s) h1 h2 h3 h4 h5 (wD (fun c=>h7 c.2) (fun c=>h13 c.1) (fun c=>h19 c.1) h25) (j:=(x,y)) (by unfold vZ qU;rw [if_pos (by omega)];exact Prod.ext (by show _=x;omega) (by show _=y;omega))).trans (zH h27 h28)]
       exact qk hc0 [2,3] [0]
      refine qS (bf h28)<|qB<|qH qD [.k1,.n,.d,.d,.k1,.d] [ps 3 (iv 2)] ?_
      rw [(qM (s:=s) h1 h2 h3 h4 h5 (wD (fun c=>h7 c.2) (fun c=>h13 c.1) (fun c=>h19 c.1) h25) (j:=(x,y)) (by unfold vZ qU;rw [if_pos (by omega)];exact Prod.ext (by show _=x;omega) (by show _=y;omega))).trans (zJ h28)]
      exact qk hc0 [2,3] [0]
     refine qQ qD (gy 3 3++[(6,.yes true)]) [.d,.k2,.d,.d,.n,.r] [ps 154 (bv true)] (on 4 (bf h27) oz)<|qL (b:=true) rfl rfl<|qB<|qH qD [.k1,.n,.d,.d,.k1,.d] [ps 3 (iv 2)] ?_
     rw [(qM (s:=s) h1 h2 h3 h4 h5 (wD (fun c=>h7 c.2) (fun c=>h13 c.1) (fun c=>h19 c.1) h25) (j:=(x,y)) (by unfold vZ qU;rw [if_pos (by omega)];exact Prod.ext (by show _=x;omega) (by show _=y;omega))).trans (zK h27)]
     exact qk hc0 [2,3] [0]
    refine qR (qV h26)<|qF<|qB<|qB ?_
    obtain ⟨x,hx⟩:∃ x,x=((qI (qz s)).1)-1:=⟨_,rfl⟩
    obtain ⟨y,hy⟩:∃ y,y=((12*((((qI (qz s)).1)-1) / 7))+(Pi.nat7 ((((qI (qz s)).1)-1) % 7)))+(((zL s).length:Nat):Int):=⟨_,rfl⟩
    refine qj (Wk.eq (show _=[ps 0 (sv (st s)),ps 2 (.opt 0 0),ps 11 (.opt 456 0),ps 134 (bv (decide ((((wv s).length:Nat):Int)<(s.length:Int)))),pb 0 41 [(iv 0),(iv 0)],pb 456 41 [(iv x),(iv y)]] from by rw [hx,hy])) ?_
    refine yC qD 1 [.k3,.n,.n,.d,.r] [ps 13 (sv (st ((qG x y).1))),ps 14 (iv ((qG x y).2))] (zO 832 (yK x y (by unfold Pi.I64;omega) (by unfold Pi.I64;omega)) oz)<|qB ?_
    by_cases h29:((qG x y).2)=0
    ·refine qQ qD (gn 3 2++[(5,.gd false (.val (.av (.bool (!decide (((qG x y).1)=s)))))),(6,.yes false)]) [.d,.k2,.d,.d,.n,.r] [ps 154 (bv (!(decide (((qG x y).1)=s))))] (on 3 (bt h29) (oc (yW _ _:(!((st ((qG x y).1)).toList == (st s).toList)) = !decide (((qG x y).1)=s)) (oc (bt h29) oz))) ?_
     by_cases h30:((qG x y).1)=s
     ·refine qR (bt h30)<|qF<|qB<|zD qD [] [ps 2 (.opt 0 0),ps 3 (iv 0),pb 0 41 [(iv x),(iv y)]] (oz) ?_
      rw [(qM (s:=s) h1 h2 h3 h4 h5 (wD (fun c=>h7 c.2) (fun c=>h13 c.1) (fun c=>h19 c.1) h25) (j:=(x,y)) (by unfold vZ qU;rw [if_neg (by omega)];exact Prod.ext (by show _=x;omega) (by show _=y;omega))).trans (zH h29 h30)]
      exact qk hc0 [2,3] [0]
     refine qS (bf h30)<|qB<|qH qD [.k1,.n,.d,.d,.k1,.d] [ps 3 (iv 2)] ?_
     rw [(qM (s:=s) h1 h2 h3 h4 h5 (wD (fun c=>h7 c.2) (fun c=>h13 c.1) (fun c=>h19 c.1) h25) (j:=(x,y)) (by unfold vZ qU;rw [if_neg (by omega)];exact Prod.ext (by show _=x;omega) (by show _=y;omega))).trans (zJ h30)]
     exact qk hc0 [2,3] [0]
    refine qQ qD (gy 3 3++[(6,.yes true)]) [.d,.k2,.d,.d,.n,.r] [ps 154 (bv true)] (on 4 (bf h29) oz)<|qL (b:=true) rfl rfl<|qB<|qH qD [.k1,.n,.d,.d,.k1,.d] [ps 3 (iv 2)] ?_
    rw [(qM (s:=s) h1 h2 h3 h4 h5 (wD (fun c=>h7 c.2) (fun c=>h13 c.1) (fun c=>h19 c.1) h25) (j:=(x,y)) (by unfold vZ qU;rw [if_neg (by omega)];exact Prod.ext (by show _=x;omega) (by show _=y;omega))).trans (zK h29)]
    exact qk hc0 [2,3] [0]
   refine qR (qV h25)<|qB ?_
   by_cases h31:(Lib.trimS (zL s) [100])=([]:TX)
   ·refine qQ qD ([(1,.call [] [(sv (st (zL s))),(sv (st [100]))] [] (sv (st (Lib.trimS (zL s) [100]))) []),(2,.val (.av (.bool (decide ((Lib.trimS (zL s) [100])=([]:TX))))))]++gy 4 2++[(6,.gd true (.call [] [(iv (((qI (qz s)).1)-1))] [] (bv (zN (((qI (qz s)).1)-1))) [])),(7,.yes true)]) [.k4,.d,.k2,.d,.n,.r] [ps 106 (bv (zN (((qI (qz s)).1)-1)))] (zO 744 (yR (zL s) [100] (by omega) (by decide) (yN (by decide))) (oc (qv _ _:((st (Lib.trimS (zL s) [100])).toList == (st ([]:TX)).toList)=decide ((Lib.trimS (zL s) [100])=([]:TX))) (on 2 (qT h31) (oi (((qI (qz s)).1)-1) (by omega) (oc (qT h31) (zO 784 (yQ (((qI (qz s)).1)-1) (by omega)) (oc (qT h31) oz)))))))<|qO (b:=(zN (((qI (qz s)).1)-1))) rfl (Bool.eq_false_iff.2 h7)<|qB<|qQ qD [(1,.call [] [(sv (st (zL s))),(sv (st [100]))] [] (sv (st (Lib.trimS (zL s) [100]))) []),(2,.val (.av (.bool (decide ((Lib.trimS (zL s) [100])=([]:TX))))))] [.k3,.d,.k2,.d,.n,.r] [ps 120 (bv (decide ((Lib.trimS (zL s) [100])=([]:TX))))] (zO 816 (yR (zL s) [100] (by omega) (by decide) (yN (by decide))) (oc (qv _ _:((st (Lib.trimS (zL s) [100])).toList == (st ([]:TX)).toList)=decide ((Lib.trimS (zL s) [100])=([]:TX))) oz))<|qS (qT h31)<|qQ qD [] [.k4,.d,.d,.k1,.d,.n] [pb 456 41 [(iv (((qI (qz s)).1)-1)),(iv (((12*((((qI (qz s)).1)-1) / 7))+(Pi.nat7 ((((qI (qz s)).1)-1) % 7)))-((((zL s).length:Nat):Int)+1)))]] (oi ((((zL s).length:Nat):Int)+1) (by omega) (oi (((12*((((qI (qz s)).1)-1) / 7))+(Pi.nat7 ((((qI (qz s)).1)-1) % 7)))-((((zL s).length:Nat):Int)+1)) (by omega) oz))<|qZ<|qB<|qB<|qH qD [.k2,.d,.k1,.n,.r] [ps 134 (bv (decide ((((wv s).length:Nat):Int)<(s.length:Int))))] ?_
    by_cases h32:(((wv s).length:Nat):Int)<(s.length:Int)
    ·refine qS (qT h32)<|qQ qD [] [.k3,.d,.k1,.d,.n] [pb 456 41 [(iv (0-(((qI (qz s)).1)-1))),(iv (0-(((12*((((qI (qz s)).1)-1) / 7))+(Pi.nat7 ((((qI (qz s)).1)-1) % 7)))-((((zL s).length:Nat):Int)+1))))]] (oi (0-(((qI (qz s)).1)-1)) (by omega) (oi (0-(((12*((((qI (qz s)).1)-1) / 7))+(Pi.nat7 ((((qI (qz s)).1)-1) % 7)))-((((zL s).length:Nat):Int)+1))) (by omega) oz))<|qB<|qB ?_
     obtain ⟨x,hx⟩:∃ x,x=0-(((qI (qz s)).1)-1):=⟨_,rfl⟩
     obtain ⟨y,hy⟩:∃ y,y=0-(((12*((((qI (qz s)).1)-1) / 7))+(Pi.nat7 ((((qI (qz s)).1)-1) % 7)))-((((zL s).length:Nat):Int)+1)):=⟨_,rfl⟩
     refine qj (Wk.eq (show _=[ps 0 (sv (st s)),ps 2 (.opt 0 0),ps 11 (.opt 456 0),pb 0 41 [(iv 0),(iv 0)],pb 456 41 [(iv x),(iv y)]] from by rw [hx,hy])) ?_
     refine yC qD 1 [.k3,.n,.n,.r] [ps 13 (sv (st ((qG x y).1))),ps 14 (iv ((qG x y).2))] (zO 1024 (yK x y (by unfold Pi.I64;omega) (by unfold Pi.I64;omega)) oz)<|qB ?_
     by_cases h33:((qG x y).2)=0
     ·refine qQ qD (gn 3 2++[(5,.gd false (.val (.av (.bool (!decide (((qG x y).1)=s)))))),(6,.yes false)]) [.d,.k2,.d,.d,.n,.r] [ps 154 (bv (!(decide (((qG x y).1)=s))))] (on 3 (bt h33) (oc (yW _ _:(!((st ((qG x y).1)).toList == (st s).toList)) = !decide (((qG x y).1)=s)) (oc (bt h33) oz))) ?_
      by_cases h34:((qG x y).1)=s
      ·refine qR (bt h34)<|qF<|qB<|zD qD [] [ps 2 (.opt 0 0),ps 3 (iv 0),pb 0 41 [(iv x),(iv y)]] (oz) ?_
       rw [(qM (s:=s) h1 h2 h3 h4 h5 (Qk (fun c=>h7 c.2) (fun c=>h13 c.1) (fun c=>h19 c.1) h25 h31 h7) (j:=(x,y)) (by unfold vZ qU;rw [if_pos (by omega)];exact Prod.ext (by show _=x;omega) (by show _=y;omega))).trans (zH h33 h34)]
       exact qk hc0 [2,3] [0]
      refine qS (bf h34)<|qB<|qH qD [.k1,.n,.d,.d,.k1,.d] [ps 3 (iv 2)] ?_
      rw [(qM (s:=s) h1 h2 h3 h4 h5 (Qk (fun c=>h7 c.2) (fun c=>h13 c.1) (fun c=>h19 c.1) h25 h31 h7) (j:=(x,y)) (by unfold vZ qU;rw [if_pos (by omega)];exact Prod.ext (by show _=x;omega) (by show _=y;omega))).trans (zJ h34)]
      exact qk hc0 [2,3] [0]
     refine qQ qD (gy 3 3++[(6,.yes true)]) [.d,.k2,.d,.d,.n,.r] [ps 154 (bv true)] (on 4 (bf h33) oz)<|qL (b:=true) rfl rfl<|qB<|qH qD [.k1,.n,.d,.d,.k1,.d] [ps 3 (iv 2)] ?_
     rw [(qM (s:=s) h1 h2 h3 h4 h5 (Qk (fun c=>h7 c.2) (fun c=>h13 c.1) (fun c=>h19 c.1) h25 h31 h7) (j:=(x,y)) (by unfold vZ qU;rw [if_pos (by omega)];exact Prod.ext (by show _=x;omega) (by show _=y;omega))).trans (zK h33)]
     exact qk hc0 [2,3] [0]
    refine qR (qV h32)<|qF<|qB<|qB ?_
    obtain ⟨x,hx⟩:∃ x,x=((qI (qz s)).1)-1:=⟨_,rfl⟩
    obtain ⟨y,hy⟩:∃ y,y=((12*((((qI (qz s)).1)-1) / 7))+(Pi.nat7 ((((qI (qz s)).1)-1) % 7)))-((((zL s).length:Nat):Int)+1):=⟨_,rfl⟩
    refine qj (Wk.eq (show _=[ps 0 (sv (st s)),ps 2 (.opt 0 0),ps 11 (.opt 456 0),ps 134 (bv (decide ((((wv s).length:Nat):Int)<(s.length:Int)))),pb 0 41 [(iv 0),(iv 0)],pb 456 41 [(iv x),(iv y)]] from by rw [hx,hy])) ?_
    refine yC qD 1 [.k3,.n,.n,.d,.r] [ps 13 (sv (st ((qG x y).1))),ps 14 (iv ((qG x y).2))] (zO 944 (yK x y (by unfold Pi.I64;omega) (by unfold Pi.I64;omega)) oz)<|qB ?_
    by_cases h35:((qG x y).2)=0
    ·refine qQ qD (gn 3 2++[(5,.gd false (.val (.av (.bool (!decide (((qG x y).1)=s)))))),(6,.yes false)]) [.d,.k2,.d,.d,.n,.r] [ps 154 (bv (!(decide (((qG x y).1)=s))))] (on 3 (bt h35) (oc (yW _ _:(!((st ((qG x y).1)).toList == (st s).toList)) = !decide (((qG x y).1)=s)) (oc (bt h35) oz))) ?_
     by_cases h36:((qG x y).1)=s
     ·refine qR (bt h36)<|qF<|qB<|zD qD [] [ps 2 (.opt 0 0),ps 3 (iv 0),pb 0 41 [(iv x),(iv y)]] (oz) ?_
      rw [(qM (s:=s) h1 h2 h3 h4 h5 (Qk (fun c=>h7 c.2) (fun c=>h13 c.1) (fun c=>h19 c.1) h25 h31 h7) (j:=(x,y)) (by unfold vZ qU;rw [if_neg (by omega)];exact Prod.ext (by show _=x;omega) (by show _=y;omega))).trans (zH h35 h36)]
      exact qk hc0 [2,3] [0]
     refine qS (bf h36)<|qB<|qH qD [.k1,.n,.d,.d,.k1,.d] [ps 3 (iv 2)] ?_
     rw [(qM (s:=s) h1 h2 h3 h4 h5 (Qk (fun c=>h7 c.2) (fun c=>h13 c.1) (fun c=>h19 c.1) h25 h31 h7) (j:=(x,y)) (by unfold vZ qU;rw [if_neg (by omega)];exact Prod.ext (by show _=x;omega) (by show _=y;omega))).trans (zJ h36)]
     exact qk hc0 [2,3] [0]
    refine qQ qD (gy 3 3++[(6,.yes true)]) [.d,.k2,.d,.d,.n,.r] [ps 154 (bv true)] (on 4 (bf h35) oz)<|qL (b:=true) rfl rfl<|qB<|qH qD [.k1,.n,.d,.d,.k1,.d] [ps 3 (iv 2)] ?_
    rw [(qM (s:=s) h1 h2 h3 h4 h5 (Qk (fun c=>h7 c.2) (fun c=>h13 c.1) (fun c=>h19 c.1) h25 h31 h7) (j:=(x,y)) (by unfold vZ qU;rw [if_neg (by omega)];exact Prod.ext (by show _=x;omega) (by show _=y;omega))).trans (zK h35)]
    exact qk hc0 [2,3] [0]
   refine qQ qD ([(1,.call [] [(sv (st (zL s))),(sv (st [100]))] [] (sv (st (Lib.trimS (zL s) [100]))) []),(2,.val (.av (.bool (decide ((Lib.trimS (zL s) [100])=([]:TX))))))]++gn 4 3++[(7,.yes false)]) [.k4,.d,.k2,.d,.n,.r] [ps 106 (bv false)] (zO 744 (yR (zL s) [100] (by omega) (by decide) (yN (by decide))) (oc (qv _ _:((st (Lib.trimS (zL s) [100])).toList == (st ([]:TX)).toList)=decide ((Lib.trimS (zL s) [100])=([]:TX))) (on 4 (qV h31) oz)))<|qO (b:=false) rfl rfl<|qB<|qQ qD [(1,.call [] [(sv (st (zL s))),(sv (st [100]))] [] (sv (st (Lib.trimS (zL s) [100]))) []),(2,.val (.av (.bool (decide ((Lib.trimS (zL s) [100])=([]:TX))))))] [.k3,.d,.k2,.d,.n,.r] [ps 120 (bv (decide ((Lib.trimS (zL s) [100])=([]:TX))))] (zO 816 (yR (zL s) [100] (by omega) (by decide) (yN (by decide))) (oc (qv _ _:((st (Lib.trimS (zL s) [100])).toList == (st ([]:TX)).toList)=decide ((Lib.trimS (zL s) [100])=([]:TX))) oz))<|qR (qV h31)<|qB<|qH qD [.d,.k1,.n,.d,.d,.d,.d,.k1,.d] [ps 3 (iv 2)] ?_
   rw [QI (s:=s) h1 h2 h3 h4 h5 (qdt (fun c=>h7 c.2) (fun c=>h13 c.1) (fun c=>h19 c.1) h25 h31)]
   exact qk hc0 [2,3] [0]
  refine qQ qD ([(1,.val (.av (.bool (decide ((zL s)=([80]:TX))))))]++gn 3 3++[(6,.yes false)]) [.k7,.n,.r] [ps 68 (bv false)] (oc (qv _ _:((st (zL s)).toList == (st ([80]:TX)).toList)=decide ((zL s)=([80]:TX))) (on 4 (qV h6) oz))<|qO (b:=false) rfl rfl ?_
  by_cases h37:(zL s)=([77]:TX)
  ·refine qQ qD ([(1,.val (.av (.bool (decide ((zL s)=([77]:TX))))))]++gy 3 2++[(5,.gd true (.call [] [(iv (((qI (qz s)).1)-1))] [] (bv (zN (((qI (qz s)).1)-1))) [])),(6,.gd true .no),(7,.yes true)]) [.k7,.d,.n,.r] [ps 68 (bv (!(zN (((qI (qz s)).1)-1))))] (oc (qv _ _:((st (zL s)).toList == (st ([77]:TX)).toList)=decide ((zL s)=([77]:TX))) (on 2 (qT h37) (oi (((qI (qz s)).1)-1) (by omega) (oc (qT h37) (zO 600 (yQ (((qI (qz s)).1)-1) (by omega)) (on 2 (qT h37) oz)))))) ?_
   by_cases h38:(zN (((qI (qz s)).1)-1))=true
   ·refine qR (congrArg Bool.not h38)<|qB ?_
    by_cases h39:(zL s)=([109]:TX)
    ·refine qQ qD ([(1,.val (.av (.bool (decide ((zL s)=([109]:TX))))))]++gy 3 2++[(5,.gd true (.call [] [(iv (((qI (qz s)).1)-1))] [] (bv (zN (((qI (qz s)).1)-1))) [])),(6,.gd true .no),(7,.yes true)]) [.k7,.d,.n,.r] [ps 84 (bv (!(zN (((qI (qz s)).1)-1))))] (oc (qv _ _:((st (zL s)).toList == (st ([109]:TX)).toList)=decide ((zL s)=([109]:TX))) (on 2 (qT h39) (oi (((qI (qz s)).1)-1) (by omega) (oc (qT h39) (zO 672 (yQ (((qI (qz s)).1)-1) (by omega)) (on 2 (qT h39) oz))))))<|qR (congrArg Bool.not h38)<|qB<|qQ qD [(1,.call [] [(sv (st (zL s))),(sv (st [65]))] [] (sv (st (Lib.trimS (zL s) [65]))) []),(2,.val (.av (.bool (decide ((Lib.trimS (zL s) [65])=([]:TX))))))] [.k7,.d,.n,.r] [ps 97 (bv (decide ((Lib.trimS (zL s) [65])=([]:TX))))] (zO 712 (yR (zL s) [65] (by omega) (by decide) (yN (by decide))) (oc (qv _ _:((st (Lib.trimS (zL s) [65])).toList == (st ([]:TX)).toList)=decide ((Lib.trimS (zL s) [65])=([]:TX))) oz)) ?_
     by_cases h40:(Lib.trimS (zL s) [65])=([]:TX)
     ·refine qS (qT h40)<|qQ qD [] [.k3,.d,.d,.k1,.d,.d,.k1,.d,.n] [pb 456 41 [(iv (((qI (qz s)).1)-1)),(iv (((12*((((qI (qz s)).1)-1) / 7))+(Pi.nat7 ((((qI (qz s)).1)-1) % 7)))+(((zL s).length:Nat):Int)))]] (oi (((12*((((qI (qz s)).1)-1) / 7))+(Pi.nat7 ((((qI (qz s)).1)-1) % 7)))+(((zL s).length:Nat):Int)) (by omega) oz)<|qZ<|qB<|qB<|qH qD [.k2,.d,.k1,.n,.r] [ps 134 (bv (decide ((((wv s).length:Nat):Int)<(s.length:Int))))] ?_
      by_cases h41:(((wv s).length:Nat):Int)<(s.length:Int)
      ·refine qS (qT h41)<|qQ qD [] [.k3,.d,.k1,.d,.n] [pb 456 41 [(iv (0-(((qI (qz s)).1)-1))),(iv (0-(((12*((((qI (qz s)).1)-1) / 7))+(Pi.nat7 ((((qI (qz s)).1)-1) % 7)))+(((zL s).length:Nat):Int))))]] (oi (0-(((qI (qz s)).1)-1)) (by omega) (oi (0-(((12*((((qI (qz s)).1)-1) / 7))+(Pi.nat7 ((((qI (qz s)).1)-1) % 7)))+(((zL s).length:Nat):Int))) (by omega) oz))<|qB<|qB ?_
       obtain ⟨x,hx⟩:∃ x,x=0-(((qI (qz s)).1)-1):=⟨_,rfl⟩
       obtain ⟨y,hy⟩:∃ y,y=0-(((12*((((qI (qz s)).1)-1) / 7))+(Pi.nat7 ((((qI (qz s)).1)-1) % 7)))+(((zL s).length:Nat):Int)):=⟨_,rfl⟩
       refine qj (Wk.eq (show _=[ps 0 (sv (st s)),ps 2 (.opt 0 0),ps 11 (.opt 456 0),pb 0 41 [(iv 0),(iv 0)],pb 456 41 [(iv x),(iv y)]] from by rw [hx,hy])) ?_
       refine yC qD 1 [.k3,.n,.n,.r] [ps 13 (sv (st ((qG x y).1))),ps 14 (iv ((qG x y).2))] (zO 912 (yK x y (by unfold Pi.I64;omega) (by unfold Pi.I64;omega)) oz)<|qB ?_
       by_cases h42:((qG x y).2)=0
       ·refine qQ qD (gn 3 2++[(5,.gd false (.val (.av (.bool (!decide (((qG x y).1)=s)))))),(6,.yes false)]) [.d,.k2,.d,.d,.n,.r] [ps 154 (bv (!(decide (((qG x y).1)=s))))] (on 3 (bt h42) (oc (yW _ _:(!((st ((qG x y).1)).toList == (st s).toList)) = !decide (((qG x y).1)=s)) (oc (bt h42) oz))) ?_
        by_cases h43:((qG x y).1)=s
        ·refine qR (bt h43)<|qF<|qB<|zD qD [] [ps 2 (.opt 0 0),ps 3 (iv 0),pb 0 41 [(iv x),(iv y)]] (oz) ?_
         rw [(qM (s:=s) h1 h2 h3 h4 h5 (wD (fun c=>h6 c.1) (fun c=>c.2 h38) (fun c=>c.2 h38) h40) (j:=(x,y)) (by unfold vZ qU;rw [if_pos (by omega)];exact Prod.ext (by show _=x;omega) (by show _=y;omega))).trans (zH h42 h43)]
         exact qk hc0 [2,3] [0]
        refine qS (bf h43)<|qB<|qH qD [.k1,.n,.d,.d,.k1,.d] [ps 3 (iv 2)] ?_
        rw [(qM (s:=s) h1 h2 h3 h4 h5 (wD (fun c=>h6 c.1) (fun c=>c.2 h38) (fun c=>c.2 h38) h40) (j:=(x,y)) (by unfold vZ qU;rw [if_pos (by omega)];exact Prod.ext (by show _=x;omega) (by show _=y;omega))).trans (zJ h43)]
        exact qk hc0 [2,3] [0]
       refine qQ qD (gy 3 3++[(6,.yes true)]) [.d,.k2,.d,.d,.n,.r] [ps 154 (bv true)] (on 4 (bf h42) oz)<|qL (b:=true) rfl rfl<|qB<|qH qD [.k1,.n,.d,.d,.k1,.d] [ps 3 (iv 2)] ?_
       rw [(qM (s:=s) h1 h2 h3 h4 h5 (wD (fun c=>h6 c.1) (fun c=>c.2 h38) (fun c=>c.2 h38) h40) (j:=(x,y)) (by unfold vZ qU;rw [if_pos (by omega)];exact Prod.ext (by show _=x;omega) (by show _=y;omega))).trans (zK h42)]
       exact qk hc0 [2,3] [0]
      refine qR (qV h41)<|qF<|qB<|qB ?_
      obtain ⟨x,hx⟩:∃ x,x=((qI (qz s)).1)-1:=⟨_,rfl⟩
      obtain ⟨y,hy⟩:∃ y,y=((12*((((qI (qz s)).1)-1) / 7))+(Pi.nat7 ((((qI (qz s)).1)-1) % 7)))+(((zL s).length:Nat):Int):=⟨_,rfl⟩
      refine qj (Wk.eq (show _=[ps 0 (sv (st s)),ps 2 (.opt 0 0),ps 11 (.opt 456 0),ps 134 (bv (decide ((((wv s).length:Nat):Int)<(s.length:Int)))),pb 0 41 [(iv 0),(iv 0)],pb 456 41 [(iv x),(iv y)]] from by rw [hx,hy])) ?_
      refine yC qD 1 [.k3,.n,.n,.d,.r] [ps 13 (sv (st ((qG x y).1))),ps 14 (iv ((qG x y).2))] (zO 832 (yK x y (by unfold Pi.I64;omega) (by unfold Pi.I64;omega)) oz)<|qB ?_
      by_cases h44:((qG x y).2)=0
      ·refine qQ qD (gn 3 2++[(5,.gd false (.val (.av (.bool (!decide (((qG x y).1)=s)))))),(6,.yes false)]) [.d,.k2,.d,.d,.n,.r] [ps 154 (bv (!(decide (((qG x y).1)=s))))] (on 3 (bt h44) (oc (yW _ _:(!((st ((qG x y).1)).toList == (st s).toList)) = !decide (((qG x y).1)=s)) (oc (bt h44) oz))) ?_
       by_cases h45:((qG x y).1)=s
       ·refine qR (bt h45)<|qF<|qB<|zD qD [] [ps 2 (.opt 0 0),ps 3 (iv 0),pb 0 41 [(iv x),(iv y)]] (oz) ?_
        rw [(qM (s:=s) h1 h2 h3 h4 h5 (wD (fun c=>h6 c.1) (fun c=>c.2 h38) (fun c=>c.2 h38) h40) (j:=(x,y)) (by unfold vZ qU;rw [if_neg (by omega)];exact Prod.ext (by show _=x;omega) (by show _=y;omega))).trans (zH h44 h45)]
        exact qk hc0 [2,3] [0]
       refine qS (bf h45)<|qB<|qH qD [.k1,.n,.d,.d,.k1,.d] [ps 3 (iv 2)] ?_
       rw [(qM (s:=s) h1 h2 h3 h4 h5 (wD (fun c=>h6 c.1) (fun c=>c.2 h38) (fun c=>c.2 h38) h40) (j:=(x,y)) (by unfold vZ qU;rw [if_neg (by omega)];exact Prod.ext (by show _=x;omega) (by show _=y;omega))).trans (zJ h45)]
       exact qk hc0 [2,3] [0]
      refine qQ qD (gy 3 3++[(6,.yes true)]) [.d,.k2,.d,.d,.n,.r] [ps 154 (bv true)] (on 4 (bf h44) oz)<|qL (b:=true) rfl rfl<|qB<|qH qD [.k1,.n,.d,.d,.k1,.d] [ps 3 (iv 2)] ?_
      rw [(qM (s:=s) h1 h2 h3 h4 h5 (wD (fun c=>h6 c.1) (fun c=>c.2 h38) (fun c=>c.2 h38) h40) (j:=(x,y)) (by unfold vZ qU;rw [if_neg (by omega)];exact Prod.ext (by show _=x;omega) (by show _=y;omega))).trans (zK h44)]
      exact qk hc0 [2,3] [0]
     refine qR (qV h40)<|qB ?_
     by_cases h46:(Lib.trimS (zL s) [100])=([]:TX)
     ·refine qQ qD ([(1,.call [] [(sv (st (zL s))),(sv (st [100]))] [] (sv (st (Lib.trimS (zL s) [100]))) []),(2,.val (.av (.bool (decide ((Lib.trimS (zL s) [100])=([]:TX))))))]++gy 4 2++[(6,.gd true (.call [] [(iv (((qI (qz s)).1)-1))] [] (bv (zN (((qI (qz s)).1)-1))) [])),(7,.yes true)]) [.k4,.d,.k2,.d,.n,.r] [ps 106 (bv (zN (((qI (qz s)).1)-1)))] (zO 744 (yR (zL s) [100] (by omega) (by decide) (yN (by decide))) (oc (qv _ _:((st (Lib.trimS (zL s) [100])).toList == (st ([]:TX)).toList)=decide ((Lib.trimS (zL s) [100])=([]:TX))) (on 2 (qT h46) (oi (((qI (qz s)).1)-1) (by omega) (oc (qT h46) (zO 784 (yQ (((qI (qz s)).1)-1) (by omega)) (oc (qT h46) oz)))))))<|qL (b:=(zN (((qI (qz s)).1)-1))) rfl h38<|qQ qD [] [.k3,.d,.k1,.d,.d,.k1,.d,.n] [pb 456 41 [(iv (((qI (qz s)).1)-1)),(iv (((12*((((qI (qz s)).1)-1) / 7))+(Pi.nat7 ((((qI (qz s)).1)-1) % 7)))-(((zL s).length:Nat):Int)))]] (oi (((12*((((qI (qz s)).1)-1) / 7))+(Pi.nat7 ((((qI (qz s)).1)-1) % 7)))-(((zL s).length:Nat):Int)) (by omega) oz)<|qZ<|qB<|qB<|qH qD [.k2,.d,.k1,.n,.r] [ps 134 (bv (decide ((((wv s).length:Nat):Int)<(s.length:Int))))] ?_
      by_cases h47:(((wv s).length:Nat):Int)<(s.length:Int)
      ·refine qS (qT h47)<|qQ qD [] [.k3,.d,.k1,.d,.n] [pb 456 41 [(iv (0-(((qI (qz s)).1)-1))),(iv (0-(((12*((((qI (qz s)).1)-1) / 7))+(Pi.nat7 ((((qI (qz s)).1)-1) % 7)))-(((zL s).length:Nat):Int))))]] (oi (0-(((qI (qz s)).1)-1)) (by omega) (oi (0-(((12*((((qI (qz s)).1)-1) / 7))+(Pi.nat7 ((((qI (qz s)).1)-1) % 7)))-(((zL s).length:Nat):Int))) (by omega) oz))<|qB<|qB ?_
       obtain ⟨x,hx⟩:∃ x,x=0-(((qI (qz s)).1)-1):=⟨_,rfl⟩
       obtain ⟨y,hy⟩:∃ y,y=0-(((12*((((qI (qz s)).1)-1) / 7))+(Pi.nat7 ((((qI (qz s)).1)-1) % 7)))-(((zL s).length:Nat):Int)):=⟨_,rfl⟩
       refine qj (Wk.eq (show _=[ps 0 (sv (st s)),ps 2 (.opt 0 0),ps 11 (.opt 456 0),pb 0 41 [(iv 0),(iv 0)],pb 456 41 [(iv x),(iv y)]] from by rw [hx,hy])) ?_
       refine yC qD 1 [.k3,.n,.n,.r] [ps 13 (sv (st ((qG x y).1))),ps 14 (iv ((qG x y).2))] (zO 984 (yK x y (by unfold Pi.I64;omega) (by unfold Pi.I64;omega)) oz)<|qB ?_
       by_cases h48:((qG x y).2)=0
       ·refine qQ qD (gn 3 2++[(5,.gd false (.val (.av (.bool (!decide (((qG x y).1)=s)))))),(6,.yes false)]) [.d,.k2,.d,.d,.n,.r] [ps 154 (bv (!(decide (((qG x y).1)=s))))] (on 3 (bt h48) (oc (yW _ _:(!((st ((qG x y).1)).toList == (st s).toList)) = !decide (((qG x y).1)=s)) (oc (bt h48) oz))) ?_
        by_cases h49:((qG x y).1)=s
        ·refine qR (bt h49)<|qF<|qB<|zD qD [] [ps 2 (.opt 0 0),ps 3 (iv 0),pb 0 41 [(iv x),(iv y)]] (oz) ?_
         rw [(qM (s:=s) h1 h2 h3 h4 h5 (wk (fun c=>h6 c.1) (fun c=>c.2 h38) (fun c=>c.2 h38) h40 h46 h38) (j:=(x,y)) (by unfold vZ qU;rw [if_pos (by omega)];exact Prod.ext (by show _=x;omega) (by show _=y;omega))).trans (zH h48 h49)]
         exact qk hc0 [2,3] [0]
        refine qS (bf h49)<|qB<|qH qD [.k1,.n,.d,.d,.k1,.d] [ps 3 (iv 2)] ?_
        rw [(qM (s:=s) h1 h2 h3 h4 h5 (wk (fun c=>h6 c.1) (fun c=>c.2 h38) (fun c=>c.2 h38) h40 h46 h38) (j:=(x,y)) (by unfold vZ qU;rw [if_pos (by omega)];exact Prod.ext (by show _=x;omega) (by show _=y;omega))).trans (zJ h49)]
        exact qk hc0 [2,3] [0]
       refine qQ qD (gy 3 3++[(6,.yes true)]) [.d,.k2,.d,.d,.n,.r] [ps 154 (bv true)] (on 4 (bf h48) oz)<|qL (b:=true) rfl rfl<|qB<|qH qD [.k1,.n,.d,.d,.k1,.d] [ps 3 (iv 2)] ?_
       rw [(qM (s:=s) h1 h2 h3 h4 h5 (wk (fun c=>h6 c.1) (fun c=>c.2 h38) (fun c=>c.2 h38) h40 h46 h38) (j:=(x,y)) (by unfold vZ qU;rw [if_pos (by omega)];exact Prod.ext (by show _=x;omega) (by show _=y;omega))).trans (zK h48)]
       exact qk hc0 [2,3] [0]
      refine qR (qV h47)<|qF<|qB<|qB ?_
      obtain ⟨x,hx⟩:∃ x,x=((qI (qz s)).1)-1:=⟨_,rfl⟩
      obtain ⟨y,hy⟩:∃ y,y=((12*((((qI (qz s)).1)-1) / 7))+(Pi.nat7 ((((qI (qz s)).1)-1) % 7)))-(((zL s).length:Nat):Int):=⟨_,rfl⟩
      refine qj (Wk.eq (show _=[ps 0 (sv (st s)),ps 2 (.opt 0 0),ps 11 (.opt 456 0),ps 134 (bv (decide ((((wv s).length:Nat):Int)<(s.length:Int)))),pb 0 41 [(iv 0),(iv 0)],pb 456 41 [(iv x),(iv y)]] from by rw [hx,hy])) ?_
      refine yC qD 1 [.k3,.n,.n,.d,.r] [ps 13 (sv (st ((qG x y).1))),ps 14 (iv ((qG x y).2))] (zO 904 (yK x y (by unfold Pi.I64;omega) (by unfold Pi.I64;omega)) oz)<|qB ?_
      by_cases h50:((qG x y).2)=0
      ·refine qQ qD (gn 3 2++[(5,.gd false (.val (.av (.bool (!decide (((qG x y).1)=s)))))),(6,.yes false)]) [.d,.k2,.d,.d,.n,.r] [ps 154 (bv (!(decide (((qG x y).1)=s))))] (on 3 (bt h50) (oc (yW _ _:(!((st ((qG x y).1)).toList == (st s).toList)) = !decide (((qG x y).1)=s)) (oc (bt h50) oz))) ?_
       by_cases h51:((qG x y).1)=s
       ·refine qR (bt h51)<|qF<|qB<|zD qD [] [ps 2 (.opt 0 0),ps 3 (iv 0),pb 0 41 [(iv x),(iv y)]] (oz) ?_
        rw [(qM (s:=s) h1 h2 h3 h4 h5 (wk (fun c=>h6 c.1) (fun c=>c.2 h38) (fun c=>c.2 h38) h40 h46 h38) (j:=(x,y)) (by unfold vZ qU;rw [if_neg (by omega)];exact Prod.ext (by show _=x;omega) (by show _=y;omega))).trans (zH h50 h51)]
        exact qk hc0 [2,3] [0]
       refine qS (bf h51)<|qB<|qH qD [.k1,.n,.d,.d,.k1,.d] [ps 3 (iv 2)] ?_
       rw [(qM (s:=s) h1 h2 h3 h4 h5 (wk (fun c=>h6 c.1) (fun c=>c.2 h38) (fun c=>c.2 h38) h40 h46 h38) (j:=(x,y)) (by unfold vZ qU;rw [if_neg (by omega)];exact Prod.ext (by show _=x;omega) (by show _=y;omega))).trans (zJ h51)]
       exact qk hc0 [2,3] [0]
      refine qQ qD (gy 3 3++[(6,.yes true)]) [.d,.k2,.d,.d,.n,.r] [ps 154 (bv true)] (on 4 (bf h50) oz)<|qL (b:=true) rfl rfl<|qB<|qH qD [.k1,.n,.d,.d,.k1,.d] [ps 3 (iv 2)] ?_
      rw [(qM (s:=s) h1 h2 h3 h4 h5 (wk (fun c=>h6 c.1) (fun c=>c.2 h38) (fun c=>c.2 h38) h40 h46 h38) (j:=(x,y)) (by unfold vZ qU;rw [if_neg (by omega)];exact Prod.ext (by show _=x;omega) (by show _=y;omega))).trans (zK h50)]
      exact qk hc0 [2,3] [0]
     refine qQ qD ([(1,.call [] [(sv (st (zL s))),(sv (st [100]))] [] (sv (st (Lib.trimS (zL s) [100]))) []),(2,.val (.av (.bool (decide ((Lib.trimS (zL s) [100])=([]:TX))))))]++gn 4 3++[(7,.yes false)]) [.k4,.d,.k2,.d,.n,.r] [ps 106 (bv false)] (zO 744 (yR (zL s) [100] (by omega) (by decide) (yN (by decide))) (oc (qv _ _:((st (Lib.trimS (zL s) [100])).toList == (st ([]:TX)).toList)=decide ((Lib.trimS (zL s) [100])=([]:TX))) (on 4 (qV h46) oz)))<|qO (b:=false) rfl rfl<|qB<|qQ qD [(1,.call [] [(sv (st (zL s))),(sv (st [100]))] [] (sv (st (Lib.trimS (zL s) [100]))) []),(2,.val (.av (.bool (decide ((Lib.trimS (zL s) [100])=([]:TX))))))] [.k3,.d,.k2,.d,.n,.r] [ps 120 (bv (decide ((Lib.trimS (zL s) [100])=([]:TX))))] (zO 816 (yR (zL s) [100] (by omega) (by decide) (yN (by decide))) (oc (qv _ _:((st (Lib.trimS (zL s) [100])).toList == (st ([]:TX)).toList)=decide ((Lib.trimS (zL s) [100])=([]:TX))) oz))<|qR (qV h46)<|qB<|qH qD [.d,.k1,.n,.d,.d,.d,.d,.k1,.d] [ps 3 (iv 2)] ?_
     rw [QI (s:=s) h1 h2 h3 h4 h5 (qdt (fun c=>h6 c.1) (fun c=>c.2 h38) (fun c=>c.2 h38) h40 h46)]
     exact qk hc0 [2,3] [0]
    refine qQ qD ([(1,.val (.av (.bool (decide ((zL s)=([109]:TX))))))]++gn 3 4++[(7,.yes false)]) [.k7,.d,.n,.r] [ps 84 (bv false)] (oc (qv _ _:((st (zL s)).toList == (st ([109]:TX)).toList)=decide ((zL s)=([109]:TX))) (on 5 (qV h39) oz))<|qO (b:=false) rfl rfl<|qB<|qQ qD [(1,.call [] [(sv (st (zL s))),(sv (st [65]))] [] (sv (st (Lib.trimS (zL s) [65]))) []),(2,.val (.av (.bool (decide ((Lib.trimS (zL s) [65])=([]:TX))))))] [.k7,.d,.n,.r] [ps 97 (bv (decide ((Lib.trimS (zL s) [65])=([]:TX))))] (zO 712 (yR (zL s) [65] (by omega) (by decide) (yN (by decide))) (oc (qv _ _:((st (Lib.trimS (zL s) [65])).toList == (st ([]:TX)).toList)=decide ((Lib.trimS (zL s) [65])=([]:TX))) oz)) ?_
    by_cases h52:(Lib.trimS (zL s) [65])=([]:TX)
    ·refine qS (qT h52)<|qQ qD [] [.k3,.d,.d,.k1,.d,.d,.k1,.d,.n] [pb 456 41 [(iv (((qI (qz s)).1)-1)),(iv (((12*((((qI (qz s)).1)-1) / 7))+(Pi.nat7 ((((qI (qz s)).1)-1) % 7)))+(((zL s).length:Nat):Int)))]] (oi (((12*((((qI (qz s)).1)-1) / 7))+(Pi.nat7 ((((qI (qz s)).1)-1) % 7)))+(((zL s).length:Nat):Int)) (by omega) oz)<|qZ<|qB<|qB<|qH qD [.k2,.d,.k1,.n,.r] [ps 134 (bv (decide ((((wv s).length:Nat):Int)<(s.length:Int))))] ?_
     by_cases h53:(((wv s).length:Nat):Int)<(s.length:Int)
     ·refine qS (qT h53)<|qQ qD [] [.k3,.d,.k1,.d,.n] [pb 456 41 [(iv (0-(((qI (qz s)).1)-1))),(iv (0-(((12*((((qI (qz s)).1)-1) / 7))+(Pi.nat7 ((((qI (qz s)).1)-1) % 7)))+(((zL s).length:Nat):Int))))]] (oi (0-(((qI (qz s)).1)-1)) (by omega) (oi (0-(((12*((((qI (qz s)).1)-1) / 7))+(Pi.nat7 ((((qI (qz s)).1)-1) % 7)))+(((zL s).length:Nat):Int))) (by omega) oz))<|qB<|qB ?_
      obtain ⟨x,hx⟩:∃ x,x=0-(((qI (qz s)).1)-1):=⟨_,rfl⟩
      obtain ⟨y,hy⟩:∃ y,y=0-(((12*((((qI (qz s)).1)-1) / 7))+(Pi.nat7 ((((qI (qz s)).1)-1) % 7)))+(((zL s).length:Nat):Int)):=⟨_,rfl⟩
      refine qj (Wk.eq (show _=[ps 0 (sv (st s)),ps 2 (.opt 0 0),ps 11 (.opt 456 0),pb 0 41 [(iv 0),(iv 0)],pb 456 41 [(iv x),(iv y)]] from by rw [hx,hy])) ?_
      refine yC qD 1 [.k3,.n,.n,.r] [ps 13 (sv (st ((qG x y).1))),ps 14 (iv ((qG x y).2))] (zO 912 (yK x y (by unfold Pi.I64;omega) (by unfold Pi.I64;omega)) oz)<|qB ?_
      by_cases h54:((qG x y).2)=0
      ·refine qQ qD (gn 3 2++[(5,.gd false (.val (.av (.bool (!decide (((qG x y).1)=s)))))),(6,.yes false)]) [.d,.k2,.d,.d,.n,.r] [ps 154 (bv (!(decide (((qG x y).1)=s))))] (on 3 (bt h54) (oc (yW _ _:(!((st ((qG x y).1)).toList == (st s).toList)) = !decide (((qG x y).1)=s)) (oc (bt h54) oz))) ?_
       by_cases h55:((qG x y).1)=s
       ·refine qR (bt h55)<|qF<|qB<|zD qD [] [ps 2 (.opt 0 0),ps 3 (iv 0),pb 0 41 [(iv x),(iv y)]] (oz) ?_
        rw [(qM (s:=s) h1 h2 h3 h4 h5 (wD (fun c=>h6 c.1) (fun c=>c.2 h38) (fun c=>h39 c.1) h52) (j:=(x,y)) (by unfold vZ qU;rw [if_pos (by omega)];exact Prod.ext (by show _=x;omega) (by show _=y;omega))).trans (zH h54 h55)]
        exact qk hc0 [2,3] [0]
       refine qS (bf h55)<|qB<|qH qD [.k1,.n,.d,.d,.k1,.d] [ps 3 (iv 2)] ?_
       rw [(qM (s:=s) h1 h2 h3 h4 h5 (wD (fun c=>h6 c.1) (fun c=>c.2 h38) (fun c=>h39 c.1) h52) (j:=(x,y)) (by unfold vZ qU;rw [if_pos (by omega)];exact Prod.ext (by show _=x;omega) (by show _=y;omega))).trans (zJ h55)]
       exact qk hc0 [2,3] [0]
      refine qQ qD (gy 3 3++[(6,.yes true)]) [.d,.k2,.d,.d,.n,.r] [ps 154 (bv true)] (on 4 (bf h54) oz)<|qL (b:=true) rfl rfl<|qB<|qH qD [.k1,.n,.d,.d,.k1,.d] [ps 3 (iv 2)] ?_
      rw [(qM (s:=s) h1 h2 h3 h4 h5 (wD (fun c=>h6 c.1) (fun c=>c.2 h38) (fun c=>h39 c.1) h52) (j:=(x,y)) (by unfold vZ qU;rw [if_pos (by omega)];exact Prod.ext (by show _=x;omega) (by show _=y;omega))).trans (zK h54)]
      exact qk hc0 [2,3] [0]
     refine qR (qV h53)<|qF<|qB<|qB ?_
     obtain ⟨x,hx⟩:∃ x,x=((qI (qz s)).1)-1:=⟨_,rfl⟩
     obtain ⟨y,hy⟩:∃ y,y=((12*((((qI (qz s)).1)-1) / 7))+(Pi.nat7 ((((qI (qz s)).1)-1) % 7)))+(((zL s).length:Nat):Int):=⟨_,rfl⟩
     refine qj (Wk.eq (show _=[ps 0 (sv (st s)),ps 2 (.opt 0 0),ps 11 (.opt 456 0),ps 134 (bv (decide ((((wv s).length:Nat):Int)<(s.length:Int)))),pb 0 41 [(iv 0),(iv 0)],pb 456 41 [(iv x),(iv y)]] from by rw [hx,hy])) ?_
     refine yC qD 1 [.k3,.n,.n,.d,.r] [ps 13 (sv (st ((qG x y).1))),ps 14 (iv ((qG x y).2))] (zO 832 (yK x y (by unfold Pi.I64;omega) (by unfold Pi.I64;omega)) oz)<|qB ?_
     by_cases h56:((qG x y).2)=0
     ·refine qQ qD (gn 3 2++[(5,.gd false (.val (.av (.bool (!decide (((qG x y).1)=s)))))),(6,.yes false)]) [.d,.k2,.d,.d,.n,.r] [ps 154 (bv (!(decide (((qG x y).1)=s))))] (on 3 (bt h56) (oc (yW _ _:(!((st ((qG x y).1)).toList == (st s).toList)) = !decide (((qG x y).1)=s)) (oc (bt h56) oz))) ?_
      by_cases h57:((qG x y).1)=s
      ·refine qR (bt h57)<|qF<|qB<|zD qD [] [ps 2 (.opt 0 0),ps 3 (iv 0),pb 0 41 [(iv x),(iv y)]] (oz) ?_
       rw [(qM (s:=s) h1 h2 h3 h4 h5 (wD (fun c=>h6 c.1) (fun c=>c.2 h38) (fun c=>h39 c.1) h52) (j:=(x,y)) (by unfold vZ qU;rw [if_neg (by omega)];exact Prod.ext (by show _=x;omega) (by show _=y;omega))).trans (zH h56 h57)]
       exact qk hc0 [2,3] [0]
      refine qS (bf h57)<|qB<|qH qD [.k1,.n,.d,.d,.k1,.d] [ps 3 (iv 2)] ?_
      rw [(qM (s:=s) h1 h2 h3 h4 h5 (wD (fun c=>h6 c.1) (fun c=>c.2 h38) (fun c=>h39 c.1) h52) (j:=(x,y)) (by unfold vZ qU;rw [if_neg (by omega)];exact Prod.ext (by show _=x;omega) (by show _=y;omega))).trans (zJ h57)]
      exact qk hc0 [2,3] [0]
     refine qQ qD (gy 3 3++[(6,.yes true)]) [.d,.k2,.d,.d,.n,.r] [ps 154 (bv true)] (on 4 (bf h56) oz)<|qL (b:=true) rfl rfl<|qB<|qH qD [.k1,.n,.d,.d,.k1,.d] [ps 3 (iv 2)] ?_
     rw [(qM (s:=s) h1 h2 h3 h4 h5 (wD (fun c=>h6 c.1) (fun c=>c.2 h38) (fun c=>h39 c.1) h52) (j:=(x,y)) (by unfold vZ qU;rw [if_neg (by omega)];exact Prod.ext (by show _=x;omega) (by show _=y;omega))).trans (zK h56)]
     exact qk hc0 [2,3] [0]
    refine qR (qV h52)<|qB ?_
    by_cases h58:(Lib.trimS (zL s) [100])=([]:TX)
    ·refine qQ qD ([(1,.call [] [(sv (st (zL s))),(sv (st [100]))] [] (sv (st (Lib.trimS (zL s) [100]))) []),(2,.val (.av (.bool (decide ((Lib.trimS (zL s) [100])=([]:TX))))))]++gy 4 2++[(6,.gd true (.call [] [(iv (((qI (qz s)).1)-1))] [] (bv (zN (((qI (qz s)).1)-1))) [])),(7,.yes true)]) [.k4,.d,.k2,.d,.n,.r] [ps 106 (bv (zN (((qI (qz s)).1)-1)))] (zO 744 (yR (zL s) [100] (by omega) (by decide) (yN (by decide))) (oc (qv _ _:((st (Lib.trimS (zL s) [100])).toList == (st ([]:TX)).toList)=decide ((Lib.trimS (zL s) [100])=([]:TX))) (on 2 (qT h58) (oi (((qI (qz s)).1)-1) (by omega) (oc (qT h58) (zO 784 (yQ (((qI (qz s)).1)-1) (by omega)) (oc (qT h58) oz)))))))<|qL (b:=(zN (((qI (qz s)).1)-1))) rfl h38<|qQ qD [] [.k3,.d,.k1,.d,.d,.k1,.d,.n] [pb 456 41 [(iv (((qI (qz s)).1)-1)),(iv (((12*((((qI (qz s)).1)-1) / 7))+(Pi.nat7 ((((qI (qz s)).1)-1) % 7)))-(((zL s).length:Nat):Int)))]] (oi (((12*((((qI (qz s)).1)-1) / 7))+(Pi.nat7 ((((qI (qz s)).1)-1) % 7)))-(((zL s).length:Nat):Int)) (by omega) oz)<|qZ<|qB<|qB<|qH qD [.k2,.d,.k1,.n,.r] [ps 134 (bv (decide ((((wv s).length:Nat):Int)<(s.length:Int))))] ?_
     by_cases h59:(((wv s).length:Nat):Int)<(s.length:Int)
     ·refine qS (qT h59)<|qQ qD [] [.k3,.d,.k1,.d,.n] [pb 456 41 [(iv (0-(((qI (qz s)).1)-1))),(iv (0-(((12*((((qI (qz s)).1)-1) / 7))+(Pi.nat7 ((((qI (qz s)).1)-1) % 7)))-(((zL s).length:Nat):Int))))]] (oi (0-(((qI (qz s)).1)-1)) (by omega) (oi (0-(((12*((((qI (qz s)).1)-1) / 7))+(Pi.nat7 ((((qI (qz s)).1)-1) % 7)))-(((zL s).length:Nat):Int))) (by omega) oz))<|qB<|qB ?_
      obtain ⟨x,hx⟩:∃ x,x=0-(((qI (qz s)).1)-1):=⟨_,rfl⟩
      obtain ⟨y,hy⟩:∃ y,y=0-(((12*((((qI (qz s)).1)-1) / 7))+(Pi.nat7 ((((qI (qz s)).1)-1) % 7)))-(((zL s).length:Nat):Int)):=⟨_,rfl⟩
      refine qj (Wk.eq (show _=[ps 0 (sv (st s)),ps 2 (.opt 0 0),ps 11 (.opt 456 0),pb 0 41 [(iv 0),(iv 0)],pb 456 41 [(iv x),(iv y)]] from by rw [hx,hy])) ?_
      refine yC qD 1 [.k3,.n,.n,.r] [ps 13 (sv (st ((qG x y).1))),ps 14 (iv ((qG x y).2))] (zO 984 (yK x y (by unfold Pi.I64;omega) (by unfold Pi.I64;omega)) oz)<|qB ?_
      by_cases h60:((qG x y).2)=0
      ·refine qQ qD (gn 3 2++[(5,.gd false (.val (.av (.bool (!decide (((qG x y).1)=s)))))),(6,.yes false)]) [.d,.k2,.d,.d,.n,.r] [ps 154 (bv (!(decide (((qG x y).1)=s))))] (on 3 (bt h60) (oc (yW _ _:(!((st ((qG x y).1)).toList == (st s).toList)) = !decide (((qG x y).1)=s)) (oc (bt h60) oz))) ?_
       by_cases h61:((qG x y).1)=s
       ·refine qR (bt h61)<|qF<|qB<|zD qD [] [ps 2 (.opt 0 0),ps 3 (iv 0),pb 0 41 [(iv x),(iv y)]] (oz) ?_
        rw [(qM (s:=s) h1 h2 h3 h4 h5 (wk (fun c=>h6 c.1) (fun c=>c.2 h38) (fun c=>h39 c.1) h52 h58 h38) (j:=(x,y)) (by unfold vZ qU;rw [if_pos (by omega)];exact Prod.ext (by show _=x;omega) (by show _=y;omega))).trans (zH h60 h61)]
        exact qk hc0 [2,3] [0]
       refine qS (bf h61)<|qB<|qH qD [.k1,.n,.d,.d,.k1,.d] [ps 3 (iv 2)] ?_
       rw [(qM (s:=s) h1 h2 h3 h4 h5 (wk (fun c=>h6 c.1) (fun c=>c.2 h38) (fun c=>h39 c.1) h52 h58 h38) (j:=(x,y)) (by unfold vZ qU;rw [if_pos (by omega)];exact Prod.ext (by show _=x;omega) (by show _=y;omega))).trans (zJ h61)]
       exact qk hc0 [2,3] [0]
      refine qQ qD (gy 3 3++[(6,.yes true)]) [.d,.k2,.d,.d,.n,.r] [ps 154 (bv true)] (on 4 (bf h60) oz)<|qL (b:=true) rfl rfl<|qB<|qH qD [.k1,.n,.d,.d,.k1,.d] [ps 3 (iv 2)] ?_
      rw [(qM (s:=s) h1 h2 h3 h4 h5 (wk (fun c=>h6 c.1) (fun c=>c.2 h38) (fun c=>h39 c.1) h52 h58 h38) (j:=(x,y)) (by unfold vZ qU;rw [if_pos (by omega)];exact Prod.ext (by show _=x;omega) (by show _=y;omega))).trans (zK h60)]
      exact qk hc0 [2,3] [0]
     refine qR (qV h59)<|qF<|qB<|qB ?_
     obtain ⟨x,hx⟩:∃ x,x=((qI (qz s)).1)-1:=⟨_,rfl⟩
     obtain ⟨y,hy⟩:∃ y,y=((12*((((qI (qz s)).1)-1) / 7))+(Pi.nat7 ((((qI (qz s)).1)-1) % 7)))-(((zL s).length:Nat):Int):=⟨_,rfl⟩
     refine qj (Wk.eq (show _=[ps 0 (sv (st s)),ps 2 (.opt 0 0),ps 11 (.opt 456 0),ps 134 (bv (decide ((((wv s).length:Nat):Int)<(s.length:Int)))),pb 0 41 [(iv 0),(iv 0)],pb 456 41 [(iv x),(iv y)]] from by rw [hx,hy])) ?_
     refine yC qD 1 [.k3,.n,.n,.d,.r] [ps 13 (sv (st ((qG x y).1))),ps 14 (iv ((qG x y).2))] (zO 904 (yK x y (by unfold Pi.I64;omega) (by unfold Pi.I64;omega)) oz)<|qB ?_
     by_cases h62:((qG x y).2)=0
     ·refine qQ qD (gn 3 2++[(5,.gd false (.val (.av (.bool (!decide (((qG x y).1)=s)))))),(6,.yes false)]) [.d,.k2,.d,.d,.n,.r] [ps 154 (bv (!(decide (((qG x y).1)=s))))] (on 3 (bt h62) (oc (yW _ _:(!((st ((qG x y).1)).toList == (st s).toList)) = !decide (((qG x y).1)=s)) (oc (bt h62) oz))) ?_
      by_cases h63:((qG x y).1)=s
      ·refine qR (bt h63)<|qF<|qB<|zD qD [] [ps 2 (.opt 0 0),ps 3 (iv 0),pb 0 41 [(iv x),(iv y)]] (oz) ?_
       rw [(qM (s:=s) h1 h2 h3 h4 h5 (wk (fun c=>h6 c.1) (fun c=>c.2 h38) (fun c=>h39 c.1) h52 h58 h38) (j:=(x,y)) (by unfold vZ qU;rw [if_neg (by omega)];exact Prod.ext (by show _=x;omega) (by show _=y;omega))).trans (zH h62 h63)]
       exact qk hc0 [2,3] [0]
      refine qS (bf h63)<|qB<|qH qD [.k1,.n,.d,.d,.k1,.d] [ps 3 (iv 2)] ?_
      rw [(qM (s:=s) h1 h2 h3 h4 h5 (wk (fun c=>h6 c.1) (fun c=>c.2 h38) (fun c=>h39 c.1) h52 h58 h38) (j:=(x,y)) (by unfold vZ qU;rw [if_neg (by omega)];exact Prod.ext (by show _=x;omega) (by show _=y;omega))).trans (zJ h63)]
      exact qk hc0 [2,3] [0]
     refine qQ qD (gy 3 3++[(6,.yes true)]) [.d,.k2,.d,.d,.n,.r] [ps 154 (bv true)] (on 4 (bf h62) oz)<|qL (b:=true) rfl rfl<|qB<|qH qD [.k1,.n,.d,.d,.k1,.d] [ps 3 (iv 2)] ?_
     rw [(qM (s:=s) h1 h2 h3 h4 h5 (wk (fun c=>h6 c.1) (fun c=>c.2 h38) (fun c=>h39 c.1) h52 h58 h38) (j:=(x,y)) (by unfold vZ qU;rw [if_neg (by omega)];exact Prod.ext (by show _=x;omega) (by show _=y;omega))).trans (zK h62)]
     exact qk hc0 [2,3] [0]
    refine qQ qD ([(1,.call [] [(sv (st (zL s))),(sv (st [100]))] [] (sv (st (Lib.trimS (zL s) [100]))) []),(2,.val (.av (.bool (decide ((Lib.trimS (zL s) [100])=([]:TX))))))]++gn 4 3++[(7,.yes false)]) [.k4,.d,.k2,.d,.n,.r] [ps 106 (bv false)] (zO 744 (yR (zL s) [100] (by omega) (by decide) (yN (by decide))) (oc (qv _ _:((st (Lib.trimS (zL s) [100])).toList == (st ([]:TX)).toList)=decide ((Lib.trimS (zL s) [100])=([]:TX))) (on 4 (qV h58) oz)))<|qO (b:=false) rfl rfl<|qB<|qQ qD [(1,.call [] [(sv (st (zL s))),(sv (st [100]))] [] (sv (st (Lib.trimS (zL s) [100]))) []),(2,.val (.av (.bool (decide ((Lib.trimS (zL s) [100])=([]:TX))))))] [.k3,.d,.k2,.d,.n,.r] [ps 120 (bv (decide ((Lib.trimS (zL s) [100])=([]:TX))))] (zO 816 (yR (zL s) [100] (by omega) (by decide) (yN (by decide))) (oc (qv _ _:((st (Lib.trimS (zL s) [100])).toList == (st ([]:TX)).toList)=decide ((Lib.trimS (zL s) [100])=([]:TX))) oz))<|qR (qV h58)<|qB<|qH qD [.d,.k1,.n,.d,.d,.d,.d,.k1,.d] [ps 3 (iv 2)] ?_
    rw [QI (s:=s) h1 h2 h3 h4 h5 (qdt (fun c=>h6 c.1) (fun c=>c.2 h38) (fun c=>h39 c.1) h52 h58)]
    exact qk hc0 [2,3] [0]
   refine qS (congrArg Bool.not (Bool.eq_false_iff.2 h38))<|qF<|qZ<|qB<|qB<|qH qD [.k2,.d,.d,.d,.k1,.d,.d,.n,.r] [ps 134 (bv (decide ((((wv s).length:Nat):Int)<(s.length:Int))))] ?_
   by_cases h64:(((wv s).length:Nat):Int)<(s.length:Int)
   ·refine qS (qT h64)<|qQ qD [] [.k3,.d,.k1,.d,.n] [pb 456 41 [(iv (0-(((qI (qz s)).1)-1))),(iv (0-((12*((((qI (qz s)).1)-1) / 7))+(Pi.nat7 ((((qI (qz s)).1)-1) % 7)))))]] (oi (0-(((qI (qz s)).1)-1)) (by omega) (oi (0-((12*((((qI (qz s)).1)-1) / 7))+(Pi.nat7 ((((qI (qz s)).1)-1) % 7)))) (by omega) oz))<|qB<|qB ?_
    obtain ⟨x,hx⟩:∃ x,x=0-(((qI (qz s)).1)-1):=⟨_,rfl⟩
    obtain ⟨y,hy⟩:∃ y,y=0-((12*((((qI (qz s)).1)-1) / 7))+(Pi.nat7 ((((qI (qz s)).1)-1) % 7))):=⟨_,rfl⟩
    refine qj (Wk.eq (show _=[ps 0 (sv (st s)),ps 2 (.opt 0 0),ps 11 (.opt 456 0),pb 0 41 [(iv 0),(iv 0)],pb 456 41 [(iv x),(iv y)]] from by rw [hx,hy])) ?_
    refine yC qD 1 [.k3,.n,.n,.r] [ps 13 (sv (st ((qG x y).1))),ps 14 (iv ((qG x y).2))] (zO 760 (yK x y (by unfold Pi.I64;omega) (by unfold Pi.I64;omega)) oz)<|qB ?_
    by_cases h65:((qG x y).2)=0
    ·refine qQ qD (gn 3 2++[(5,.gd false (.val (.av (.bool (!decide (((qG x y).1)=s)))))),(6,.yes false)]) [.d,.k2,.d,.d,.n,.r] [ps 154 (bv (!(decide (((qG x y).1)=s))))] (on 3 (bt h65) (oc (yW _ _:(!((st ((qG x y).1)).toList == (st s).toList)) = !decide (((qG x y).1)=s)) (oc (bt h65) oz))) ?_
     by_cases h66:((qG x y).1)=s
     ·refine qR (bt h66)<|qF<|qB<|zD qD [] [ps 2 (.opt 0 0),ps 3 (iv 0),pb 0 41 [(iv x),(iv y)]] (oz) ?_
      rw [(qM (s:=s) h1 h2 h3 h4 h5 (VT h37 h38) (j:=(x,y)) (by unfold vZ qU;rw [if_pos (by omega)];exact Prod.ext (by show _=x;omega) (by show _=y;omega))).trans (zH h65 h66)]
      exact qk hc0 [2,3] [0]
     refine qS (bf h66)<|qB<|qH qD [.k1,.n,.d,.d,.k1,.d] [ps 3 (iv 2)] ?_
     rw [(qM (s:=s) h1 h2 h3 h4 h5 (VT h37 h38) (j:=(x,y)) (by unfold vZ qU;rw [if_pos (by omega)];exact Prod.ext (by show _=x;omega) (by show _=y;omega))).trans (zJ h66)]
     exact qk hc0 [2,3] [0]
    refine qQ qD (gy 3 3++[(6,.yes true)]) [.d,.k2,.d,.d,.n,.r] [ps 154 (bv true)] (on 4 (bf h65) oz)<|qL (b:=true) rfl rfl<|qB<|qH qD [.k1,.n,.d,.d,.k1,.d] [ps 3 (iv 2)] ?_
    rw [(qM (s:=s) h1 h2 h3 h4 h5 (VT h37 h38) (j:=(x,y)) (by unfold vZ qU;rw [if_pos (by omega)];exact Prod.ext (by show _=x;omega) (by show _=y;omega))).trans (zK h65)]
    exact qk hc0 [2,3] [0]
   refine qR (qV h64)<|qF<|qB<|qB ?_
   obtain ⟨x,hx⟩:∃ x,x=((qI (qz s)).1)-1:=⟨_,rfl⟩
   obtain ⟨y,hy⟩:∃ y,y=(12*((((qI (qz s)).1)-1) / 7))+(Pi.nat7 ((((qI (qz s)).1)-1) % 7)):=⟨_,rfl⟩
   refine qj (Wk.eq (show _=[ps 0 (sv (st s)),ps 2 (.opt 0 0),ps 11 (.opt 456 0),ps 134 (bv (decide ((((wv s).length:Nat):Int)<(s.length:Int)))),pb 0 41 [(iv 0),(iv 0)],pb 456 41 [(iv x),(iv y)]] from by rw [hx,hy])) ?_
   refine yC qD 1 [.k3,.n,.n,.d,.r] [ps 13 (sv (st ((qG x y).1))),ps 14 (iv ((qG x y).2))] (zO 680 (yK x y (by unfold Pi.I64;omega) (by unfold Pi.I64;omega)) oz)<|qB ?_
   by_cases h67:((qG x y).2)=0
   ·refine qQ qD (gn 3 2++[(5,.gd false (.val (.av (.bool (!decide (((qG x y).1)=s)))))),(6,.yes false)]) [.d,.k2,.d,.d,.n,.r] [ps 154 (bv (!(decide (((qG x y).1)=s))))] (on 3 (bt h67) (oc (yW _ _:(!((st ((qG x y).1)).toList == (st s).toList)) = !decide (((qG x y).1)=s)) (oc (bt h67) oz))) ?_
    by_cases h68:((qG x y).1)=s
    ·refine qR (bt h68)<|qF<|qB<|zD qD [] [ps 2 (.opt 0 0),ps 3 (iv 0),pb 0 41 [(iv x),(iv y)]] (oz) ?_
     rw [(qM (s:=s) h1 h2 h3 h4 h5 (VT h37 h38) (j:=(x,y)) (by unfold vZ qU;rw [if_neg (by omega)];exact Prod.ext (by show _=x;omega) (by show _=y;omega))).trans (zH h67 h68)]
     exact qk hc0 [2,3] [0]
    refine qS (bf h68)<|qB<|qH qD [.k1,.n,.d,.d,.k1,.d] [ps 3 (iv 2)] ?_
    rw [(qM (s:=s) h1 h2 h3 h4 h5 (VT h37 h38) (j:=(x,y)) (by unfold vZ qU;rw [if_neg (by omega)];exact Prod.ext (by show _=x;omega) (by show _=y;omega))).trans (zJ h68)]
    exact qk hc0 [2,3] [0]
   refine qQ qD (gy 3 3++[(6,.yes true)]) [.d,.k2,.d,.d,.n,.r] [ps 154 (bv true)] (on 4 (bf h67) oz)<|qL (b:=true) rfl rfl<|qB<|qH qD [.k1,.n,.d,.d,.k1,.d] [ps 3 (iv 2)] ?_
   rw [(qM (s:=s) h1 h2 h3 h4 h5 (VT h37 h38) (j:=(x,y)) (by unfold vZ qU;rw [if_neg (by omega)];exact Prod.ext (by show _=x;omega) (by show _=y;omega))).trans (zK h67)]
   exact qk hc0 [2,3] [0]
  refine qQ qD ([(1,.val (.av (.bool (decide ((zL s)=([77]:TX))))))]++gn 3 4++[(7,.yes false)]) [.r] [] (oc (qv _ _:((st (zL s)).toList == (st ([77]:TX)).toList)=decide ((zL s)=([77]:TX))) (on 5 (qV h37) oz))<|qO (b:=false) rfl rfl<|qB ?_
  by_cases h69:(zL s)=([109]:TX)
  ·refine qQ qD ([(1,.val (.av (.bool (decide ((zL s)=([109]:TX))))))]++gy 3 2++[(5,.gd true (.call [] [(iv (((qI (qz s)).1)-1))] [] (bv (zN (((qI (qz s)).1)-1))) [])),(6,.gd true .no),(7,.yes true)]) [.k7,.d,.n,.r] [ps 84 (bv (!(zN (((qI (qz s)).1)-1))))] (oc (qv _ _:((st (zL s)).toList == (st ([109]:TX)).toList)=decide ((zL s)=([109]:TX))) (on 2 (qT h69) (oi (((qI (qz s)).1)-1) (by omega) (oc (qT h69) (zO 672 (yQ (((qI (qz s)).1)-1) (by omega)) (on 2 (qT h69) oz)))))) ?_
   by_cases h70:(zN (((qI (qz s)).1)-1))=true
   ·refine qR (congrArg Bool.not h70)<|qB<|qQ qD [(1,.call [] [(sv (st (zL s))),(sv (st [65]))] [] (sv (st (Lib.trimS (zL s) [65]))) []),(2,.val (.av (.bool (decide ((Lib.trimS (zL s) [65])=([]:TX))))))] [.k7,.d,.n,.r] [ps 97 (bv (decide ((Lib.trimS (zL s) [65])=([]:TX))))] (zO 712 (yR (zL s) [65] (by omega) (by decide) (yN (by decide))) (oc (qv _ _:((st (Lib.trimS (zL s) [65])).toList == (st ([]:TX)).toList)=decide ((Lib.trimS (zL s) [65])=([]:TX))) oz)) ?_
    by_cases h71:(Lib.trimS (zL s) [65])=([]:TX)
    ·refine qS (qT h71)<|qQ qD [] [.k3,.d,.d,.k1,.d,.d,.k1,.d,.n] [pb 456 41 [(iv (((qI (qz s)).1)-1)),(iv (((12*((((qI (qz s)).1)-1) / 7))+(Pi.nat7 ((((qI (qz s)).1)-1) % 7)))+(((zL s).length:Nat):Int)))]] (oi (((12*((((qI (qz s)).1)-1) / 7))+(Pi.nat7 ((((qI (qz s)).1)-1) % 7)))+(((zL s).length:Nat):Int)) (by omega) oz)<|qZ<|qB<|qB<|qH qD [.k2,.d,.k1,.n,.r] [ps 134 (bv (decide ((((wv s).length:Nat):Int)<(s.length:Int))))] ?_
     by_cases h72:(((wv s).length:Nat):Int)<(s.length:Int)
     ·refine qS (qT h72)<|qQ qD [] [.k3,.d,.k1,.d,.n] [pb 456 41 [(iv (0-(((qI (qz s)).1)-1))),(iv (0-(((12*((((qI (qz s)).1)-1) / 7))+(Pi.nat7 ((((qI (qz s)).1)-1) % 7)))+(((zL s).length:Nat):Int))))]] (oi (0-(((qI (qz s)).1)-1)) (by omega) (oi (0-(((12*((((qI (qz s)).1)-1) / 7))+(Pi.nat7 ((((qI (qz s)).1)-1) % 7)))+(((zL s).length:Nat):Int))) (by omega) oz))<|qB<|qB ?_
      obtain ⟨x,hx⟩:∃ x,x=0-(((qI (qz s)).1)-1):=⟨_,rfl⟩
      obtain ⟨y,hy⟩:∃ y,y=0-(((12*((((qI (qz s)).1)-1) / 7))+(Pi.nat7 ((((qI (qz s)).1)-1) % 7)))+(((zL s).length:Nat):Int)):=⟨_,rfl⟩
      refine qj (Wk.eq (show _=[ps 0 (sv (st s)),ps 2 (.opt 0 0),ps 11 (.opt 456 0),pb 0 41 [(iv 0),(iv 0)],pb 456 41 [(iv x),(iv y)]] from by rw [hx,hy])) ?_
      refine yC qD 1 [.k3,.n,.n,.r] [ps 13 (sv (st ((qG x y).1))),ps 14 (iv ((qG x y).2))] (zO 912 (yK x y (by unfold Pi.I64;omega) (by unfold Pi.I64;omega)) oz)<|qB ?_
      by_cases h73:((qG x y).2)=0
      ·refine qQ qD (gn 3 2++[(5,.gd false (.val (.av (.bool (!decide (((qG x y).1)=s)))))),(6,.yes false)]) [.d,.k2,.d,.d,.n,.r] [ps 154 (bv (!(decide (((qG x y).1)=s))))] (on 3 (bt h73) (oc (yW _ _:(!((st ((qG x y).1)).toList == (st s).toList)) = !decide (((qG x y).1)=s)) (oc (bt h73) oz))) ?_
       by_cases h74:((qG x y).1)=s
       ·refine qR (bt h74)<|qF<|qB<|zD qD [] [ps 2 (.opt 0 0),ps 3 (iv 0),pb 0 41 [(iv x),(iv y)]] (oz) ?_
        rw [(qM (s:=s) h1 h2 h3 h4 h5 (wD (fun c=>h6 c.1) (fun c=>h37 c.1) (fun c=>c.2 h70) h71) (j:=(x,y)) (by unfold vZ qU;rw [if_pos (by omega)];exact Prod.ext (by show _=x;omega) (by show _=y;omega))).trans (zH h73 h74)]
        exact qk hc0 [2,3] [0]
       refine qS (bf h74)<|qB<|qH qD [.k1,.n,.d,.d,.k1,.d] [ps 3 (iv 2)] ?_
       rw [(qM (s:=s) h1 h2 h3 h4 h5 (wD (fun c=>h6 c.1) (fun c=>h37 c.1) (fun c=>c.2 h70) h71) (j:=(x,y)) (by unfold vZ qU;rw [if_pos (by omega)];exact Prod.ext (by show _=x;omega) (by show _=y;omega))).trans (zJ h74)]
       exact qk hc0 [2,3] [0]
      refine qQ qD (gy 3 3++[(6,.yes true)]) [.d,.k2,.d,.d,.n,.r] [ps 154 (bv true)] (on 4 (bf h73) oz)<|qL (b:=true) rfl rfl<|qB<|qH qD [.k1,.n,.d,.d,.k1,.d] [ps 3 (iv 2)] ?_
      rw [(qM (s:=s) h1 h2 h3 h4 h5 (wD (fun c=>h6 c.1) (fun c=>h37 c.1) (fun c=>c.2 h70) h71) (j:=(x,y)) (by unfold vZ qU;rw [if_pos (by omega)];exact Prod.ext (by show _=x;omega) (by show _=y;omega))).trans (zK h73)]
      exact qk hc0 [2,3] [0]
     refine qR (qV h72)<|qF<|qB<|qB ?_
     obtain ⟨x,hx⟩:∃ x,x=((qI (qz s)).1)-1:=⟨_,rfl⟩
     obtain ⟨y,hy⟩:∃ y,y=((12*((((qI (qz s)).1)-1) / 7))+(Pi.nat7 ((((qI (qz s)).1)-1) % 7)))+(((zL s).length:Nat):Int):=⟨_,rfl⟩
     refine qj (Wk.eq (show _=[ps 0 (sv (st s)),ps 2 (.opt 0 0),ps 11 (.opt 456 0),ps 134 (bv (decide ((((wv s).length:Nat):Int)<(s.length:Int)))),pb 0 41 [(iv 0),(iv 0)],pb 456 41 [(iv x),(iv y)]] from by rw [hx,hy])) ?_
     refine yC qD 1 [.k3,.n,.n,.d,.r] [ps 13 (sv (st ((qG x y).1))),ps 14 (iv ((qG x y).2))] (zO 832 (yK x y (by unfold Pi.I64;omega) (by unfold Pi.I64;omega)) oz)<|qB ?_
     by_cases h75:((qG x y).2)=0
     ·refine qQ qD (gn 3 2++[(5,.gd false (.val (.av (.bool (!decide (((qG x y).1)=s)))))),(6,.yes false)]) [.d,.k2,.d,.d,.n,.r] [ps 154 (bv (!(decide (((qG x y).1)=s))))] (on 3 (bt h75) (oc (yW _ _:(!((st ((qG x y).1)).toList == (st s).toList)) = !decide (((qG x y).1)=s)) (oc (bt h75) oz))) ?_
      by_cases h76:((qG x y).1)=s
      ·refine qR (bt h76)<|qF<|qB<|zD qD [] [ps 2 (.opt 0 0),ps 3 (iv 0),pb 0 41 [(iv x),(iv y)]] (oz) ?_
       rw [(qM (s:=s) h1 h2 h3 h4 h5 (wD (fun c=>h6 c.1) (fun c=>h37 c.1) (fun c=>c.2 h70) h71) (j:=(x,y)) (by unfold vZ qU;rw [if_neg (by omega)];exact Prod.ext (by show _=x;omega) (by show _=y;omega))).trans (zH h75 h76)]
       exact qk hc0 [2,3] [0]
      refine qS (bf h76)<|qB<|qH qD [.k1,.n,.d,.d,.k1,.d] [ps 3 (iv 2)] ?_
      rw [(qM (s:=s) h1 h2 h3 h4 h5 (wD (fun c=>h6 c.1) (fun c=>h37 c.1) (fun c=>c.2 h70) h71) (j:=(x,y)) (by unfold vZ qU;rw [if_neg (by omega)];exact Prod.ext (by show _=x;omega) (by show _=y;omega))).trans (zJ h76)]
      exact qk hc0 [2,3] [0]
     refine qQ qD (gy 3 3++[(6,.yes true)]) [.d,.k2,.d,.d,.n,.r] [ps 154 (bv true)] (on 4 (bf h75) oz)<|qL (b:=true) rfl rfl<|qB<|qH qD [.k1,.n,.d,.d,.k1,.d] [ps 3 (iv 2)] ?_
     rw [(qM (s:=s) h1 h2 h3 h4 h5 (wD (fun c=>h6 c.1) (fun c=>h37 c.1) (fun c=>c.2 h70) h71) (j:=(x,y)) (by unfold vZ qU;rw [if_neg (by omega)];exact Prod.ext (by show _=x;omega) (by show _=y;omega))).trans (zK h75)]
     exact qk hc0 [2,3] [0]
    refine qR (qV h71)<|qB ?_
    by_cases h77:(Lib.trimS (zL s) [100])=([]:TX)
    ·refine qQ qD ([(1,.call [] [(sv (st (zL s))),(sv (st [100]))] [] (sv (st (Lib.trimS (zL s) [100]))) []),(2,.val (.av (.bool (decide ((Lib.trimS (zL s) [100])=([]:TX))))))]++gy 4 2++[(6,.gd true (.call [] [(iv (((qI (qz s)).1)-1))] [] (bv (zN (((qI (qz s)).1)-1))) [])),(7,.yes true)]) [.k4,.d,.k2,.d,.n,.r] [ps 106 (bv (zN (((qI (qz s)).1)-1)))] (zO 744 (yR (zL s) [100] (by omega) (by decide) (yN (by decide))) (oc (qv _ _:((st (Lib.trimS (zL s) [100])).toList == (st ([]:TX)).toList)=decide ((Lib.trimS (zL s) [100])=([]:TX))) (on 2 (qT h77) (oi (((qI (qz s)).1)-1) (by omega) (oc (qT h77) (zO 784 (yQ (((qI (qz s)).1)-1) (by omega)) (oc (qT h77) oz)))))))<|qL (b:=(zN (((qI (qz s)).1)-1))) rfl h70<|qQ qD [] [.k3,.d,.k1,.d,.d,.k1,.d,.n] [pb 456 41 [(iv (((qI (qz s)).1)-1)),(iv (((12*((((qI (qz s)).1)-1) / 7))+(Pi.nat7 ((((qI (qz s)).1)-1) % 7)))-(((zL s).length:Nat):Int)))]] (oi (((12*((((qI (qz s)).1)-1) / 7))+(Pi.nat7 ((((qI (qz s)).1)-1) % 7)))-(((zL s).length:Nat):Int)) (by omega) oz)<|qZ<|qB<|qB<|qH qD [.k2,.d,.k1,.n,.r] [ps 134 (bv (decide ((((wv s).length:Nat):Int)<(s.length:Int))))] ?_
     by_cases h78:(((wv s).length:Nat):Int)<(s.length:Int)
     ·refine qS (qT h78)<|qQ qD [] [.k3,.d,.k1,.d,.n] [pb 456 41 [(iv (0-(((qI (qz s)).1)-1))),(iv (0-(((12*((((qI (qz s)).1)-1) / 7))+(Pi.nat7 ((((qI (qz s)).1)-1) % 7)))-(((zL s).length:Nat):Int))))]] (oi (0-(((qI (qz s)).1)-1)) (by omega) (oi (0-(((12*((((qI (qz s)).1)-1) / 7))+(Pi.nat7 ((((qI (qz s)).1)-1) % 7)))-(((zL s).length:Nat):Int))) (by omega) oz))<|qB<|qB ?_
      obtain ⟨x,hx⟩:∃ x,x=0-(((qI (qz s)).1)-1):=⟨_,rfl⟩
      obtain ⟨y,hy⟩:∃ y,y=0-(((12*((((qI (qz s)).1)-1) / 7))+(Pi.nat7 ((((qI (qz s)).1)-1) % 7)))-(((zL s).length:Nat):Int)):=⟨_,rfl⟩
      refine qj (Wk.eq (show _=[ps 0 (sv (st s)),ps 2 (.opt 0 0),ps 11 (.opt 456 0),pb 0 41 [(iv 0),(iv 0)],pb 456 41 [(iv x),(iv y)]] from by rw [hx,hy])) ?_
      refine yC qD 1 [.k3,.n,.n,.r] [ps 13 (sv (st ((qG x y).1))),ps 14 (iv ((qG x y).2))] (zO 984 (yK x y (by unfold Pi.I64;omega) (by unfold Pi.I64;omega)) oz)<|qB ?_
      by_cases h79:((qG x y).2)=0
      ·refine qQ qD (gn 3 2++[(5,.gd false (.val (.av (.bool (!decide (((qG x y).1)=s)))))),(6,.yes false)]) [.d,.k2,.d,.d,.n,.r] [ps 154 (bv (!(decide (((qG x y).1)=s))))] (on 3 (bt h79) (oc (yW _ _:(!((st ((qG x y).1)).toList == (st s).toList)) = !decide (((qG x y).1)=s)) (oc (bt h79) oz))) ?_
       by_cases h80:((qG x y).1)=s
       ·refine qR (bt h80)<|qF<|qB<|zD qD [] [ps 2 (.opt 0 0),ps 3 (iv 0),pb 0 41 [(iv x),(iv y)]] (oz) ?_
        rw [(qM (s:=s) h1 h2 h3 h4 h5 (wk (fun c=>h6 c.1) (fun c=>h37 c.1) (fun c=>c.2 h70) h71 h77 h70) (j:=(x,y)) (by unfold vZ qU;rw [if_pos (by omega)];exact Prod.ext (by show _=x;omega) (by show _=y;omega))).trans (zH h79 h80)]
        exact qk hc0 [2,3] [0]
       refine qS (bf h80)<|qB<|qH qD [.k1,.n,.d,.d,.k1,.d] [ps 3 (iv 2)] ?_
       rw [(qM (s:=s) h1 h2 h3 h4 h5 (wk (fun c=>h6 c.1) (fun c=>h37 c.1) (fun c=>c.2 h70) h71 h77 h70) (j:=(x,y)) (by unfold vZ qU;rw [if_pos (by omega)];exact Prod.ext (by show _=x;omega) (by show _=y;omega))).trans (zJ h80)]
       exact qk hc0 [2,3] [0]
      refine qQ qD (gy 3 3++[(6,.yes true)]) [.d,.k2,.d,.d,.n,.r] [ps 154 (bv true)] (on 4 (bf h79) oz)<|qL (b:=true) rfl rfl<|qB<|qH qD [.k1,.n,.d,.d,.k1,.d] [ps 3 (iv 2)] ?_
      rw [(qM (s:=s) h1 h2 h3 h4 h5 (wk (fun c=>h6 c.1) (fun c=>h37 c.1) (fun c=>c.2 h70) h71 h77 h70) (j:=(x,y)) (by unfold vZ qU;rw [if_pos (by omega)];exact Prod.ext (by show _=x;omega) (by show _=y;omega))).trans (zK h79)]
      exact qk hc0 [2,3] [0]
     refine qR (qV h78)<|qF<|qB<|qB ?_
     obtain ⟨x,hx⟩:∃ x,x=((qI (qz s)).1)-1:=⟨_,rfl⟩
     obtain ⟨y,hy⟩:∃ y,y=((12*((((qI (qz s)).1)-1) / 7))+(Pi.nat7 ((((qI (qz s)).1)-1) % 7)))-(((zL s).length:Nat):Int):=⟨_,rfl⟩
     refine qj (Wk.eq (show _=[ps 0 (sv (st s)),ps 2 (.opt 0 0),ps 11 (.opt 456 0),ps 134 (bv (decide ((((wv s).length:Nat):Int)<(s.length:Int)))),pb 0 41 [(iv 0),(iv 0)],pb 456 41 [(iv x),(iv y)]] from by rw [hx,hy])) ?_
     refine yC qD 1 [.k3,.n,.n,.d,.r] [ps 13 (sv (st ((qG x y).1))),ps 14 (iv ((qG x y).2))] (zO 904 (yK x y (by unfold Pi.I64;omega) (by unfold Pi.I64;omega)) oz)<|qB ?_
     by_cases h81:((qG x y).2)=0
     ·refine qQ qD (gn 3 2++[(5,.gd false (.val (.av (.bool (!decide (((qG x y).1)=s)))))),(6,.yes false)]) [.d,.k2,.d,.d,.n,.r] [ps 154 (bv (!(decide (((qG x y).1)=s))))] (on 3 (bt h81) (oc (yW _ _:(!((st ((qG x y).1)).toList == (st s).toList)) = !decide (((qG x y).1)=s)) (oc (bt h81) oz))) ?_
      by_cases h82:((qG x y).1)=s
      ·refine qR (bt h82)<|qF<|qB<|zD qD [] [ps 2 (.opt 0 0),ps 3 (iv 0),pb 0 41 [(iv x),(iv y)]] (oz) ?_
       rw [(qM (s:=s) h1 h2 h3 h4 h5 (wk (fun c=>h6 c.1) (fun c=>h37 c.1) (fun c=>c.2 h70) h71 h77 h70) (j:=(x,y)) (by unfold vZ qU;rw [if_neg (by omega)];exact Prod.ext (by show _=x;omega) (by show _=y;omega))).trans (zH h81 h82)]
       exact qk hc0 [2,3] [0]
      refine qS (bf h82)<|qB<|qH qD [.k1,.n,.d,.d,.k1,.d] [ps 3 (iv 2)] ?_
      rw [(qM (s:=s) h1 h2 h3 h4 h5 (wk (fun c=>h6 c.1) (fun c=>h37 c.1) (fun c=>c.2 h70) h71 h77 h70) (j:=(x,y)) (by unfold vZ qU;rw [if_neg (by omega)];exact Prod.ext (by show _=x;omega) (by show _=y;omega))).trans (zJ h82)]
      exact qk hc0 [2,3] [0]
     refine qQ qD (gy 3 3++[(6,.yes true)]) [.d,.k2,.d,.d,.n,.r] [ps 154 (bv true)] (on 4 (bf h81) oz)<|qL (b:=true) rfl rfl<|qB<|qH qD [.k1,.n,.d,.d,.k1,.d] [ps 3 (iv 2)] ?_
     rw [(qM (s:=s) h1 h2 h3 h4 h5 (wk (fun c=>h6 c.1) (fun c=>h37 c.1) (fun c=>c.2 h70) h71 h77 h70) (j:=(x,y)) (by unfold vZ qU;rw [if_neg (by omega)];exact Prod.ext (by show _=x;omega) (by show _=y;omega))).trans (zK h81)]
     exact qk hc0 [2,3] [0]
    refine qQ qD ([(1,.call [] [(sv (st (zL s))),(sv (st [100]))] [] (sv (st (Lib.trimS (zL s) [100]))) []),(2,.val (.av (.bool (decide ((Lib.trimS (zL s) [100])=([]:TX))))))]++gn 4 3++[(7,.yes false)]) [.k4,.d,.k2,.d,.n,.r] [ps 106 (bv false)] (zO 744 (yR (zL s) [100] (by omega) (by decide) (yN (by decide))) (oc (qv _ _:((st (Lib.trimS (zL s) [100])).toList == (st ([]:TX)).toList)=decide ((Lib.trimS (zL s) [100])=([]:TX))) (on 4 (qV h77) oz)))<|qO (b:=false) rfl rfl<|qB<|qQ qD [(1,.call [] [(sv (st (zL s))),(sv (st [100]))] [] (sv (st (Lib.trimS (zL s) [100]))) []),(2,.val (.av (.bool (decide ((Lib.trimS (zL s) [100])=([]:TX))))))] [.k3,.d,.k2,.d,.n,.r] [ps 120 (bv (decide ((Lib.trimS (zL s) [100])=([]:TX))))] (zO 816 (yR (zL s) [100] (by omega) (by decide) (yN (by decide))) (oc (qv _ _:((st (Lib.trimS (zL s) [100])).toList == (st ([]:TX)).toList)=decide ((Lib.trimS (zL s) [100])=([]:TX))) oz))<|qR (qV h77)<|qB<|qH qD [.d,.k1,.n,.d,.d,.d,.d,.k1,.d] [ps 3 (iv 2)] ?_
    rw [QI (s:=s) h1 h2 h3 h4 h5 (qdt (fun c=>h6 c.1) (fun c=>h37 c.1) (fun c=>c.2 h70) h71 h77)]
    exact qk hc0 [2,3] [0]
   refine qS (congrArg Bool.not (Bool.eq_false_iff.2 h70))<|qQ qD [] [.k3,.d,.d,.k1,.d,.d,.k1,.d,.n] [pb 456 41 [(iv (((qI (qz s)).1)-1)),(iv (((12*((((qI (qz s)).1)-1) / 7))+(Pi.nat7 ((((qI (qz s)).1)-1) % 7)))-1))]] (oi (((12*((((qI (qz s)).1)-1) / 7))+(Pi.nat7 ((((qI (qz s)).1)-1) % 7)))-1) (by omega) oz)<|qZ<|qB<|qB<|qH qD [.k2,.d,.k1,.n,.r] [ps 134 (bv (decide ((((wv s).length:Nat):Int)<(s.length:Int))))] ?_
   by_cases h83:(((wv s).length:Nat):Int)<(s.length:Int)
   ·refine qS (qT h83)<|qQ qD [] [.k3,.d,.k1,.d,.n] [pb 456 41 [(iv (0-(((qI (qz s)).1)-1))),(iv (0-(((12*((((qI (qz s)).1)-1) / 7))+(Pi.nat7 ((((qI (qz s)).1)-1) % 7)))-1)))]] (oi (0-(((qI (qz s)).1)-1)) (by omega) (oi (0-(((12*((((qI (qz s)).1)-1) / 7))+(Pi.nat7 ((((qI (qz s)).1)-1) % 7)))-1)) (by omega) oz))<|qB<|qB ?_
    obtain ⟨x,hx⟩:∃ x,x=0-(((qI (qz s)).1)-1):=⟨_,rfl⟩
    obtain ⟨y,hy⟩:∃ y,y=0-(((12*((((qI (qz s)).1)-1) / 7))+(Pi.nat7 ((((qI (qz s)).1)-1) % 7)))-1):=⟨_,rfl⟩
    refine qj (Wk.eq (show _=[ps 0 (sv (st s)),ps 2 (.opt 0 0),ps 11 (.opt 456 0),pb 0 41 [(iv 0),(iv 0)],pb 456 41 [(iv x),(iv y)]] from by rw [hx,hy])) ?_
    refine yC qD 1 [.k3,.n,.n,.r] [ps 13 (sv (st ((qG x y).1))),ps 14 (iv ((qG x y).2))] (zO 872 (yK x y (by unfold Pi.I64;omega) (by unfold Pi.I64;omega)) oz)<|qB ?_
    by_cases h84:((qG x y).2)=0
    ·refine qQ qD (gn 3 2++[(5,.gd false (.val (.av (.bool (!decide (((qG x y).1)=s)))))),(6,.yes false)]) [.d,.k2,.d,.d,.n,.r] [ps 154 (bv (!(decide (((qG x y).1)=s))))] (on 3 (bt h84) (oc (yW _ _:(!((st ((qG x y).1)).toList == (st s).toList)) = !decide (((qG x y).1)=s)) (oc (bt h84) oz))) ?_
     by_cases h85:((qG x y).1)=s
     ·refine qR (bt h85)<|qF<|qB<|zD qD [] [ps 2 (.opt 0 0),ps 3 (iv 0),pb 0 41 [(iv x),(iv y)]] (oz) ?_
      rw [(qM (s:=s) h1 h2 h3 h4 h5 (VS (fun c=>h6 c.1) (fun c=>h37 c.1) h69 h70) (j:=(x,y)) (by unfold vZ qU;rw [if_pos (by omega)];exact Prod.ext (by show _=x;omega) (by show _=y;omega))).trans (zH h84 h85)]
      exact qk hc0 [2,3] [0]
     refine qS (bf h85)<|qB<|qH qD [.k1,.n,.d,.d,.k1,.d] [ps 3 (iv 2)] ?_
     rw [(qM (s:=s) h1 h2 h3 h4 h5 (VS (fun c=>h6 c.1) (fun c=>h37 c.1) h69 h70) (j:=(x,y)) (by unfold vZ qU;rw [if_pos (by omega)];exact Prod.ext (by show _=x;omega) (by show _=y;omega))).trans (zJ h85)]
     exact qk hc0 [2,3] [0]
    refine qQ qD (gy 3 3++[(6,.yes true)]) [.d,.k2,.d,.d,.n,.r] [ps 154 (bv true)] (on 4 (bf h84) oz)<|qL (b:=true) rfl rfl<|qB<|qH qD [.k1,.n,.d,.d,.k1,.d] [ps 3 (iv 2)] ?_
    rw [(qM (s:=s) h1 h2 h3 h4 h5 (VS (fun c=>h6 c.1) (fun c=>h37 c.1) h69 h70) (j:=(x,y)) (by unfold vZ qU;rw [if_pos (by omega)];exact Prod.ext (by show _=x;omega) (by show _=y;omega))).trans (zK h84)]
    exact qk hc0 [2,3] [0]
   refine qR (qV h83)<|qF<|qB<|qB ?_
   obtain ⟨x,hx⟩:∃ x,x=((qI (qz s)).1)-1:=⟨_,rfl⟩
   obtain ⟨y,hy⟩:∃ y,y=((12*((((qI (qz s)).1)-1) / 7))+(Pi.nat7 ((((qI (qz s)).1)-1) % 7)))-1:=⟨_,rfl⟩
   refine qj (Wk.eq (show _=[ps 0 (sv (st s)),ps 2 (.opt 0 0),ps 11 (.opt 456 0),ps 134 (bv (decide ((((wv s).length:Nat):Int)<(s.length:Int)))),pb 0 41 [(iv 0),(iv 0)],pb 456 41 [(iv x),(iv y)]] from by rw [hx,hy])) ?_
   refine yC qD 1 [.k3,.n,.n,.d,.r] [ps 13 (sv (st ((qG x y).1))),ps 14 (iv ((qG x y).2))] (zO 792 (yK x y (by unfold Pi.I64;omega) (by unfold Pi.I64;omega)) oz)<|qB ?_
   by_cases h86:((qG x y).2)=0
   ·refine qQ qD (gn 3 2++[(5,.gd false (.val (.av (.bool (!decide (((qG x y).1)=s)))))),(6,.yes false)]) [.d,.k2,.d,.d,.n,.r] [ps 154 (bv (!(decide (((qG x y).1)=s))))] (on 3 (bt h86) (oc (yW _ _:(!((st ((qG x y).1)).toList == (st s).toList)) = !decide (((qG x y).1)=s)) (oc (bt h86) oz))) ?_
    by_cases h87:((qG x y).1)=s
    ·refine qR (bt h87)<|qF<|qB<|zD qD [] [ps 2 (.opt 0 0),ps 3 (iv 0),pb 0 41 [(iv x),(iv y)]] (oz) ?_
     rw [(qM (s:=s) h1 h2 h3 h4 h5 (VS (fun c=>h6 c.1) (fun c=>h37 c.1) h69 h70) (j:=(x,y)) (by unfold vZ qU;rw [if_neg (by omega)];exact Prod.ext (by show _=x;omega) (by show _=y;omega))).trans (zH h86 h87)]
     exact qk hc0 [2,3] [0]
    refine qS (bf h87)<|qB<|qH qD [.k1,.n,.d,.d,.k1,.d] [ps 3 (iv 2)] ?_
    rw [(qM (s:=s) h1 h2 h3 h4 h5 (VS (fun c=>h6 c.1) (fun c=>h37 c.1) h69 h70) (j:=(x,y)) (by unfold vZ qU;rw [if_neg (by omega)];exact Prod.ext (by show _=x;omega) (by show _=y;omega))).trans (zJ h87)]
    exact qk hc0 [2,3] [0]
   refine qQ qD (gy 3 3++[(6,.yes true)]) [.d,.k2,.d,.d,.n,.r] [ps 154 (bv true)] (on 4 (bf h86) oz)<|qL (b:=true) rfl rfl<|qB<|qH qD [.k1,.n,.d,.d,.k1,.d] [ps 3 (iv 2)] ?_
   rw [(qM (s:=s) h1 h2 h3 h4 h5 (VS (fun c=>h6 c.1) (fun c=>h37 c.1) h69 h70) (j:=(x,y)) (by unfold vZ qU;rw [if_neg (by omega)];exact Prod.ext (by show _=x;omega) (by show _=y;omega))).trans (zK h86)]
   exact qk hc0 [2,3] [0]
  refine qQ qD ([(1,.val (.av (.bool (decide ((zL s)=([109]:TX))))))]++gn 3 4++[(7,.yes false)]) [.k7,.d,.n,.r] [ps 84 (bv false)] (oc (qv _ _:((st (zL s)).toList == (st ([109]:TX)).toList)=decide ((zL s)=([109]:TX))) (on 5 (qV h69) oz))<|qO (b:=false) rfl rfl<|qB<|qQ qD [(1,.call [] [(sv (st (zL s))),(sv (st [65]))] [] (sv (st (Lib.trimS (zL s) [65]))) []),(2,.val (.av (.bool (decide ((Lib.trimS (zL s) [65])=([]:TX))))))] [.k7,.d,.n,.r] [ps 97 (bv (decide ((Lib.trimS (zL s) [65])=([]:TX))))] (zO 712 (yR (zL s) [65] (by omega) (by decide) (yN (by decide))) (oc (qv _ _:((st (Lib.trimS (zL s) [65])).toList == (st ([]:TX)).toList)=decide ((Lib.trimS (zL s) [65])=([]:TX))) oz)) ?_
  by_cases h88:(Lib.trimS (zL s) [65])=([]:TX)
  ·refine qS (qT h88)<|qQ qD [] [.k3,.d,.d,.k1,.d,.d,.k1,.d,.n] [pb 456 41 [(iv (((qI (qz s)).1)-1)),(iv (((12*((((qI (qz s)).1)-1) / 7))+(Pi.nat7 ((((qI (qz s)).1)-1) % 7)))+(((zL s).length:Nat):Int)))]] (oi (((12*((((qI (qz s)).1)-1) / 7))+(Pi.nat7 ((((qI (qz s)).1)-1) % 7)))+(((zL s).length:Nat):Int)) (by omega) oz)<|qZ<|qB<|qB<|qH qD [.k2,.d,.k1,.n,.r] [ps 134 (bv (decide ((((wv s).length:Nat):Int)<(s.length:Int))))] ?_
   by_cases h89:(((wv s).length:Nat):Int)<(s.length:Int)
   ·refine qS (qT h89)<|qQ qD [] [.k3,.d,.k1,.d,.n] [pb 456 41 [(iv (0-(((qI (qz s)).1)-1))),(iv (0-(((12*((((qI (qz s)).1)-1) / 7))+(Pi.nat7 ((((qI (qz s)).1)-1) % 7)))+(((zL s).length:Nat):Int))))]] (oi (0-(((qI (qz s)).1)-1)) (by omega) (oi (0-(((12*((((qI (qz s)).1)-1) / 7))+(Pi.nat7 ((((qI (qz s)).1)-1) % 7)))+(((zL s).length:Nat):Int))) (by omega) oz))<|qB<|qB ?_
    obtain ⟨x,hx⟩:∃ x,x=0-(((qI (qz s)).1)-1):=⟨_,rfl⟩
    obtain ⟨y,hy⟩:∃ y,y=0-(((12*((((qI (qz s)).1)-1) / 7))+(Pi.nat7 ((((qI (qz s)).1)-1) % 7)))+(((zL s).length:Nat):Int)):=⟨_,rfl⟩
    refine qj (Wk.eq (show _=[ps 0 (sv (st s)),ps 2 (.opt 0 0),ps 11 (.opt 456 0),pb 0 41 [(iv 0),(iv 0)],pb 456 41 [(iv x),(iv y)]] from by rw [hx,hy])) ?_
    refine yC qD 1 [.k3,.n,.n,.r] [ps 13 (sv (st ((qG x y).1))),ps 14 (iv ((qG x y).2))] (zO 912 (yK x y (by unfold Pi.I64;omega) (by unfold Pi.I64;omega)) oz)<|qB ?_
    by_cases h90:((qG x y).2)=0
    ·refine qQ qD (gn 3 2++[(5,.gd false (.val (.av (.bool (!decide (((qG x y).1)=s)))))),(6,.yes false)]) [.d,.k2,.d,.d,.n,.r] [ps 154 (bv (!(decide (((qG x y).1)=s))))] (on 3 (bt h90) (oc (yW _ _:(!((st ((qG x y).1)).toList == (st s).toList)) = !decide (((qG x y).1)=s)) (oc (bt h90) oz))) ?_
     by_cases h91:((qG x y).1)=s
     ·refine qR (bt h91)<|qF<|qB<|zD qD [] [ps 2 (.opt 0 0),ps 3 (iv 0),pb 0 41 [(iv x),(iv y)]] (oz) ?_
      rw [(qM (s:=s) h1 h2 h3 h4 h5 (wD (fun c=>h6 c.1) (fun c=>h37 c.1) (fun c=>h69 c.1) h88) (j:=(x,y)) (by unfold vZ qU;rw [if_pos (by omega)];exact Prod.ext (by show _=x;omega) (by show _=y;omega))).trans (zH h90 h91)]
      exact qk hc0 [2,3] [0]
     refine qS (bf h91)<|qB<|qH qD [.k1,.n,.d,.d,.k1,.d] [ps 3 (iv 2)] ?_
     rw [(qM (s:=s) h1 h2 h3 h4 h5 (wD (fun c=>h6 c.1) (fun c=>h37 c.1) (fun c=>h69 c.1) h88) (j:=(x,y)) (by unfold vZ qU;rw [if_pos (by omega)];exact Prod.ext (by show _=x;omega) (by show _=y;omega))).trans (zJ h91)]
     exact qk hc0 [2,3] [0]
    refine qQ qD (gy 3 3++[(6,.yes true)]) [.d,.k2,.d,.d,.n,.r] [ps 154 (bv true)] (on 4 (bf h90) oz)<|qL (b:=true) rfl rfl<|qB<|qH qD [.k1,.n,.d,.d,.k1,.d] [ps 3 (iv 2)] ?_
    rw [(qM (s:=s) h1 h2 h3 h4 h5 (wD (fun c=>h6 c.1) (fun c=>h37 c.1) (fun c=>h69 c.1) h88) (j:=(x,y)) (by unfold vZ qU;rw [if_pos (by omega)];exact Prod.ext (by show _=x;omega) (by show _=y;omega))).trans (zK h90)]
    exact qk hc0 [2,3] [0]
   refine qR (qV h89)<|qF<|qB<|qB ?_
   obtain ⟨x,hx⟩:∃ x,x=((qI (qz s)).1)-1:=⟨_,rfl⟩
   obtain ⟨y,hy⟩:∃ y,y=((12*((((qI (qz s)).1)-1) / 7))+(Pi.nat7 ((((qI (qz s)).1)-1) % 7)))+(((zL s).length:Nat):Int):=⟨_,rfl⟩
   refine qj (Wk.eq (show _=[ps 0 (sv (st s)),ps 2 (.opt 0 0),ps 11 (.opt 456 0),ps 134 (bv (decide ((((wv s).length:Nat):Int)<(s.length:Int)))),pb 0 41 [(iv 0),(iv 0)],pb 456 41 [(iv x),(iv y)]] from by rw [hx,hy])) ?_
   refine yC qD 1 [.k3,.n,.n,.d,.r] [ps 13 (sv (st ((qG x y).1))),ps 14 (iv ((qG x y).2))] (zO 832 (yK x y (by unfold Pi.I64;omega) (by unfold Pi.I64;omega)) oz)<|qB ?_
   by_cases h92:((qG x y).2)=0
   ·refine qQ qD (gn 3 2++[(5,.gd false (.val (.av (.bool (!decide (((qG x y).1)=s)))))),(6,.yes false)]) [.d,.k2,.d,.d,.n,.r] [ps 154 (bv (!(decide (((qG x y).1)=s))))] (on 3 (bt h92) (oc (yW _ _:(!((st ((qG x y).1)).toList == (st s).toList)) = !decide (((qG x y).1)=s)) (oc (bt h92) oz))) ?_
    by_cases h93:((qG x y).1)=s
    ·refine qR (bt h93)<|qF<|qB<|zD qD [] [ps 2 (.opt 0 0),ps 3 (iv 0),pb 0 41 [(iv x),(iv y)]] (oz) ?_
     rw [(qM (s:=s) h1 h2 h3 h4 h5 (wD (fun c=>h6 c.1) (fun c=>h37 c.1) (fun c=>h69 c.1) h88) (j:=(x,y)) (by unfold vZ qU;rw [if_neg (by omega)];exact Prod.ext (by show _=x;omega) (by show _=y;omega))).trans (zH h92 h93)]
     exact qk hc0 [2,3] [0]
    refine qS (bf h93)<|qB<|qH qD [.k1,.n,.d,.d,.k1,.d] [ps 3 (iv 2)] ?_
    rw [(qM (s:=s) h1 h2 h3 h4 h5 (wD (fun c=>h6 c.1) (fun c=>h37 c.1) (fun c=>h69 c.1) h88) (j:=(x,y)) (by unfold vZ qU;rw [if_neg (by omega)];exact Prod.ext (by show _=x;omega) (by show _=y;omega))).trans (zJ h93)]
    exact qk hc0 [2,3] [0]
   refine qQ qD (gy 3 3++[(6,.yes true)]) [.d,.k2,.d,.d,.n,.r] [ps 154 (bv true)] (on 4 (bf h92) oz)<|qL (b:=true) rfl rfl<|qB<|qH qD [.k1,.n,.d,.d,.k1,.d] [ps 3 (iv 2)] ?_
   rw [(qM (s:=s) h1 h2 h3 h4 h5 (wD (fun c=>h6 c.1) (fun c=>h37 c.1) (fun c=>h69 c.1) h88) (j:=(x,y)) (by unfold vZ qU;rw [if_neg (by omega)];exact Prod.ext (by show _=x;omega) (by show _=y;omega))).trans (zK h92)]
   exact qk hc0 [2,3] [0]
  refine qR (qV h88)<|qB ?_
  by_cases h94:(Lib.trimS (zL s) [100])=([]:TX)
  ·refine qQ qD ([(1,.call [] [(sv (st (zL s))),(sv (st [100]))] [] (sv (st (Lib.trimS (zL s) [100]))) []),(2,.val (.av (.bool (decide ((Lib.trimS (zL s) [100])=([]:TX))))))]++gy 4 2++[(6,.gd true (.call [] [(iv (((qI (qz s)).1)-1))] [] (bv (zN (((qI (qz s)).1)-1))) [])),(7,.yes true)]) [.k4,.d,.k2,.d,.n,.r] [ps 106 (bv (zN (((qI (qz s)).1)-1)))] (zO 744 (yR (zL s) [100] (by omega) (by decide) (yN (by decide))) (oc (qv _ _:((st (Lib.trimS (zL s) [100])).toList == (st ([]:TX)).toList)=decide ((Lib.trimS (zL s) [100])=([]:TX))) (on 2 (qT h94) (oi (((qI (qz s)).1)-1) (by omega) (oc (qT h94) (zO 784 (yQ (((qI (qz s)).1)-1) (by omega)) (oc (qT h94) oz))))))) ?_
   by_cases h95:(zN (((qI (qz s)).1)-1))=true
   ·refine qL (b:=(zN (((qI (qz s)).1)-1))) rfl h95<|qQ qD [] [.k3,.d,.k1,.d,.d,.k1,.d,.n] [pb 456 41 [(iv (((qI (qz s)).1)-1)),(iv (((12*((((qI (qz s)).1)-1) / 7))+(Pi.nat7 ((((qI (qz s)).1)-1) % 7)))-(((zL s).length:Nat):Int)))]] (oi (((12*((((qI (qz s)).1)-1) / 7))+(Pi.nat7 ((((qI (qz s)).1)-1) % 7)))-(((zL s).length:Nat):Int)) (by omega) oz)<|qZ<|qB<|qB<|qH qD [.k2,.d,.k1,.n,.r] [ps 134 (bv (decide ((((wv s).length:Nat):Int)<(s.length:Int))))] ?_
    by_cases h96:(((wv s).length:Nat):Int)<(s.length:Int)
    ·refine qS (qT h96)<|qQ qD [] [.k3,.d,.k1,.d,.n] [pb 456 41 [(iv (0-(((qI (qz s)).1)-1))),(iv (0-(((12*((((qI (qz s)).1)-1) / 7))+(Pi.nat7 ((((qI (qz s)).1)-1) % 7)))-(((zL s).length:Nat):Int))))]] (oi (0-(((qI (qz s)).1)-1)) (by omega) (oi (0-(((12*((((qI (qz s)).1)-1) / 7))+(Pi.nat7 ((((qI (qz s)).1)-1) % 7)))-(((zL s).length:Nat):Int))) (by omega) oz))<|qB<|qB ?_
     obtain ⟨x,hx⟩:∃ x,x=0-(((qI (qz s)).1)-1):=⟨_,rfl⟩
     obtain ⟨y,hy⟩:∃ y,y=0-(((12*((((qI (qz s)).1)-1) / 7))+(Pi.nat7 ((((qI (qz s)).1)-1) % 7)))-(((zL s).length:Nat):Int)):=⟨_,rfl⟩
     refine qj (Wk.eq (show _=[ps 0 (sv (st s)),ps 2 (.opt 0 0),ps 11 (.opt 456 0),pb 0 41 [(iv 0),(iv 0)],pb 456 41 [(iv x),(iv y)]] from by rw [hx,hy])) ?_
     refine yC qD 1 [.k3,.n,.n,.r] [ps 13 (sv (st ((qG x y).1))),ps 14 (iv ((qG x y).2))] (zO 984 (yK x y (by unfold Pi.I64;omega) (by unfold Pi.I64;omega)) oz)<|qB ?_
     by_cases h97:((qG x y).2)=0
     ·refine qQ qD (gn 3 2++[(5,.gd false (.val (.av (.bool (!decide (((qG x y).1)=s)))))),(6,.yes false)]) [.d,.k2,.d,.d,.n,.r] [ps 154 (bv (!(decide (((qG x y).1)=s))))] (on 3 (bt h97) (oc (yW _ _:(!((st ((qG x y).1)).toList == (st s).toList)) = !decide (((qG x y).1)=s)) (oc (bt h97) oz))) ?_
      by_cases h98:((qG x y).1)=s
      ·refine qR (bt h98)<|qF<|qB<|zD qD [] [ps 2 (.opt 0 0),ps 3 (iv 0),pb 0 41 [(iv x),(iv y)]] (oz) ?_
       rw [(qM (s:=s) h1 h2 h3 h4 h5 (wk (fun c=>h6 c.1) (fun c=>h37 c.1) (fun c=>h69 c.1) h88 h94 h95) (j:=(x,y)) (by unfold vZ qU;rw [if_pos (by omega)];exact Prod.ext (by show _=x;omega) (by show _=y;omega))).trans (zH h97 h98)]
       exact qk hc0 [2,3] [0]
      refine qS (bf h98)<|qB<|qH qD [.k1,.n,.d,.d,.k1,.d] [ps 3 (iv 2)] ?_
      rw [(qM (s:=s) h1 h2 h3 h4 h5 (wk (fun c=>h6 c.1) (fun c=>h37 c.1) (fun c=>h69 c.1) h88 h94 h95) (j:=(x,y)) (by unfold vZ qU;rw [if_pos (by omega)];exact Prod.ext (by show _=x;omega) (by show _=y;omega))).trans (zJ h98)]
      exact qk hc0 [2,3] [0]
     refine qQ qD (gy 3 3++[(6,.yes true)]) [.d,.k2,.d,.d,.n,.r] [ps 154 (bv true)] (on 4 (bf h97) oz)<|qL (b:=true) rfl rfl<|qB<|qH qD [.k1,.n,.d,.d,.k1,.d] [ps 3 (iv 2)] ?_
     rw [(qM (s:=s) h1 h2 h3 h4 h5 (wk (fun c=>h6 c.1) (fun c=>h37 c.1) (fun c=>h69 c.1) h88 h94 h95) (j:=(x,y)) (by unfold vZ qU;rw [if_pos (by omega)];exact Prod.ext (by show _=x;omega) (by show _=y;omega))).trans (zK h97)]
     exact qk hc0 [2,3] [0]
    refine qR (qV h96)<|qF<|qB<|qB ?_
    obtain ⟨x,hx⟩:∃ x,x=((qI (qz s)).1)-1:=⟨_,rfl⟩
    obtain ⟨y,hy⟩:∃ y,y=((12*((((qI (qz s)).1)-1) / 7))+(Pi.nat7 ((((qI (qz s)).1)-1) % 7)))-(((zL s).length:Nat):Int):=⟨_,rfl⟩
    refine qj (Wk.eq (show _=[ps 0 (sv (st s)),ps 2 (.opt 0 0),ps 11 (.opt 456 0),ps 134 (bv (decide ((((wv s).length:Nat):Int)<(s.length:Int)))),pb 0 41 [(iv 0),(iv 0)],pb 456 41 [(iv x),(iv y)]] from by rw [hx,hy])) ?_
    refine yC qD 1 [.k3,.n,.n,.d,.r] [ps 13 (sv (st ((qG x y).1))),ps 14 (iv ((qG x y).2))] (zO 904 (yK x y (by unfold Pi.I64;omega) (by unfold Pi.I64;omega)) oz)<|qB ?_
    by_cases h99:((qG x y).2)=0
    ·refine qQ qD (gn 3 2++[(5,.gd false (.val (.av (.bool (!decide (((qG x y).1)=s)))))),(6,.yes false)]) [.d,.k2,.d,.d,.n,.r] [ps 154 (bv (!(decide (((qG x y).1)=s))))] (on 3 (bt h99) (oc (yW _ _:(!((st ((qG x y).1)).toList == (st s).toList)) = !decide (((qG x y).1)=s)) (oc (bt h99) oz))) ?_
     by_cases h100:((qG x y).1)=s
     ·refine qR (bt h100)<|qF<|qB<|zD qD [] [ps 2 (.opt 0 0),ps 3 (iv 0),pb 0 41 [(iv x),(iv y)]] (oz) ?_
      rw [(qM (s:=s) h1 h2 h3 h4 h5 (wk (fun c=>h6 c.1) (fun c=>h37 c.1) (fun c=>h69 c.1) h88 h94 h95) (j:=(x,y)) (by unfold vZ qU;rw [if_neg (by omega)];exact Prod.ext (by show _=x;omega) (by show _=y;omega))).trans (zH h99 h100)]
      exact qk hc0 [2,3] [0]
     refine qS (bf h100)<|qB<|qH qD [.k1,.n,.d,.d,.k1,.d] [ps 3 (iv 2)] ?_
     rw [(qM (s:=s) h1 h2 h3 h4 h5 (wk (fun c=>h6 c.1) (fun c=>h37 c.1) (fun c=>h69 c.1) h88 h94 h95) (j:=(x,y)) (by unfold vZ qU;rw [if_neg (by omega)];exact Prod.ext (by show _=x;omega) (by show _=y;omega))).trans (zJ h100)]
     exact qk hc0 [2,3] [0]
    refine qQ qD (gy 3 3++[(6,.yes true)]) [.d,.k2,.d,.d,.n,.r] [ps 154 (bv true)] (on 4 (bf h99) oz)<|qL (b:=true) rfl rfl<|qB<|qH qD [.k1,.n,.d,.d,.k1,.d] [ps 3 (iv 2)] ?_
    rw [(qM (s:=s) h1 h2 h3 h4 h5 (wk (fun c=>h6 c.1) (fun c=>h37 c.1) (fun c=>h69 c.1) h88 h94 h95) (j:=(x,y)) (by unfold vZ qU;rw [if_neg (by omega)];exact Prod.ext (by show _=x;omega) (by show _=y;omega))).trans (zK h99)]
    exact qk hc0 [2,3] [0]
   refine qO (b:=(zN (((qI (qz s)).1)-1))) rfl (Bool.eq_false_iff.2 h95)<|qB<|qQ qD [(1,.call [] [(sv (st (zL s))),(sv (st [100]))] [] (sv (st (Lib.trimS (zL s) [100]))) []),(2,.val (.av (.bool (decide ((Lib.trimS (zL s) [100])=([]:TX))))))] [.k3,.d,.k2,.d,.n,.r] [ps 120 (bv (decide ((Lib.trimS (zL s) [100])=([]:TX))))] (zO 816 (yR (zL s) [100] (by omega) (by decide) (yN (by decide))) (oc (qv _ _:((st (Lib.trimS (zL s) [100])).toList == (st ([]:TX)).toList)=decide ((Lib.trimS (zL s) [100])=([]:TX))) oz))<|qS (qT h94)<|qQ qD [] [.k4,.d,.d,.k1,.d,.n] [pb 456 41 [(iv (((qI (qz s)).1)-1)),(iv (((12*((((qI (qz s)).1)-1) / 7))+(Pi.nat7 ((((qI (qz s)).1)-1) % 7)))-((((zL s).length:Nat):Int)+1)))]] (oi ((((zL s).length:Nat):Int)+1) (by omega) (oi (((12*((((qI (qz s)).1)-1) / 7))+(Pi.nat7 ((((qI (qz s)).1)-1) % 7)))-((((zL s).length:Nat):Int)+1)) (by omega) oz))<|qZ<|qB<|qB<|qH qD [.k2,.d,.k1,.n,.r] [ps 134 (bv (decide ((((wv s).length:Nat):Int)<(s.length:Int))))] ?_
   by_cases h101:(((wv s).length:Nat):Int)<(s.length:Int)
   ·refine qS (qT h101)<|qQ qD [] [.k3,.d,.k1,.d,.n] [pb 456 41 [(iv (0-(((qI (qz s)).1)-1))),(iv (0-(((12*((((qI (qz s)).1)-1) / 7))+(Pi.nat7 ((((qI (qz s)).1)-1) % 7)))-((((zL s).length:Nat):Int)+1))))]] (oi (0-(((qI (qz s)).1)-1)) (by omega) (oi (0-(((12*((((qI (qz s)).1)-1) / 7))+(Pi.nat7 ((((qI (qz s)).1)-1) % 7)))-((((zL s).length:Nat):Int)+1))) (by omega) oz))<|qB<|qB ?_
    obtain ⟨x,hx⟩:∃ x,x=0-(((qI (qz s)).1)-1):=⟨_,rfl⟩
    obtain ⟨y,hy⟩:∃ y,y=0-(((12*((((qI (qz s)).1)-1) / 7))+(Pi.nat7 ((((qI (qz s)).1)-1) % 7)))-((((zL s).length:Nat):Int)+1)):=⟨_,rfl⟩
    refine qj (Wk.eq (show _=[ps 0 (sv (st s)),ps 2 (.opt 0 0),ps 11 (.opt 456 0),pb 0 41 [(iv 0),(iv 0)],pb 456 41 [(iv x),(iv y)]] from by rw [hx,hy])) ?_
    refine yC qD 1 [.k3,.n,.n,.r] [ps 13 (sv (st ((qG x y).1))),ps 14 (iv ((qG x y).2))] (zO 1024 (yK x y (by unfold Pi.I64;omega) (by unfold Pi.I64;omega)) oz)<|qB ?_
    by_cases h102:((qG x y).2)=0
    ·refine qQ qD (gn 3 2++[(5,.gd false (.val (.av (.bool (!decide (((qG x y).1)=s)))))),(6,.yes false)]) [.d,.k2,.d,.d,.n,.r] [ps 154 (bv (!(decide (((qG x y).1)=s))))] (on 3 (bt h102) (oc (yW _ _:(!((st ((qG x y).1)).toList == (st s).toList)) = !decide (((qG x y).1)=s)) (oc (bt h102) oz))) ?_
     by_cases h103:((qG x y).1)=s
     ·refine qR (bt h103)<|qF<|qB<|zD qD [] [ps 2 (.opt 0 0),ps 3 (iv 0),pb 0 41 [(iv x),(iv y)]] (oz) ?_
      rw [(qM (s:=s) h1 h2 h3 h4 h5 (Qk (fun c=>h6 c.1) (fun c=>h37 c.1) (fun c=>h69 c.1) h88 h94 h95) (j:=(x,y)) (by unfold vZ qU;rw [if_pos (by omega)];exact Prod.ext (by show _=x;omega) (by show _=y;omega))).trans (zH h102 h103)]
      exact qk hc0 [2,3] [0]
     refine qS (bf h103)<|qB<|qH qD [.k1,.n,.d,.d,.k1,.d] [ps 3 (iv 2)] ?_
     rw [(qM (s:=s) h1 h2 h3 h4 h5 (Qk (fun c=>h6 c.1) (fun c=>h37 c.1) (fun c=>h69 c.1) h88 h94 h95) (j:=(x,y)) (by unfold vZ qU;rw [if_pos (by omega)];exact Prod.ext (by show _=x;omega) (by show _=y;omega))).trans (zJ h103)]
     exact qk hc0 [2,3] [0]
    refine qQ qD (gy 3 3++[(6,.yes true)]) [.d,.k2,.d,.d,.n,.r] [ps 154 (bv true)] (on 4 (bf h102) oz)<|qL (b:=true) rfl rfl<|qB<|qH qD [.k1,.n,.d,.d,.k1,.d] [ps 3 (iv 2)] ?_
    rw [(qM (s:=s) h1 h2 h3 h4 h5 (Qk (fun c=>h6 c.1) (fun c=>h37 c.1) (fun c=>h69 c.1) h88 h94 h95) (j:=(x,y)) (by unfold vZ qU;rw [if_pos (by omega)];exact Prod.ext (by show _=x;omega) (by show _=y;omega))).trans (zK h102)]
    exact qk hc0 [2,3] [0]
   refine qR (qV h101)<|qF<|qB<|qB ?_
   obtain ⟨x,hx⟩:∃ x,x=((qI (qz s)).1)-1:=⟨_,rfl⟩
   obtain ⟨y,hy⟩:∃ y,y=((12*((((qI (qz s)).1)-1) / 7))+(Pi.nat7 ((((qI (qz s)).1)-1) % 7)))-((((zL s).length:Nat):Int)+1):=⟨_,rfl⟩
   refine qj (Wk.eq (show _=[ps 0 (sv (st s)),ps 2 (.opt 0 0),ps 11 (.opt 456 0),ps 134 (bv (decide ((((wv s).length:Nat):Int)<(s.length:Int)))),pb 0 41 [(iv 0),(iv 0)],pb 456 41 [(iv x),(iv y)]] from by rw [hx,hy])) ?_
   refine yC qD 1 [.k3,.n,.n,.d,.r] [ps 13 (sv (st ((qG x y).1))),ps 14 (iv ((qG x y).2))] (zO 944 (yK x y (by unfold Pi.I64;omega) (by unfold Pi.I64;omega)) oz)<|qB ?_
   by_cases h104:((qG x y).2)=0
   ·refine qQ qD (gn 3 2++[(5,.gd false (.val (.av (.bool (!decide (((qG x y).1)=s)))))),(6,.yes false)]) [.d,.k2,.d,.d,.n,.r] [ps 154 (bv (!(decide (((qG x y).1)=s))))] (on 3 (bt h104) (oc (yW _ _:(!((st ((qG x y).1)).toList == (st s).toList)) = !decide (((qG x y).1)=s)) (oc (bt h104) oz))) ?_
    by_cases h105:((qG x y).1)=s
    ·refine qR (bt h105)<|qF<|qB<|zD qD [] [ps 2 (.opt 0 0),ps 3 (iv 0),pb 0 41 [(iv x),(iv y)]] (oz) ?_
     rw [(qM (s:=s) h1 h2 h3 h4 h5 (Qk (fun c=>h6 c.1) (fun c=>h37 c.1) (fun c=>h69 c.1) h88 h94 h95) (j:=(x,y)) (by unfold vZ qU;rw [if_neg (by omega)];exact Prod.ext (by show _=x;omega) (by show _=y;omega))).trans (zH h104 h105)]
     exact qk hc0 [2,3] [0]
    refine qS (bf h105)<|qB<|qH qD [.k1,.n,.d,.d,.k1,.d] [ps 3 (iv 2)] ?_
    rw [(qM (s:=s) h1 h2 h3 h4 h5 (Qk (fun c=>h6 c.1) (fun c=>h37 c.1) (fun c=>h69 c.1) h88 h94 h95) (j:=(x,y)) (by unfold vZ qU;rw [if_neg (by omega)];exact Prod.ext (by show _=x;omega) (by show _=y;omega))).trans (zJ h105)]
    exact qk hc0 [2,3] [0]
   refine qQ qD (gy 3 3++[(6,.yes true)]) [.d,.k2,.d,.d,.n,.r] [ps 154 (bv true)] (on 4 (bf h104) oz)<|qL (b:=true) rfl rfl<|qB<|qH qD [.k1,.n,.d,.d,.k1,.d] [ps 3 (iv 2)] ?_
   rw [(qM (s:=s) h1 h2 h3 h4 h5 (Qk (fun c=>h6 c.1) (fun c=>h37 c.1) (fun c=>h69 c.1) h88 h94 h95) (j:=(x,y)) (by unfold vZ qU;rw [if_neg (by omega)];exact Prod.ext (by show _=x;omega) (by show _=y;omega))).trans (zK h104)]
   exact qk hc0 [2,3] [0]
  refine qQ qD ([(1,.call [] [(sv (st (zL s))),(sv (st [100]))] [] (sv (st (Lib.trimS (zL s) [100]))) []),(2,.val (.av (.bool (decide ((Lib.trimS (zL s) [100])=([]:TX))))))]++gn 4 3++[(7,.yes false)]) [.k4,.d,.k2,.d,.n,.r] [ps 106 (bv false)] (zO 744 (yR (zL s) [100] (by omega) (by decide) (yN (by decide))) (oc (qv _ _:((st (Lib.trimS (zL s) [100])).toList == (st ([]:TX)).toList)=decide ((Lib.trimS (zL s) [100])=([]:TX))) (on 4 (qV h94) oz)))<|qO (b:=false) rfl rfl<|qB<|qQ qD [(1,.call [] [(sv (st (zL s))),(sv (st [100]))] [] (sv (st (Lib.trimS (zL s) [100]))) []),(2,.val (.av (.bool (decide ((Lib.trimS (zL s) [100])=([]:TX))))))] [.k3,.d,.k2,.d,.n,.r] [ps 120 (bv (decide ((Lib.trimS (zL s) [100])=([]:TX))))] (zO 816 (yR (zL s) [100] (by omega) (by decide) (yN (by decide))) (oc (qv _ _:((st (Lib.trimS (zL s) [100])).toList == (st ([]:TX)).toList)=decide ((Lib.trimS (zL s) [100])=([]:TX))) oz))<|qR (qV h94)<|qB<|qH qD [.d,.k1,.n,.d,.d,.d,.d,.k1,.d] [ps 3 (iv 2)] ?_
  rw [QI (s:=s) h1 h2 h3 h4 h5 (qdt (fun c=>h6 c.1) (fun c=>h37 c.1) (fun c=>h69 c.1) h88 h94)]
  exact qk hc0 [2,3] [0]
 refine qQ qD (gy 3 2++[(5,.yes true)]++gy 7 2) [.k5,.d,.n,.r] [ps 40 (bv true)] (oc (congrArg Bool.not (Bool.eq_false_iff.2 h1):(!((qI (qz s)).2))=true) (oc (congrArg Bool.not (Bool.eq_false_iff.2 h1):(!((qI (qz s)).2))=true) (oc (congrArg Bool.not (Bool.eq_false_iff.2 h1):(!((qI (qz s)).2))=true) (on 2 tt oz))))<|qL (b:=true) rfl rfl<|qB<|qH qD [.d,.k1,.n,.d,.d,.d,.d,.r] [ps 3 (iv 2)] ?_
 rw [vD (s:=s) (.inl h1)]
 exact qk hc0 [2,3] [0]
theorem named_pc (s:List UInt8) (hs:s.length≤9223372036854775807):PC Tryz.prog 139 [(sv (st s))] [] ((.tup [(.agg [(iv ((qY s).1.1)),(iv ((qY s).1.2))]),(iv ((qY s).2))])) []:=qbh [none] rfl (fun i=>by rcases i with _|_|i <;> rfl) (named_pc0 s hs)
end Go.Proofs.YtmlnilkbolcknaaGreatDoor.Pm
