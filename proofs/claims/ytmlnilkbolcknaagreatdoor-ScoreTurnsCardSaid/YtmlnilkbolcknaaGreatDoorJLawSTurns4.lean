/-
  SCORE: what is wrong: walk. (Printed by wip/pm.) | A piece written: walk. (Printed by wip/pm.) | SCORE: plain: one text read;sizes;what printing tells. No program in sight. | THE DOCUMENT's one: is a row of bytes one rune that may be sung? The walk of a range zC a string. | THE DOCUMENT's ends: is a byte one of the signs? The walk. | SCORE: plain,for the document's reader: one rune that may be sung,out of its bytes;a number,byte by byte. No program in sight. | THE VALUE MACHINE (PX): calls and operations that panic;functions that hand back or panic. No program in sight. | FROM THE ROW's LIST OF VARIABLES to what the walks ask of the world. | What every law's row of this seat needs: the arguments read vF the call as before it,whatever their types,if the call has turned nothing that was there. | THE VALUE MACHINE (Row): a law's arguments,opened to values. | SCORE: a text read: gaps and signs: walks. (Printed by wip/pm.) | SCORE: a text read: words: walks. (Printed by wip/pm.) | SCORE: the document's reader: signs and words: walks. (Printed by wip/pm.) | SCORE: the document tells equal voices from others: walk. (Printed by wip/pm.) | strings.IndexRune at ZI above ASCII in texts of ASCII;strings.IndexAny at short texts of any bytes. Over any program. | A rune that does not begin in ASCII: none of its bytes is ASCII;a step of a range zC a string in whatever world. | strings.IndexAny at a text of at most 8 bytes,whatever its bytes;the signs are ASCII. Over any program. | SCORE: whatever the text: what the reader asks of the library's texts. | SCORE: a text read: numbers and pitches: walks. (Printed by wip/pm.) | SCORE: a text read: lyrics: walk. (Printed by wip/pm.) | SCORE: a text read: groups: walk. (Printed by wip/pm.)
-/
import Derived.Test.YtmlnilkbolcknaaGreatDoorJLawSTurns3
import Derived.Test.YtmlnilkbolcknaaGreatDoorJLawSTurns2
import Derived.Laws.RangeAny
import Derived.Laws.RangeString
import Derived.LoopTactic
import Derived.Lib.SlBytesConst
import Derived.Lib.DecodeN
import Derived.Test.YtmlnilkbolcknaaGreatDoorJLawSTurns1
import Derived.Test.YtmlnilkbolcknaaGreatDoorRows
import Derived.Lib.LaidU8T
import Derived.Lib.LaidTab
import Derived.PinnedBridge
import Derived.Stop.LaidErr
import Derived.Lay
import Derived.WalkKit
import Derived.ProofKit
import Derived.OpenShut
import Derived.Lib.SmallJoins
import Derived.Below
import Derived.ChangeSame
import Derived.SizedLaws
import Derived.Deep.Matrix
import Derived.Shelf.Strings.IndexAnyAll
import Derived.Shelf.Small.Utf8
import Derived.Laws.Runes
import Derived.Walk
import Derived.Shelf.RegionOpen
import Derived.WalkMore
import Derived.Deep.LoopGhost
import Derived.Lib.IndexAny
import Derived.Lib.IndexBytes
import Derived.Lib.Builder
import Derived.Shelf.Strconv.AtoiAll
set_option linter.unusedVariables false
set_option linter.unusedSimpArgs false
set_option linter.deprecated false
set_option maxRecDepth 100000
set_option maxHeartbeats 4000000
namespace Go.Proofs.YtmlnilkbolcknaaGreatDoor.Pm
open Go Go.Proofs.YtmlnilkbolcknaaGreatDoor.Pi
theorem Yv (l:List Vo) (hf:qei l):PC Tryz.prog 8 [(.ssl (yq l) 0 l.length)] [] (iv (yF l)) []:=by
 obtain ⟨hf1,hf2⟩:=hf
 refine zZ Tryz.func8 rfl (by kernel_rfl) (Nat.le_of_ble_eq_true rfl) (by kernel_rfl) (l0:=[ps 0 (.ssl (yq l) 0 l.length)]) rfl (fun c0 Bor hc0=>?_)
 refine qA<|qL qD [.r] []<|qA<|qA<|qL qD [.k1,.n] [ps 10 (bv (decide (64<(l.length:Int))))] ?_
 by_cases h1:64<(l.length:Int)
 ·refine qX (zR h1)<|qA<|zU qD [] [ps 2 (iv 5)] (oz) ?_
  have hT:yF l=5:=by unfold yF;rw [if_pos (by omega)]
  rw [hT]
  exact zN hc0 [2] []
 refine qW (zP h1)<|qF<|qA<|qA<|zU qD [] [ps 11 (.ssl (yq l) 0 l.length),ps 12 (nv l.length),ps 13 (iv 0)] (oz)<|zI<|vW (α:={x:Nat // x≤l.length∧wY (l.drop x)=wY l}) (fun x=>[ps 11 (.ssl (yq l) 0 l.length),ps 12 (nv l.length),ps 13 (nv x.1)]) (fun x=>l.length-x.1) 0 ⟨0,⟨Nat.zero_le _,rfl⟩⟩ (Wk.ren2 _ 0 hc0 [] rfl rfl (by kernel_rfl) (by kernel_rfl)) ?_
 rintro ⟨i,⟨hi,hW⟩⟩
 refine qA<|zU qD [] [ps 11 (.ssl (yq l) 0 l.length),ps 12 (nv l.length),ps 13 (nv i),ps 14 (bv (decide (((i:Nat):Int)<(l.length:Int))))] (oz)<|qA ?_
 by_cases h2:(i:Int)<(l.length:Int)
 ·refine qX (zR h2)<|qF<|qA<|zI<|qA ?_
  obtain ⟨hv1,hv2,hv3⟩:=hf2 i (by omega)
  refine zE qD [(0,.nat (i*2)),(1,.cells [(sv (st ((l.getD i qO).1))),(.ssl (jA ((l.getD i qO).2)) 0 (((l.getD i qO).2).length))])] [.n,.k3,.d,.n] [ps 4 (.opt 24 0),pb 24 44 [(sv (st ((l.getD i qO).1))),(.ssl (jA ((l.getD i qO).2)) 0 (((l.getD i qO).2).length))]] (oc (by omega:(0:Int)≤(i:Int)∧(i:Int)<(l.length:Int)) (oc (by omega:0+(((i:Nat):Int):Int).toNat*2=(i*2)) (oc (vN voC 2 (fun _=>rfl) qO l i 0 2 (by omega) (by decide):(i*2)+2≤((yq l)).length∧(((yq l)).drop (i*2)).take 2=[(sv (st ((l.getD i qO).1))),(.ssl (jA ((l.getD i qO).2)) 0 (((l.getD i qO).2).length))]) oz))) ?_
  refine qA<|qA<|yJ qD 2 [.k4,.n,.r] [ps 20 (bv (!(jM ((l.getD i qO).1))))] (zY 56 (qic ((l.getD i qO).1) (by omega)) oz) ?_
  by_cases h3:(jM ((l.getD i qO).1))=true
  ·refine qW (congrArg Bool.not h3)<|qF<|qA<|qA<|qL qD [.k4,.d,.n,.r] [ps 24 (bv (decide (1024<((((l.getD i qO).2).length:Nat):Int))))] ?_
   by_cases h4:1024<((((l.getD i qO).2).length:Nat):Int)
   ·refine qX (zR h4)<|qA<|zU qD [] [ps 2 (iv 5)] (oz) ?_
    have hT:yF l=5:=by unfold yF;rw [if_neg (by omega),← hW,wN (by omega),show vA (l.getD i qO)=5 from by unfold vA;rw [if_pos h3,if_pos (by omega)],if_neg (by decide)]
    rw [hT]
    exact wV fun cx_ a_ hI_=>yv (rt hc0 [ps 2 (iv 5)] [] hI_)
   refine qW (zP h4)<|qF<|qA<|qL qD [.d,.k3,.d,.n,.n,.n,.d] [ps 26 (.ssl (jA ((l.getD i qO).2)) 0 (((l.getD i qO).2).length)),ps 27 (nv (((l.getD i qO).2).length)),ps 28 (iv 0)]<|zI<|vW (α:={x:Nat // x≤(l.getD i qO).2.length∧YC ((l.getD i qO).2.drop x)=YC (l.getD i qO).2}) (fun x=>[ps 11 (.ssl (yq l) 0 l.length),ps 12 (nv l.length),ps 13 (nv i),ps 26 (.ssl (jA ((l.getD i qO).2)) 0 (((l.getD i qO).2).length)),ps 27 (nv (((l.getD i qO).2).length)),ps 28 (nv x.1)]) (fun x=>(l.getD i qO).2.length-x.1) 0 ⟨0,⟨Nat.zero_le _,rfl⟩⟩ (Wk.ren2 _ 0 hc0 [] rfl rfl (by kernel_rfl) (by kernel_rfl)) ?_
   rintro ⟨j,⟨hj,hR⟩⟩
   refine qA<|zU qD [] [ps 11 (.ssl (yq l) 0 l.length),ps 12 (nv l.length),ps 13 (nv i),ps 26 (.ssl (jA ((l.getD i qO).2)) 0 (((l.getD i qO).2).length)),ps 27 (nv (((l.getD i qO).2).length)),ps 28 (nv j),ps 29 (bv (decide (((j:Nat):Int)<((((l.getD i qO).2).length:Nat):Int))))] (oz)<|qA ?_
   by_cases h5:(j:Int)<((((l.getD i qO).2).length:Nat):Int)
   ·refine qX (zR h5)<|qF<|qA<|zI<|qA ?_
    obtain ⟨hb1,hb2,hb3,hb4⟩:=hv3 j (by omega)
    refine zE qD [(0,.nat (j*3)),(1,.cells [(iv ((((l.getD i qO).2).getD j zQ).1)),(iv ((((l.getD i qO).2).getD j zQ).2.1)),(.ssl (zT ((((l.getD i qO).2).getD j zQ).2.2)) 0 (((((l.getD i qO).2).getD j zQ).2.2).length))])] [.n,.k6,.d,.n] [ps 6 (.opt 24 0),pb 24 47 [(iv ((((l.getD i qO).2).getD j zQ).1)),(iv ((((l.getD i qO).2).getD j zQ).2.1)),(.ssl (zT ((((l.getD i qO).2).getD j zQ).2.2)) 0 (((((l.getD i qO).2).getD j zQ).2.2).length))]] (oc (by omega:(0:Int)≤(j:Int)∧(j:Int)<((((l.getD i qO).2).length:Nat):Int)) (oc (by omega:0+(((j:Nat):Int):Int).toNat*3=(j*3)) (oc (vN brC 3 (fun _=>rfl) zQ ((l.getD i qO).2) j 0 3 (by omega) (by decide):(j*3)+3≤((jA ((l.getD i qO).2))).length∧(((jA ((l.getD i qO).2))).drop (j*3)).take 3=[(iv ((((l.getD i qO).2).getD j zQ).1)),(iv ((((l.getD i qO).2).getD j zQ).2.1)),(.ssl (zT ((((l.getD i qO).2).getD j zQ).2.2)) 0 (((((l.getD i qO).2).getD j zQ).2.2).length))]) oz))) ?_
    refine qA<|qA ?_
    by_cases h6:((((l.getD i qO).2).getD j zQ).1)<1
    ·refine zE qD (gy 4 3++[(7,.yes true)]++gy 9 3++gy 14 3) [.k7,.n,.r] [ps 49 (bv true)] (on 4 (zR h6) (on 6 tt oz))<|qU (b:=true) rfl rfl<|qA<|zU qD [] [ps 2 (iv 3)] (oz) ?_
     have hT:yF l=3:=by unfold yF;rw [if_neg (by omega),← hW,wN (by omega),show vA (l.getD i qO)=3 from by unfold vA;rw [if_pos h3,if_neg (by omega),← hR,YB (by omega),show jj ((l.getD i qO).2.getD j zQ)=3 from by unfold jj;rw [if_pos (by omega)],if_neg (by decide)],if_neg (by decide)]
     rw [hT]
     exact wV fun cx_ a_ hI_=>yv (yv (rt hc0 [ps 2 (iv 3)] [] hI_))
    by_cases h7:65536<((((l.getD i qO).2).getD j zQ).1)
    ·refine zE qD (gn 4 3++[(7,.yes false)]++gy 9 3++[(12,.yes true)]++gy 14 3) [.k7,.n,.r] [ps 49 (bv true)] (on 4 (zP h6) (on 4 (zR h7) (on 3 tt oz)))<|qU (b:=true) rfl rfl<|qA<|zU qD [] [ps 2 (iv 3)] (oz) ?_
     have hT:yF l=3:=by unfold yF;rw [if_neg (by omega),← hW,wN (by omega),show vA (l.getD i qO)=3 from by unfold vA;rw [if_pos h3,if_neg (by omega),← hR,YB (by omega),show jj ((l.getD i qO).2.getD j zQ)=3 from by unfold jj;rw [if_pos (by omega)],if_neg (by decide)],if_neg (by decide)]
     rw [hT]
     exact wV fun cx_ a_ hI_=>yv (yv (rt hc0 [ps 2 (iv 3)] [] hI_))
    by_cases h8:((((l.getD i qO).2).getD j zQ).2.1)<1
    ·refine zE qD (gn 4 3++[(7,.yes false)]++gn 9 3++[(12,.yes false)]++gy 14 3++[(17,.yes true)]) [.k7,.n,.r] [ps 49 (bv true)] (on 4 (zP h6) (on 4 (zP h7) (on 4 (zR h8) oz)))<|qU (b:=true) rfl rfl<|qA<|zU qD [] [ps 2 (iv 3)] (oz) ?_
     have hT:yF l=3:=by unfold yF;rw [if_neg (by omega),← hW,wN (by omega),show vA (l.getD i qO)=3 from by unfold vA;rw [if_pos h3,if_neg (by omega),← hR,YB (by omega),show jj ((l.getD i qO).2.getD j zQ)=3 from by unfold jj;rw [if_pos (by omega)],if_neg (by decide)],if_neg (by decide)]
     rw [hT]
     exact wV fun cx_ a_ hI_=>yv (yv (rt hc0 [ps 2 (iv 3)] [] hI_))
    refine zE qD (gn 4 3++[(7,.yes false)]++gn 9 3++[(12,.yes false)]++gn 14 3++[(17,.yes false)]) [.k7,.n,.r] [ps 49 (bv (decide (65536<((((l.getD i qO).2).getD j zQ).2.1))))] (on 4 (zP h6) (on 4 (zP h7) (on 4 (zP h8) oz))) ?_
    by_cases h9:65536<((((l.getD i qO).2).getD j zQ).2.1)
    ·refine qX (zR h9)<|qA<|zU qD [] [ps 2 (iv 3)] (oz) ?_
     have hT:yF l=3:=by unfold yF;rw [if_neg (by omega),← hW,wN (by omega),show vA (l.getD i qO)=3 from by unfold vA;rw [if_pos h3,if_neg (by omega),← hR,YB (by omega),show jj ((l.getD i qO).2.getD j zQ)=3 from by unfold jj;rw [if_pos (by omega)],if_neg (by decide)],if_neg (by decide)]
     rw [hT]
     exact wV fun cx_ a_ hI_=>yv (yv (rt hc0 [ps 2 (iv 3)] [] hI_))
    refine qW (zP h9)<|qF<|qA<|qL qD [.k1,.n,.k6,.d,.k1,.n] [ps 7 (.opt 192 0),pb 192 67 [(iv 4095)]]<|qA<|vX qD 3 [.d,.d,.k6,.n,.d,.d] [ps 56 (bv (!(decide ((wL (((l.getD i qO).2.getD j zQ).2.2) 1 4095).1=true∧0<(((l.getD i qO).2.getD j zQ).2.2).length))))] (wM [192] 232 (items_pc (((l.getD i qO).2.getD j zQ).2.2) 1 4095 (by decide) (by decide) (by decide) (by decide) hb4 (by omega)) oz) ?_
    by_cases h10:(decide ((wL (((l.getD i qO).2.getD j zQ).2.2) 1 4095).1=true∧0<(((l.getD i qO).2.getD j zQ).2.2).length))=true
    ·refine qW (congrArg Bool.not h10)<|qF<|zM<|zE qD [] [.k5,.d,.n,.d] [ps 28 (iv (((j:Nat):Int)+1))] (oi (((j:Nat):Int)+1) (by omega) oz) ?_
     exact vH ⟨j+1,⟨by show j+1≤(l.getD i qO).2.length;omega,by have h1:=YB (l:=(l.getD i qO).2) (i:=j) (by omega);have h2:jj ((l.getD i qO).2.getD j zQ)=0:=by {unfold jj;rw [if_neg (by omega),if_pos (by simpa using h10)]};rw [if_pos h2] at h1;rw [← hR,h1]⟩⟩ (Wk.trans (Wk.eq (show _=[ps 11 (.ssl (yq l) 0 l.length),ps 12 (nv l.length),ps 13 (nv i),ps 26 (.ssl (jA ((l.getD i qO).2)) 0 (((l.getD i qO).2).length)),ps 27 (nv (((l.getD i qO).2).length)),ps 28 (nv (j+1))] from by rfl)) (Wk.ren2 _ 0 hc0 [] rfl rfl (by kernel_rfl) (by kernel_rfl))) (show (l.getD i qO).2.length-(j+1)<(l.getD i qO).2.length-j from by show (l.getD i qO).2.length-(j+1)<(l.getD i qO).2.length-j;omega)
    refine qX (congrArg Bool.not (Bool.eq_false_iff.2 h10))<|qA<|zU qD [] [ps 2 (iv 2)] (oz) ?_
    have hT:yF l=2:=by unfold yF;rw [if_neg (by omega),← hW,wN (by omega),show vA (l.getD i qO)=2 from by unfold vA;rw [if_pos h3,if_neg (by omega),← hR,YB (by omega),show jj ((l.getD i qO).2.getD j zQ)=2 from by unfold jj;rw [if_neg (by omega),if_neg (by simpa using h10)],if_neg (by decide)],if_neg (by decide)]
    rw [hT]
    exact wV fun cx_ a_ hI_=>yv (yv (rt hc0 [ps 2 (iv 2)] [] hI_))
   refine qW (zP h5)<|vL rfl rfl<|zM<|zE qD [] [.k2,.d,.n,.d,.d,.d,.d] [ps 13 (iv (((i:Nat):Int)+1))] (oi (((i:Nat):Int)+1) (by omega) oz) ?_
   exact vH ⟨i+1,⟨by show i+1≤l.length;omega,by have h1:=wN (l:=l) (i:=i) (by omega);have h2:vA (l.getD i qO)=0:=by {unfold vA;rw [if_pos h3,if_neg (by omega),← hR,List.drop_eq_nil_of_le (by omega),YC]};rw [if_pos h2] at h1;rw [← hW,h1]⟩⟩ (Wk.trans (Wk.eq (show _=[ps 11 (.ssl (yq l) 0 l.length),ps 12 (nv l.length),ps 13 (nv (i+1))] from by rfl)) (Wk.ren2 _ 0 hc0 [] rfl rfl (by kernel_rfl) (by kernel_rfl))) (show l.length-(i+1)<l.length-i from by show l.length-(i+1)<l.length-i;omega)
  refine qX (congrArg Bool.not (Bool.eq_false_iff.2 h3))<|qA<|zU qD [] [ps 2 (iv 7)] (oz) ?_
  have hT:yF l=7:=by unfold yF;rw [if_neg (by omega),← hW,wN (by omega),show vA (l.getD i qO)=7 from by unfold vA;rw [if_neg h3],if_neg (by decide)]
  rw [hT]
  exact wV fun cx_ a_ hI_=>yv (rt hc0 [ps 2 (iv 7)] [] hI_)
 refine qW (zP h2)<|vL rfl rfl<|qA<|zU qD [] [ps 2 (iv 0)] (oz) ?_
 have hT:yF l=0:=by unfold yF;rw [if_neg (by omega),← hW,List.drop_eq_nil_of_le (by omega),wY]
 rw [hT]
 exact zN hc0 [2] []
theorem qhc (l:List Vo) (hfv:qei l):PC Tryz.prog 10 [(.ssl (yq l) 0 l.length)] [] (.tup [(sv (st ((yG l).1))),(iv ((yG l).2))]) []:=by
 refine zZ Tryz.func10 rfl (by kernel_rfl) (Nat.le_of_ble_eq_true rfl) (by kernel_rfl) (l0:=[ps 0 (.ssl (yq l) 0 l.length)]) rfl (fun c0 Bor hc0=>?_)
 refine qA<|zU qD [] [ps 0 (.ssl (yq l) 0 l.length)] (oz)<|qA<|qA ?_
 by_cases h1:l.length=0
 ·refine T_r0 qD 1 [ps 0 (.ssl (yq l) 0 l.length),ps 4 (iv (yF l))] (zY 24 (Yv l hfv) oz)<|qA<|zU qD [] [ps 0 (.ssl (yq l) 0 l.length),ps 4 (iv (yF l)),ps 13 (bv (!(decide ((yF l)=0))))] (oz) ?_
  by_cases h2:(yF l)=0
  ·refine qW (bt h2)<|qF<|qA<|zU qD [] [ps 0 (.ssl (yq l) 0 l.length),ps 5 (.opt 64 0),pb 64 77 [(.av (.pointer none)),sn]] (oz)<|qA<|qA<|zU qD [] [ps 5 (.opt 64 0),ps 17 (.ssl (yq l) 0 l.length),ps 18 (nv l.length),ps 19 (iv 0),pb 64 77 [(.av (.pointer none)),sn]] (oz)<|zI<|vW (α:={x:Nat // x=0}) (fun x=>[ps 5 (.opt 0 0),ps 17 (.ssl (yq l) 0 l.length),ps 18 (nv l.length),ps 19 (nv x.1),pb 0 77 [(.av (.pointer none)),sn]]) (fun x=>0) 1 ⟨0,rfl⟩ (Wk.ren2 _ 0 hc0 [64] rfl rfl (by kernel_rfl) (by kernel_rfl)) ?_
   rintro ⟨i,hi⟩
   refine qA<|zU qD [] [ps 5 (.opt 0 0),ps 17 (.ssl (yq l) 0 l.length),ps 18 (nv l.length),ps 19 (nv i),ps 20 (bv (decide (((i:Nat):Int)<(l.length:Int)))),pb 0 77 [(.av (.pointer none)),sn]] (oz)<|qA ?_
   have h3:¬ (((i:Nat):Int)<(l.length:Int)):=(by omega)
   refine qW (zP h3)<|vL rfl rfl<|qA<|qA<|T_r1 qD 3 [ps 5 (.opt 0 0),ps 66 (bv false),pb 0 77 [(.av (.pointer none)),sn]] (wM [0] 33 bl0_pc oz)<|zD (b:=false) rfl rfl<|qF<|qA<|T_r1 qD 3 [ps 2 se,ps 3 (iv 0)] (wM [0] 73 (qkw (.av (.pointer none))) oz) ?_
   have hl0:l=[]:=List.length_eq_zero_iff.1 (by omega)
   have hT:yG l=([],0):=by rw [hl0];rfl
   rw [hT]
   exact zN hc0 [2,3] []
  refine qX (bf h2)<|qA<|zU qD [] [ps 2 se,ps 3 (iv (yF l))] (oz) ?_
  have hT:yG l=([],yF l):=if_neg (by omega)
  rw [hT]
  exact zN hc0 [2,3] []
 refine T_r0 qD 1 [ps 0 (.ssl (yq l) 0 l.length),ps 4 (iv (yF l))] (zY 24 (Yv l hfv) oz)<|qA<|zU qD [] [ps 0 (.ssl (yq l) 0 l.length),ps 4 (iv (yF l)),ps 13 (bv (!(decide ((yF l)=0))))] (oz) ?_
 by_cases h4:(yF l)=0
 ·refine qW (bt h4)<|qF<|qA<|zU qD [] [ps 0 (.ssl (yq l) 0 l.length),ps 5 (.opt 64 0),pb 64 77 [(.av (.pointer none)),sn]] (oz)<|qA<|qA<|zU qD [] [ps 5 (.opt 64 0),ps 17 (.ssl (yq l) 0 l.length),ps 18 (nv l.length),ps 19 (iv 0),pb 64 77 [(.av (.pointer none)),sn]] (oz)<|zI ?_
  have hb:=pc_bound (show yF l=0 from by omega)
  obtain ⟨hp1,hp2⟩:=qdp (show yF l=0 from by omega)
  refine qx (Wk.opnc (B:=77) (cells:=[(.av (.pointer none)),sn]) 64 0 64 0 (by kernel_rfl) rfl)<|qx (Wk.less (l':=[ps 5 (.opt 64 0),ps 17 (.ssl (yq l) 0 l.length),ps 18 (nv l.length),ps 19 (iv 0),pb 64 77 [(.opn 64 0),sn]]) 104 (by kernel_rfl) (by kernel_rfl))<|qx (Wk.nilc (B:=77) (cells:=[(.opn 64 0),sn]) 64 1 5 (by kernel_rfl) rfl)<|qx (Wk.less (l':=[ps 5 (.opt 64 0),ps 17 (.ssl (yq l) 0 l.length),ps 18 (nv l.length),ps 19 (iv 0),pb 64 77 [(.opn 64 0),(.osl 104 0 0)],pb 104 5 []]) 105 (by kernel_rfl) (by kernel_rfl))<|qx (Wk.eq (show _=[ps 5 (.opt 64 0),ps 17 (.ssl (yq l) 0 l.length),ps 18 (nv l.length),ps 19 (iv 0),pb 64 77 [(.opn 64 0),(.osl 104 0 ((yU (l.take 0):qJ).length))],pb 104 5 (qR (yU (l.take 0)))] from by rw [List.take_zero];rfl)) ?_
  refine vW (α:={x:Nat // x≤l.length}) (fun x=>[ps 5 (.opt 0 0),ps 17 (.ssl (yq l) 0 l.length),ps 18 (nv l.length),ps 19 (nv x.1),pb 0 77 [(.opn 0 0),(.osl 1 0 ((yU (l.take x.1):qJ).length))],pb 1 5 (qR (yU (l.take x.1)))]) (fun x=>l.length-x.1) 2 ⟨0,Nat.zero_le _⟩ (Wk.ren3 _ 0 hc0 [64,104] [(kb 1,(qR (yU (l.take 0))))] (oc (qM _) (oz)) (by kernel_rfl) rfl rfl (by kernel_rfl) (by kernel_rfl)) ?_
  rintro ⟨i,hi⟩
  refine qA<|zU qD [] [ps 5 (.opt 0 0),ps 17 (.ssl (yq l) 0 l.length),ps 18 (nv l.length),ps 19 (nv i),ps 20 (bv (decide (((i:Nat):Int)<(l.length:Int)))),pb 0 77 [(.opn 0 0),(.osl 1 0 ((yU (l.take i):qJ).length))],pb 1 5 (qR (yU (l.take i)))] (oz)<|qA ?_
  by_cases h5:(i:Int)<(l.length:Int)
  ·refine qX (zR h5)<|qF<|qA<|zI<|qA ?_
   have hvo:=hp2 _ (Zk (d:=qO) (show i<l.length from by omega))
   obtain ⟨hv1,hv2,hv3⟩:=qcw hvo
   have hvf:=hfv.2 i (by omega)
   have hnl:=(of_decide_eq_true hv1).2.1
   have hrm:=vo_room (show i<l.length from by omega)
   have hvl:=congrArg List.length (qkt (l.getD i qO))
   simp only [List.length_append,List.length_cons,List.length_nil] at hvl
   refine zU qD [(0,.nat (i*2)),(1,.cells [(sv (st ((l.getD i qO).1))),(.ssl (jA ((l.getD i qO).2)) 0 (((l.getD i qO).2).length))])] [ps 5 (.opt 0 0),ps 7 (.opt 26 0),ps 17 (.ssl (yq l) 0 l.length),ps 18 (nv l.length),ps 19 (nv i),pb 0 77 [(.opn 0 0),(.osl 1 0 ((yU (l.take i):qJ).length))],pb 1 5 (qR (yU (l.take i))),pb 26 44 [(sv (st ((l.getD i qO).1))),(.ssl (jA ((l.getD i qO).2)) 0 (((l.getD i qO).2).length))]] (oc (by omega:(0:Int)≤(i:Int)∧(i:Int)<(l.length:Int)) (oc (by omega:0+(((i:Nat):Int):Int).toNat*2=(i*2)) (oc (vN voC 2 (fun _=>rfl) qO l i 0 2 (by omega) (by decide):(i*2)+2≤((yq l)).length∧(((yq l)).drop (i*2)).take 2=[(sv (st ((l.getD i qO).1))),(.ssl (jA ((l.getD i qO).2)) 0 (((l.getD i qO).2).length))]) oz))) ?_
   refine qA<|jQ qD [(5,.val (.av (.string (st (([118,111,105,99,101,32]:TX)++((l.getD i qO).1)))))),(6,.val (.av (.string (st ((([118,111,105,99,101,32]:TX)++((l.getD i qO).1))++([10]:TX)))))),(7,.call [0,1] [(.opt 0 0),(sv (st ((([118,111,105,99,101,32]:TX)++((l.getD i qO).1))++([10]:TX))))] [some (77,[(.opn 0 0),(.osl 1 0 ((yU (l.take i):qJ).length))]),some (5,(qR (yU (l.take i))))] (.tup [(nv ((((([118,111,105,99,101,32]:TX)++((l.getD i qO).1))++([10]:TX))).length)),(.av .nilIface)]) [some (77,[(.opn 0 0),(.osl 2 0 (((yU (l.take i))++((([118,111,105,99,101,32]:TX)++((l.getD i qO).1))++([10]:TX)):qJ).length))]),none,some (5,(qR ((yU (l.take i))++((([118,111,105,99,101,32]:TX)++((l.getD i qO).1))++([10]:TX)))))])] [[],[0],[0,1],[],[3],[3,4],[3,4,5],[0,1,2,3,4,5,6]] [([46],[10]),([48],[46]),([50],[48]),([52],[14]),([54],[52,53]),([56],[54]),([58],[56]),([60,1,3,197],[1,3,50,58])] [ps 5 (.opt 0 0),ps 7 (.opt 26 0),ps 17 (.ssl (yq l) 0 l.length),ps 18 (nv l.length),ps 19 (nv i),pb 0 77 [(.opn 0 0),(.osl 98 0 (((yU (l.take i))++((([118,111,105,99,101,32]:TX)++((l.getD i qO).1))++([10]:TX)):qJ).length))],pb 26 44 [(sv (st ((l.getD i qO).1))),(.ssl (jA ((l.getD i qO).2)) 0 (((l.getD i qO).2).length))],pb 98 5 (qT (yK [0,1] 98) (qR ((yU (l.take i))++((([118,111,105,99,101,32]:TX)++((l.getD i qO).1))++([10]:TX)))))] (oc (by first|omega|(simp only [List.length_append,List.length_cons,List.length_nil];omega):((([118,111,105,99,101,32]:TX).length+((l.getD i qO).1).length:Nat):Int)≤9223372036854775807) (oc (qj _ _:st ([118,111,105,99,101,32]:TX)++st ((l.getD i qO).1)=st (([118,111,105,99,101,32]:TX)++((l.getD i qO).1))) (oc (by first|omega|(simp only [List.length_append,List.length_cons,List.length_nil];omega):(((([118,111,105,99,101,32]:TX)++((l.getD i qO).1)).length+([10]:TX).length:Nat):Int)≤9223372036854775807) (oc (qj _ _:st (([118,111,105,99,101,32]:TX)++((l.getD i qO).1))++st ([10]:TX)=st ((([118,111,105,99,101,32]:TX)++((l.getD i qO).1))++([10]:TX))) (oc (wj (yU (l.take i)) ((([118,111,105,99,101,32]:TX)++((l.getD i qO).1))++([10]:TX)) (by (first|omega|(simp only [List.length_append,List.length_cons,List.length_nil];omega)))) (oc (rfl:[(.opt 0 0),(sv (st ((([118,111,105,99,101,32]:TX)++((l.getD i qO).1))++([10]:TX))))]=qT (qY [0,1] 98) [(.opt 0 0),(sv (st ((([118,111,105,99,101,32]:TX)++((l.getD i qO).1))++([10]:TX))))]) (oc (rfl:[(.opn 0 0),(.osl 1 0 ((yU (l.take i):qJ).length))]=qT (qY [0,1] 98) [(.opn 0 0),(.osl 1 0 ((yU (l.take i):qJ).length))]) (oc ((qQ (qM _)).symm:(qR (yU (l.take i)))=qT (qY [0,1] 98) (qR (yU (l.take i)))) oz))))))))<|qx (Wk.eq (show _=[ps 5 (.opt 0 0),ps 7 (.opt 26 0),ps 17 (.ssl (yq l) 0 l.length),ps 18 (nv l.length),ps 19 (nv i),pb 0 77 [(.opn 0 0),(.osl 98 0 (((yU (l.take i))++((([118,111,105,99,101,32]:TX)++((l.getD i qO).1))++([10]:TX)):qJ).length))],pb 26 44 [(sv (st ((l.getD i qO).1))),(.ssl (jA ((l.getD i qO).2)) 0 (((l.getD i qO).2).length))],pb 98 5 (qR ((yU (l.take i))++((([118,111,105,99,101,32]:TX)++((l.getD i qO).1))++([10]:TX))))] from by simp only [qQ (qM _)])) ?_
   refine qA<|zU qD [] [ps 5 (.opt 0 0),ps 17 (.ssl (yq l) 0 l.length),ps 18 (nv l.length),ps 19 (nv i),ps 32 (.ssl (jA ((l.getD i qO).2)) 0 (((l.getD i qO).2).length)),ps 33 (nv (((l.getD i qO).2).length)),ps 34 (iv 0),pb 0 77 [(.opn 0 0),(.osl 98 0 (((yU (l.take i))++((([118,111,105,99,101,32]:TX)++((l.getD i qO).1))++([10]:TX)):qJ).length))],pb 98 5 (qR ((yU (l.take i))++((([118,111,105,99,101,32]:TX)++((l.getD i qO).1))++([10]:TX))))] (oz)<|zI<|qx (Wk.eq (show _=[ps 5 (.opt 0 0),ps 17 (.ssl (yq l) 0 l.length),ps 18 (nv l.length),ps 19 (nv i),ps 32 (.ssl (jA ((l.getD i qO).2)) 0 (((l.getD i qO).2).length)),ps 33 (nv (((l.getD i qO).2).length)),ps 34 (iv 0),pb 0 77 [(.opn 0 0),(.osl 98 0 ((((yU (l.take i))++((([118,111,105,99,101,32]:TX)++((l.getD i qO).1))++([10]:TX)))++yD ((l.getD i qO).2.take 0):qJ).length))],pb 98 5 (qR (((yU (l.take i))++((([118,111,105,99,101,32]:TX)++((l.getD i qO).1))++([10]:TX)))++yD ((l.getD i qO).2.take 0)))] from by rw [List.take_zero];rw [show yD []=[] from rfl,List.append_nil])) ?_
   refine vW (α:={x:Nat // x≤(l.getD i qO).2.length}) (fun x=>[ps 5 (.opt 0 0),ps 17 (.ssl (yq l) 0 l.length),ps 18 (nv l.length),ps 19 (nv i),ps 32 (.ssl (jA ((l.getD i qO).2)) 0 (((l.getD i qO).2).length)),ps 33 (nv (((l.getD i qO).2).length)),ps 34 (nv x.1),pb 0 77 [(.opn 0 0),(.osl 1 0 ((yU (l.take i)++([118,111,105,99,101,32]++(l.getD i qO).1++[10])++yD ((l.getD i qO).2.take x.1):qJ).length))],pb 1 5 (qR (yU (l.take i)++([118,111,105,99,101,32]++(l.getD i qO).1++[10])++yD ((l.getD i qO).2.take x.1)))]) (fun x=>(l.getD i qO).2.length-x.1) 2 ⟨0,Nat.zero_le _⟩ (Wk.ren3 _ 0 hc0 [0,98] [(kb 1,(qR (yU (l.take i)++([118,111,105,99,101,32]++(l.getD i qO).1++[10])++yD ((l.getD i qO).2.take 0))))] (oc (qM _) (oz)) (by kernel_rfl) rfl rfl (by kernel_rfl) (by kernel_rfl)) ?_
   rintro ⟨k,hk⟩
   refine qA<|zU qD [] [ps 5 (.opt 0 0),ps 17 (.ssl (yq l) 0 l.length),ps 18 (nv l.length),ps 19 (nv i),ps 32 (.ssl (jA ((l.getD i qO).2)) 0 (((l.getD i qO).2).length)),ps 33 (nv (((l.getD i qO).2).length)),ps 34 (nv k),ps 35 (bv (decide (((k:Nat):Int)<((((l.getD i qO).2).length:Nat):Int)))),pb 0 77 [(.opn 0 0),(.osl 1 0 ((yU (l.take i)++([118,111,105,99,101,32]++(l.getD i qO).1++[10])++yD ((l.getD i qO).2.take k):qJ).length))],pb 1 5 (qR (yU (l.take i)++([118,111,105,99,101,32]++(l.getD i qO).1++[10])++yD ((l.getD i qO).2.take k)))] (oz)<|qA ?_
   by_cases h6:(k:Int)<((((l.getD i qO).2).length:Nat):Int)
   ·refine qX (zR h6)<|qF<|qA<|zI<|qA ?_
    have hbo:=qhy (hv3 _ (Zk (d:=zQ) (show k<(l.getD i qO).2.length from by omega)))
    have hbf:=hvf.2.2 k (by omega)
    have hbr:=br_room (show k<(l.getD i qO).2.length from by omega)
    have hbl:=congrArg List.length (brT_eq ((l.getD i qO).2.getD k zQ))
    simp only [List.length_append,List.length_cons,List.length_nil] at hbl
    have hi1:=Lib.itoa_length_le ((l.getD i qO).2.getD k zQ).1 (by omega) (by omega)
    have hi2:=Lib.itoa_length_le ((l.getD i qO).2.getD k zQ).2.1 (by omega) (by omega)
    refine zU qD [(0,.nat (k*3)),(1,.cells [(iv ((((l.getD i qO).2).getD k zQ).1)),(iv ((((l.getD i qO).2).getD k zQ).2.1)),(.ssl (zT ((((l.getD i qO).2).getD k zQ).2.2)) 0 (((((l.getD i qO).2).getD k zQ).2.2).length))])] [ps 5 (.opt 0 0),ps 9 (.opt 26 0),ps 17 (.ssl (yq l) 0 l.length),ps 18 (nv l.length),ps 19 (nv i),ps 32 (.ssl (jA ((l.getD i qO).2)) 0 (((l.getD i qO).2).length)),ps 33 (nv (((l.getD i qO).2).length)),ps 34 (nv k),pb 0 77 [(.opn 0 0),(.osl 1 0 ((yU (l.take i)++([118,111,105,99,101,32]++(l.getD i qO).1++[10])++yD ((l.getD i qO).2.take k):qJ).length))],pb 1 5 (qR (yU (l.take i)++([118,111,105,99,101,32]++(l.getD i qO).1++[10])++yD ((l.getD i qO).2.take k))),pb 26 47 [(iv ((((l.getD i qO).2).getD k zQ).1)),(iv ((((l.getD i qO).2).getD k zQ).2.1)),(.ssl (zT ((((l.getD i qO).2).getD k zQ).2.2)) 0 (((((l.getD i qO).2).getD k zQ).2.2).length))]] (oc (by omega:(0:Int)≤(k:Int)∧(k:Int)<((((l.getD i qO).2).length:Nat):Int)) (oc (by omega:0+(((k:Nat):Int):Int).toNat*3=(k*3)) (oc (vN brC 3 (fun _=>rfl) zQ ((l.getD i qO).2) k 0 3 (by omega) (by decide):(k*3)+3≤((jA ((l.getD i qO).2))).length∧(((jA ((l.getD i qO).2))).drop (k*3)).take 3=[(iv ((((l.getD i qO).2).getD k zQ).1)),(iv ((((l.getD i qO).2).getD k zQ).2.1)),(.ssl (zT ((((l.getD i qO).2).getD k zQ).2.2)) 0 (((((l.getD i qO).2).getD k zQ).2.2).length))]) oz))) ?_
    refine qA<|jQ qD [(5,.call [] [(iv ((((l.getD i qO).2).getD k zQ).1))] [] (sv (st (Lib.itoa ((((l.getD i qO).2).getD k zQ).1)))) []),(6,.val (.av (.string (st (([124,32]:TX)++(Lib.itoa ((((l.getD i qO).2).getD k zQ).1))))))),(7,.val (.av (.string (st ((([124,32]:TX)++(Lib.itoa ((((l.getD i qO).2).getD k zQ).1)))++([47]:TX)))))),(10,.call [] [(iv ((((l.getD i qO).2).getD k zQ).2.1))] [] (sv (st (Lib.itoa ((((l.getD i qO).2).getD k zQ).2.1)))) []),(11,.val (.av (.string (st (((([124,32]:TX)++(Lib.itoa ((((l.getD i qO).2).getD k zQ).1)))++([47]:TX))++(Lib.itoa ((((l.getD i qO).2).getD k zQ).2.1))))))),(12,.val (.av (.string (st ((((([124,32]:TX)++(Lib.itoa ((((l.getD i qO).2).getD k zQ).1)))++([47]:TX))++(Lib.itoa ((((l.getD i qO).2).getD k zQ).2.1)))++([32]:TX)))))),(13,.call [0,1] [(.opt 0 0),(sv (st ((((([124,32]:TX)++(Lib.itoa ((((l.getD i qO).2).getD k zQ).1)))++([47]:TX))++(Lib.itoa ((((l.getD i qO).2).getD k zQ).2.1)))++([32]:TX))))] [some (77,[(.opn 0 0),(.osl 1 0 ((yU (l.take i)++([118,111,105,99,101,32]++(l.getD i qO).1++[10])++yD ((l.getD i qO).2.take k):qJ).length))]),some (5,(qR (yU (l.take i)++([118,111,105,99,101,32]++(l.getD i qO).1++[10])++yD ((l.getD i qO).2.take k))))] (.tup [(nv ((((((([124,32]:TX)++(Lib.itoa ((((l.getD i qO).2).getD k zQ).1)))++([47]:TX))++(Lib.itoa ((((l.getD i qO).2).getD k zQ).2.1)))++([32]:TX))).length)),(.av .nilIface)]) [some (77,[(.opn 0 0),(.osl 2 0 (((yU (l.take i)++([118,111,105,99,101,32]++(l.getD i qO).1++[10])++yD ((l.getD i qO).2.take k))++((((([124,32]:TX)++(Lib.itoa ((((l.getD i qO).2).getD k zQ).1)))++([47]:TX))++(Lib.itoa ((((l.getD i qO).2).getD k zQ).2.1)))++([32]:TX)):qJ).length))]),none,some (5,(qR ((yU (l.take i)++([118,111,105,99,101,32]++(l.getD i qO).1++[10])++yD ((l.getD i qO).2.take k))++((((([124,32]:TX)++(Lib.itoa ((((l.getD i qO).2).getD k zQ).1)))++([47]:TX))++(Lib.itoa ((((l.getD i qO).2).getD k zQ).2.1)))++([32]:TX)))))])] (bfm [[],[(0,1)],[(0,2)],[],[(3,1)],[(3,2)],[(3,3)],[(3,4)],[],[(8,1)],[(3,3),(8,2)],[(3,8)],[(3,9)],[(0,13)]]) [([76],[10]),([78],[76]),([80],[78]),([82],[18]),([84],[53,82]),([86],[84]),([88],[86]),([90],[88]),([92],[18]),([94],[53,92]),([96],[94]),([98],[90,96]),([100],[98]),([102,1,3,293],[1,3,80,100])] [ps 5 (.opt 0 0),ps 9 (.opt 26 0),ps 17 (.ssl (yq l) 0 l.length),ps 18 (nv l.length),ps 19 (nv i),ps 32 (.ssl (jA ((l.getD i qO).2)) 0 (((l.getD i qO).2).length)),ps 33 (nv (((l.getD i qO).2).length)),ps 34 (nv k),pb 0 77 [(.opn 0 0),(.osl 146 0 (((yU (l.take i)++([118,111,105,99,101,32]++(l.getD i qO).1++[10])++yD ((l.getD i qO).2.take k))++((((([124,32]:TX)++(Lib.itoa ((((l.getD i qO).2).getD k zQ).1)))++([47]:TX))++(Lib.itoa ((((l.getD i qO).2).getD k zQ).2.1)))++([32]:TX)):qJ).length))],pb 26 47 [(iv ((((l.getD i qO).2).getD k zQ).1)),(iv ((((l.getD i qO).2).getD k zQ).2.1)),(.ssl (zT ((((l.getD i qO).2).getD k zQ).2.2)) 0 (((((l.getD i qO).2).getD k zQ).2.2).length))],pb 146 5 (qT (yK [0,1] 146) (qR ((yU (l.take i)++([118,111,105,99,101,32]++(l.getD i qO).1++[10])++yD ((l.getD i qO).2.take k))++((((([124,32]:TX)++(Lib.itoa ((((l.getD i qO).2).getD k zQ).1)))++([47]:TX))++(Lib.itoa ((((l.getD i qO).2).getD k zQ).2.1)))++([32]:TX)))))] (zY 82 (zz ((((l.getD i qO).2).getD k zQ).1) (by omega) (by omega)) (oc (by first|omega|(simp only [List.length_append,List.length_cons,List.length_nil];omega):((([124,32]:TX).length+(Lib.itoa ((((l.getD i qO).2).getD k zQ).1)).length:Nat):Int)≤9223372036854775807) (oc (qj _ _:st ([124,32]:TX)++st (Lib.itoa ((((l.getD i qO).2).getD k zQ).1))=st (([124,32]:TX)++(Lib.itoa ((((l.getD i qO).2).getD k zQ).1)))) (oc (by first|omega|(simp only [List.length_append,List.length_cons,List.length_nil];omega):(((([124,32]:TX)++(Lib.itoa ((((l.getD i qO).2).getD k zQ).1))).length+([47]:TX).length:Nat):Int)≤9223372036854775807) (oc (qj _ _:st (([124,32]:TX)++(Lib.itoa ((((l.getD i qO).2).getD k zQ).1)))++st ([47]:TX)=st ((([124,32]:TX)++(Lib.itoa ((((l.getD i qO).2).getD k zQ).1)))++([47]:TX))) (zY 122 (zz ((((l.getD i qO).2).getD k zQ).2.1) (by omega) (by omega)) (oc (by first|omega|(simp only [List.length_append,List.length_cons,List.length_nil];omega):((((([124,32]:TX)++(Lib.itoa ((((l.getD i qO).2).getD k zQ).1)))++([47]:TX)).length+(Lib.itoa ((((l.getD i qO).2).getD k zQ).2.1)).length:Nat):Int)≤9223372036854775807) (oc (qj _ _:st ((([124,32]:TX)++(Lib.itoa ((((l.getD i qO).2).getD k zQ).1)))++([47]:TX))++st (Lib.itoa ((((l.getD i qO).2).getD k zQ).2.1))=st (((([124,32]:TX)++(Lib.itoa ((((l.getD i qO).2).getD k zQ).1)))++([47]:TX))++(Lib.itoa ((((l.getD i qO).2).getD k zQ).2.1)))) (oc (by first|omega|(simp only [List.length_append,List.length_cons,List.length_nil];omega):(((((([124,32]:TX)++(Lib.itoa ((((l.getD i qO).2).getD k zQ).1)))++([47]:TX))++(Lib.itoa ((((l.getD i qO).2).getD k zQ).2.1))).length+([32]:TX).length:Nat):Int)≤9223372036854775807) (oc (qj _ _:st (((([124,32]:TX)++(Lib.itoa ((((l.getD i qO).2).getD k zQ).1)))++([47]:TX))++(Lib.itoa ((((l.getD i qO).2).getD k zQ).2.1)))++st ([32]:TX)=st ((((([124,32]:TX)++(Lib.itoa ((((l.getD i qO).2).getD k zQ).1)))++([47]:TX))++(Lib.itoa ((((l.getD i qO).2).getD k zQ).2.1)))++([32]:TX))) (oc (wj (yU (l.take i)++([118,111,105,99,101,32]++(l.getD i qO).1++[10])++yD ((l.getD i qO).2.take k)) ((((([124,32]:TX)++(Lib.itoa ((((l.getD i qO).2).getD k zQ).1)))++([47]:TX))++(Lib.itoa ((((l.getD i qO).2).getD k zQ).2.1)))++([32]:TX)) (by (first|omega|(simp only [List.length_append,List.length_cons,List.length_nil];omega)))) (oc (rfl:[(.opt 0 0),(sv (st ((((([124,32]:TX)++(Lib.itoa ((((l.getD i qO).2).getD k zQ).1)))++([47]:TX))++(Lib.itoa ((((l.getD i qO).2).getD k zQ).2.1)))++([32]:TX))))]=qT (qY [0,1] 146) [(.opt 0 0),(sv (st ((((([124,32]:TX)++(Lib.itoa ((((l.getD i qO).2).getD k zQ).1)))++([47]:TX))++(Lib.itoa ((((l.getD i qO).2).getD k zQ).2.1)))++([32]:TX))))]) (oc (rfl:[(.opn 0 0),(.osl 1 0 ((yU (l.take i)++([118,111,105,99,101,32]++(l.getD i qO).1++[10])++yD ((l.getD i qO).2.take k):qJ).length))]=qT (qY [0,1] 146) [(.opn 0 0),(.osl 1 0 ((yU (l.take i)++([118,111,105,99,101,32]++(l.getD i qO).1++[10])++yD ((l.getD i qO).2.take k):qJ).length))]) (oc ((qQ (qM _)).symm:(qR (yU (l.take i)++([118,111,105,99,101,32]++(l.getD i qO).1++[10])++yD ((l.getD i qO).2.take k)))=qT (qY [0,1] 146) (qR (yU (l.take i)++([118,111,105,99,101,32]++(l.getD i qO).1++[10])++yD ((l.getD i qO).2.take k)))) oz))))))))))))))<|qx (Wk.eq (show _=[ps 5 (.opt 0 0),ps 9 (.opt 26 0),ps 17 (.ssl (yq l) 0 l.length),ps 18 (nv l.length),ps 19 (nv i),ps 32 (.ssl (jA ((l.getD i qO).2)) 0 (((l.getD i qO).2).length)),ps 33 (nv (((l.getD i qO).2).length)),ps 34 (nv k),pb 0 77 [(.opn 0 0),(.osl 146 0 (((yU (l.take i)++([118,111,105,99,101,32]++(l.getD i qO).1++[10])++yD ((l.getD i qO).2.take k))++((((([124,32]:TX)++(Lib.itoa ((((l.getD i qO).2).getD k zQ).1)))++([47]:TX))++(Lib.itoa ((((l.getD i qO).2).getD k zQ).2.1)))++([32]:TX)):qJ).length))],pb 26 47 [(iv ((((l.getD i qO).2).getD k zQ).1)),(iv ((((l.getD i qO).2).getD k zQ).2.1)),(.ssl (zT ((((l.getD i qO).2).getD k zQ).2.2)) 0 (((((l.getD i qO).2).getD k zQ).2.2).length))],pb 146 5 (qR ((yU (l.take i)++([118,111,105,99,101,32]++(l.getD i qO).1++[10])++yD ((l.getD i qO).2.take k))++((((([124,32]:TX)++(Lib.itoa ((((l.getD i qO).2).getD k zQ).1)))++([47]:TX))++(Lib.itoa ((((l.getD i qO).2).getD k zQ).2.1)))++([32]:TX))))] from by simp only [qQ (qM _)])) ?_
    refine qA<|zU qD [(3,.call [0,146] [(.opt 0 0),(.ssl (zT ((((l.getD i qO).2).getD k zQ).2.2)) 0 (((((l.getD i qO).2).getD k zQ).2.2).length))] [some (77,[(.opn 0 0),(.osl 1 0 (((yU (l.take i)++([118,111,105,99,101,32]++(l.getD i qO).1++[10])++yD ((l.getD i qO).2.take k))++((((([124,32]:TX)++(Lib.itoa ((((l.getD i qO).2).getD k zQ).1)))++([47]:TX))++(Lib.itoa ((((l.getD i qO).2).getD k zQ).2.1)))++([32]:TX)):qJ).length))]),some (5,(qR ((yU (l.take i)++([118,111,105,99,101,32]++(l.getD i qO).1++[10])++yD ((l.getD i qO).2.take k))++((((([124,32]:TX)++(Lib.itoa ((((l.getD i qO).2).getD k zQ).1)))++([47]:TX))++(Lib.itoa ((((l.getD i qO).2).getD k zQ).2.1)))++([32]:TX)))))] (.tup []) [some (77,[(.opn 0 0),(.osl 2 0 ((((yU (l.take i)++([118,111,105,99,101,32]++(l.getD i qO).1++[10])++yD ((l.getD i qO).2.take k))++((((([124,32]:TX)++(Lib.itoa ((((l.getD i qO).2).getD k zQ).1)))++([47]:TX))++(Lib.itoa ((((l.getD i qO).2).getD k zQ).2.1)))++([32]:TX)))++qz ((((l.getD i qO).2).getD k zQ).2.2):qJ).length))]),none,some (5,(qR (((yU (l.take i)++([118,111,105,99,101,32]++(l.getD i qO).1++[10])++yD ((l.getD i qO).2.take k))++((((([124,32]:TX)++(Lib.itoa ((((l.getD i qO).2).getD k zQ).1)))++([47]:TX))++(Lib.itoa ((((l.getD i qO).2).getD k zQ).2.1)))++([32]:TX)))++qz ((((l.getD i qO).2).getD k zQ).2.2))))])] [ps 5 (.opt 0 0),ps 17 (.ssl (yq l) 0 l.length),ps 18 (nv l.length),ps 19 (nv i),ps 32 (.ssl (jA ((l.getD i qO).2)) 0 (((l.getD i qO).2).length)),ps 33 (nv (((l.getD i qO).2).length)),ps 34 (nv k),pb 0 77 [(.opn 0 0),(.osl 178 0 ((((yU (l.take i)++([118,111,105,99,101,32]++(l.getD i qO).1++[10])++yD ((l.getD i qO).2.take k))++((((([124,32]:TX)++(Lib.itoa ((((l.getD i qO).2).getD k zQ).1)))++([47]:TX))++(Lib.itoa ((((l.getD i qO).2).getD k zQ).2.1)))++([32]:TX)))++qz ((((l.getD i qO).2).getD k zQ).2.2):qJ).length))],pb 178 5 (qT (yK [0,146] 178) (qR (((yU (l.take i)++([118,111,105,99,101,32]++(l.getD i qO).1++[10])++yD ((l.getD i qO).2.take k))++((((([124,32]:TX)++(Lib.itoa ((((l.getD i qO).2).getD k zQ).1)))++([47]:TX))++(Lib.itoa ((((l.getD i qO).2).getD k zQ).2.1)))++([32]:TX)))++qz ((((l.getD i qO).2).getD k zQ).2.2))))] (oc (pitems_pc ((((l.getD i qO).2).getD k zQ).2.2) ((yU (l.take i)++([118,111,105,99,101,32]++(l.getD i qO).1++[10])++yD ((l.getD i qO).2.take k))++((((([124,32]:TX)++(Lib.itoa ((((l.getD i qO).2).getD k zQ).1)))++([47]:TX))++(Lib.itoa ((((l.getD i qO).2).getD k zQ).2.1)))++([32]:TX))) (by (first|omega|(simp only [List.length_append,List.length_cons,List.length_nil];omega))) hbf.2.2.2 hbf.2.2.1 (prL_of hbo.2.2.1)) (oc (rfl:[(.opt 0 0),(.ssl (zT ((((l.getD i qO).2).getD k zQ).2.2)) 0 (((((l.getD i qO).2).getD k zQ).2.2).length))]=qT (qY [0,146] 178) [(.opt 0 0),(.ssl (zT ((((l.getD i qO).2).getD k zQ).2.2)) 0 (((((l.getD i qO).2).getD k zQ).2.2).length))]) (oc (rfl:[(.opn 0 0),(.osl 146 0 (((yU (l.take i)++([118,111,105,99,101,32]++(l.getD i qO).1++[10])++yD ((l.getD i qO).2.take k))++((((([124,32]:TX)++(Lib.itoa ((((l.getD i qO).2).getD k zQ).1)))++([47]:TX))++(Lib.itoa ((((l.getD i qO).2).getD k zQ).2.1)))++([32]:TX)):qJ).length))]=qT (qY [0,146] 178) [(.opn 0 0),(.osl 1 0 (((yU (l.take i)++([118,111,105,99,101,32]++(l.getD i qO).1++[10])++yD ((l.getD i qO).2.take k))++((((([124,32]:TX)++(Lib.itoa ((((l.getD i qO).2).getD k zQ).1)))++([47]:TX))++(Lib.itoa ((((l.getD i qO).2).getD k zQ).2.1)))++([32]:TX)):qJ).length))]) (oc ((qQ (qM _)).symm:(qR ((yU (l.take i)++([118,111,105,99,101,32]++(l.getD i qO).1++[10])++yD ((l.getD i qO).2.take k))++((((([124,32]:TX)++(Lib.itoa ((((l.getD i qO).2).getD k zQ).1)))++([47]:TX))++(Lib.itoa ((((l.getD i qO).2).getD k zQ).2.1)))++([32]:TX))))=qT (qY [0,146] 178) (qR ((yU (l.take i)++([118,111,105,99,101,32]++(l.getD i qO).1++[10])++yD ((l.getD i qO).2.take k))++((((([124,32]:TX)++(Lib.itoa ((((l.getD i qO).2).getD k zQ).1)))++([47]:TX))++(Lib.itoa ((((l.getD i qO).2).getD k zQ).2.1)))++([32]:TX))))) oz))))<|qx (Wk.eq (show _=[ps 5 (.opt 0 0),ps 17 (.ssl (yq l) 0 l.length),ps 18 (nv l.length),ps 19 (nv i),ps 32 (.ssl (jA ((l.getD i qO).2)) 0 (((l.getD i qO).2).length)),ps 33 (nv (((l.getD i qO).2).length)),ps 34 (nv k),pb 0 77 [(.opn 0 0),(.osl 178 0 ((((yU (l.take i)++([118,111,105,99,101,32]++(l.getD i qO).1++[10])++yD ((l.getD i qO).2.take k))++((((([124,32]:TX)++(Lib.itoa ((((l.getD i qO).2).getD k zQ).1)))++([47]:TX))++(Lib.itoa ((((l.getD i qO).2).getD k zQ).2.1)))++([32]:TX)))++qz ((((l.getD i qO).2).getD k zQ).2.2):qJ).length))],pb 178 5 (qR (((yU (l.take i)++([118,111,105,99,101,32]++(l.getD i qO).1++[10])++yD ((l.getD i qO).2.take k))++((((([124,32]:TX)++(Lib.itoa ((((l.getD i qO).2).getD k zQ).1)))++([47]:TX))++(Lib.itoa ((((l.getD i qO).2).getD k zQ).2.1)))++([32]:TX)))++qz ((((l.getD i qO).2).getD k zQ).2.2)))] from by simp only [qQ (qM _)])) ?_
    refine zU qD [(3,.call [0,178] [(.opt 0 0),(.av (.int .u8 10))] [some (77,[(.opn 0 0),(.osl 1 0 ((((yU (l.take i)++([118,111,105,99,101,32]++(l.getD i qO).1++[10])++yD ((l.getD i qO).2.take k))++((((([124,32]:TX)++(Lib.itoa ((((l.getD i qO).2).getD k zQ).1)))++([47]:TX))++(Lib.itoa ((((l.getD i qO).2).getD k zQ).2.1)))++([32]:TX)))++qz ((((l.getD i qO).2).getD k zQ).2.2):qJ).length))]),some (5,(qR (((yU (l.take i)++([118,111,105,99,101,32]++(l.getD i qO).1++[10])++yD ((l.getD i qO).2.take k))++((((([124,32]:TX)++(Lib.itoa ((((l.getD i qO).2).getD k zQ).1)))++([47]:TX))++(Lib.itoa ((((l.getD i qO).2).getD k zQ).2.1)))++([32]:TX)))++qz ((((l.getD i qO).2).getD k zQ).2.2))))] (.av .nilIface) [some (77,[(.opn 0 0),(.osl 2 0 (((((yU (l.take i)++([118,111,105,99,101,32]++(l.getD i qO).1++[10])++yD ((l.getD i qO).2.take k))++((((([124,32]:TX)++(Lib.itoa ((((l.getD i qO).2).getD k zQ).1)))++([47]:TX))++(Lib.itoa ((((l.getD i qO).2).getD k zQ).2.1)))++([32]:TX)))++qz ((((l.getD i qO).2).getD k zQ).2.2))++[10]:qJ).length))]),none,some (5,(qR ((((yU (l.take i)++([118,111,105,99,101,32]++(l.getD i qO).1++[10])++yD ((l.getD i qO).2.take k))++((((([124,32]:TX)++(Lib.itoa ((((l.getD i qO).2).getD k zQ).1)))++([47]:TX))++(Lib.itoa ((((l.getD i qO).2).getD k zQ).2.1)))++([32]:TX)))++qz ((((l.getD i qO).2).getD k zQ).2.2))++[10])))])] [ps 5 (.opt 0 0),ps 17 (.ssl (yq l) 0 l.length),ps 18 (nv l.length),ps 19 (nv i),ps 32 (.ssl (jA ((l.getD i qO).2)) 0 (((l.getD i qO).2).length)),ps 33 (nv (((l.getD i qO).2).length)),ps 34 (nv k),pb 0 77 [(.opn 0 0),(.osl 210 0 (((((yU (l.take i)++([118,111,105,99,101,32]++(l.getD i qO).1++[10])++yD ((l.getD i qO).2.take k))++((((([124,32]:TX)++(Lib.itoa ((((l.getD i qO).2).getD k zQ).1)))++([47]:TX))++(Lib.itoa ((((l.getD i qO).2).getD k zQ).2.1)))++([32]:TX)))++qz ((((l.getD i qO).2).getD k zQ).2.2))++[10]:qJ).length))],pb 210 5 (qT (yK [0,178] 210) (qR ((((yU (l.take i)++([118,111,105,99,101,32]++(l.getD i qO).1++[10])++yD ((l.getD i qO).2.take k))++((((([124,32]:TX)++(Lib.itoa ((((l.getD i qO).2).getD k zQ).1)))++([47]:TX))++(Lib.itoa ((((l.getD i qO).2).getD k zQ).2.1)))++([32]:TX)))++qz ((((l.getD i qO).2).getD k zQ).2.2))++[10])))] (oc (YR (((yU (l.take i)++([118,111,105,99,101,32]++(l.getD i qO).1++[10])++yD ((l.getD i qO).2.take k))++((((([124,32]:TX)++(Lib.itoa ((((l.getD i qO).2).getD k zQ).1)))++([47]:TX))++(Lib.itoa ((((l.getD i qO).2).getD k zQ).2.1)))++([32]:TX)))++qz ((((l.getD i qO).2).getD k zQ).2.2)) 10 (by (first|omega|(simp only [List.length_append,List.length_cons,List.length_nil];omega)))) (oc (rfl:[(.opt 0 0),(.av (.int .u8 10))]=qT (qY [0,178] 210) [(.opt 0 0),(.av (.int .u8 10))]) (oc (rfl:[(.opn 0 0),(.osl 178 0 ((((yU (l.take i)++([118,111,105,99,101,32]++(l.getD i qO).1++[10])++yD ((l.getD i qO).2.take k))++((((([124,32]:TX)++(Lib.itoa ((((l.getD i qO).2).getD k zQ).1)))++([47]:TX))++(Lib.itoa ((((l.getD i qO).2).getD k zQ).2.1)))++([32]:TX)))++qz ((((l.getD i qO).2).getD k zQ).2.2):qJ).length))]=qT (qY [0,178] 210) [(.opn 0 0),(.osl 1 0 ((((yU (l.take i)++([118,111,105,99,101,32]++(l.getD i qO).1++[10])++yD ((l.getD i qO).2.take k))++((((([124,32]:TX)++(Lib.itoa ((((l.getD i qO).2).getD k zQ).1)))++([47]:TX))++(Lib.itoa ((((l.getD i qO).2).getD k zQ).2.1)))++([32]:TX)))++qz ((((l.getD i qO).2).getD k zQ).2.2):qJ).length))]) (oc ((qQ (qM _)).symm:(qR (((yU (l.take i)++([118,111,105,99,101,32]++(l.getD i qO).1++[10])++yD ((l.getD i qO).2.take k))++((((([124,32]:TX)++(Lib.itoa ((((l.getD i qO).2).getD k zQ).1)))++([47]:TX))++(Lib.itoa ((((l.getD i qO).2).getD k zQ).2.1)))++([32]:TX)))++qz ((((l.getD i qO).2).getD k zQ).2.2)))=qT (qY [0,178] 210) (qR (((yU (l.take i)++([118,111,105,99,101,32]++(l.getD i qO).1++[10])++yD ((l.getD i qO).2.take k))++((((([124,32]:TX)++(Lib.itoa ((((l.getD i qO).2).getD k zQ).1)))++([47]:TX))++(Lib.itoa ((((l.getD i qO).2).getD k zQ).2.1)))++([32]:TX)))++qz ((((l.getD i qO).2).getD k zQ).2.2)))) oz))))<|zM<|qx (Wk.eq (show _=[ps 5 (.opt 0 0),ps 17 (.ssl (yq l) 0 l.length),ps 18 (nv l.length),ps 19 (nv i),ps 32 (.ssl (jA ((l.getD i qO).2)) 0 (((l.getD i qO).2).length)),ps 33 (nv (((l.getD i qO).2).length)),ps 34 (nv k),pb 0 77 [(.opn 0 0),(.osl 210 0 (((((yU (l.take i)++([118,111,105,99,101,32]++(l.getD i qO).1++[10])++yD ((l.getD i qO).2.take k))++((((([124,32]:TX)++(Lib.itoa ((((l.getD i qO).2).getD k zQ).1)))++([47]:TX))++(Lib.itoa ((((l.getD i qO).2).getD k zQ).2.1)))++([32]:TX)))++qz ((((l.getD i qO).2).getD k zQ).2.2))++[10]:qJ).length))],pb 210 5 (qR ((((yU (l.take i)++([118,111,105,99,101,32]++(l.getD i qO).1++[10])++yD ((l.getD i qO).2.take k))++((((([124,32]:TX)++(Lib.itoa ((((l.getD i qO).2).getD k zQ).1)))++([47]:TX))++(Lib.itoa ((((l.getD i qO).2).getD k zQ).2.1)))++([32]:TX)))++qz ((((l.getD i qO).2).getD k zQ).2.2))++[10]))] from by simp only [qQ (qM _)])) ?_
    have hbn:yU (l.take i)++([118,111,105,99,101,32]++(l.getD i qO).1++[10])++yD ((l.getD i qO).2.take (k+1))=(((yU (l.take i)++([118,111,105,99,101,32]++(l.getD i qO).1++[10])++yD ((l.getD i qO).2.take k))++((((([124,32]:TX)++(Lib.itoa ((((l.getD i qO).2).getD k zQ).1)))++([47]:TX))++(Lib.itoa ((((l.getD i qO).2).getD k zQ).2.1)))++([32]:TX)))++qz ((((l.getD i qO).2).getD k zQ).2.2))++[10]:=by rw [br_next (show k<(l.getD i qO).2.length from by omega),brT_eq];simp only [List.append_assoc]
    refine zU qD [] [ps 5 (.opt 0 0),ps 17 (.ssl (yq l) 0 l.length),ps 18 (nv l.length),ps 19 (nv i),ps 32 (.ssl (jA ((l.getD i qO).2)) 0 (((l.getD i qO).2).length)),ps 33 (nv (((l.getD i qO).2).length)),ps 34 (iv (((k:Nat):Int)+1)),pb 0 77 [(.opn 0 0),(.osl 210 0 (((((yU (l.take i)++([118,111,105,99,101,32]++(l.getD i qO).1++[10])++yD ((l.getD i qO).2.take k))++((((([124,32]:TX)++(Lib.itoa ((((l.getD i qO).2).getD k zQ).1)))++([47]:TX))++(Lib.itoa ((((l.getD i qO).2).getD k zQ).2.1)))++([32]:TX)))++qz ((((l.getD i qO).2).getD k zQ).2.2))++[10]:qJ).length))],pb 210 5 (qR ((((yU (l.take i)++([118,111,105,99,101,32]++(l.getD i qO).1++[10])++yD ((l.getD i qO).2.take k))++((((([124,32]:TX)++(Lib.itoa ((((l.getD i qO).2).getD k zQ).1)))++([47]:TX))++(Lib.itoa ((((l.getD i qO).2).getD k zQ).2.1)))++([32]:TX)))++qz ((((l.getD i qO).2).getD k zQ).2.2))++[10]))] (oi (((k:Nat):Int)+1) (by omega) oz) ?_
    exact vH ⟨k+1,by show k+1≤(l.getD i qO).2.length;omega⟩ (Wk.trans (Wk.eq (show _=[ps 5 (.opt 0 0),ps 17 (.ssl (yq l) 0 l.length),ps 18 (nv l.length),ps 19 (nv i),ps 32 (.ssl (jA ((l.getD i qO).2)) 0 (((l.getD i qO).2).length)),ps 33 (nv (((l.getD i qO).2).length)),ps 34 (nv (k+1)),pb 0 77 [(.opn 0 0),(.osl 210 0 ((yU (l.take i)++([118,111,105,99,101,32]++(l.getD i qO).1++[10])++yD ((l.getD i qO).2.take (k+1)):qJ).length))],pb 210 5 (qR (yU (l.take i)++([118,111,105,99,101,32]++(l.getD i qO).1++[10])++yD ((l.getD i qO).2.take (k+1))))] from by rw [hbn];rfl)) (Wk.ren3 _ 0 hc0 [0,210] [(kb 1,(qR (yU (l.take i)++([118,111,105,99,101,32]++(l.getD i qO).1++[10])++yD ((l.getD i qO).2.take (k+1)))))] (oc (qM _) (oz)) (by kernel_rfl) rfl rfl (by kernel_rfl) (by kernel_rfl))) (show (l.getD i qO).2.length-(k+1)<(l.getD i qO).2.length-k from by show (l.getD i qO).2.length-(k+1)<(l.getD i qO).2.length-k;omega)
   refine qW (zP h6)<|vL rfl rfl<|zM<|qx (Wk.eq (show _=[ps 5 (.opt 0 0),ps 17 (.ssl (yq l) 0 l.length),ps 18 (nv l.length),ps 19 (nv i),ps 32 (.ssl (jA ((l.getD i qO).2)) 0 (((l.getD i qO).2).length)),ps 33 (nv (((l.getD i qO).2).length)),ps 34 (nv k),ps 35 (bv (decide (((k:Nat):Int)<((((l.getD i qO).2).length:Nat):Int)))),pb 0 77 [(.opn 0 0),(.osl 1 0 ((yU (l.take i)++([118,111,105,99,101,32]++(l.getD i qO).1++[10])++yD (l.getD i qO).2:qJ).length))],pb 1 5 (qR (yU (l.take i)++([118,111,105,99,101,32]++(l.getD i qO).1++[10])++yD (l.getD i qO).2))] from by rw [List.take_of_length_le (show (l.getD i qO).2.length≤k from by omega)])) ?_
   have hvn:yU (l.take (i+1))=yU (l.take i)++([118,111,105,99,101,32]++(l.getD i qO).1++[10])++yD (l.getD i qO).2:=by rw [vo_next (show i<l.length from by omega),qkt];simp only [List.append_assoc]
   refine zU qD [] [ps 5 (.opt 0 0),ps 17 (.ssl (yq l) 0 l.length),ps 18 (nv l.length),ps 19 (iv (((i:Nat):Int)+1)),pb 0 77 [(.opn 0 0),(.osl 1 0 ((yU (l.take i)++([118,111,105,99,101,32]++(l.getD i qO).1++[10])++yD (l.getD i qO).2:qJ).length))],pb 1 5 (qR (yU (l.take i)++([118,111,105,99,101,32]++(l.getD i qO).1++[10])++yD (l.getD i qO).2))] (oi (((i:Nat):Int)+1) (by omega) oz) ?_
   exact vH ⟨i+1,by show i+1≤l.length;omega⟩ (Wk.trans (Wk.eq (show _=[ps 5 (.opt 0 0),ps 17 (.ssl (yq l) 0 l.length),ps 18 (nv l.length),ps 19 (nv (i+1)),pb 0 77 [(.opn 0 0),(.osl 1 0 ((yU (l.take (i+1)):qJ).length))],pb 1 5 (qR (yU (l.take (i+1))))] from by rw [hvn];rfl)) (Wk.ren3 _ 0 hc0 [0,1] [(kb 1,(qR (yU (l.take (i+1)))))] (oc (qM _) (oz)) (by kernel_rfl) rfl rfl (by kernel_rfl) (by kernel_rfl))) (show l.length-(i+1)<l.length-i from by show l.length-(i+1)<l.length-i;omega)
  refine qW (zP h5)<|vL rfl rfl<|qA<|qA<|qx (Wk.eq (show _=[ps 5 (.opt 0 0),ps 17 (.ssl (yq l) 0 l.length),ps 18 (nv l.length),ps 19 (nv i),ps 20 (bv (decide (((i:Nat):Int)<(l.length:Int)))),pb 0 77 [(.opn 0 0),(.osl 1 0 ((yU l:qJ).length))],pb 1 5 (qR (yU l))] from by rw [List.take_of_length_le (show l.length≤i from by omega)])) ?_
  refine zU qD [(3,.call [0,1] [(.opt 0 0)] [some (77,[(.opn 0 0),(.osl 1 0 ((yU l:qJ).length))]),some (5,(qR (yU l)))] (nv ((yU l:qJ).length)) [some (77,[(.opn 0 0),(.osl 1 0 ((yU l:qJ).length))]),some (5,(qR (yU l)))])] [ps 5 (.opt 0 0),ps 66 (bv (decide (65536<(((yU l:qJ).length:Nat):Int)))),pb 0 77 [(.opn 0 0),(.osl 1 0 ((yU l:qJ).length))],pb 1 5 (qT (yK [0,1] 34) (qR (yU l)))] (oc (bl_pc (yU l)) (oc (rfl:[(.opt 0 0)]=qT (qY [0,1] 34) [(.opt 0 0)]) (oc (rfl:[(.opn 0 0),(.osl 1 0 ((yU l:qJ).length))]=qT (qY [0,1] 34) [(.opn 0 0),(.osl 1 0 ((yU l:qJ).length))]) (oc ((qQ (qM _)).symm:(qR (yU l))=qT (qY [0,1] 34) (qR (yU l))) oz))))<|qx (Wk.eq (show _=[ps 5 (.opt 0 0),ps 66 (bv (decide (65536<(((yU l:qJ).length:Nat):Int)))),pb 0 77 [(.opn 0 0),(.osl 1 0 ((yU l:qJ).length))],pb 1 5 (qR (yU l))] from by simp only [qQ (qM _)])) ?_
  by_cases h7:65536<(((yU l:qJ).length:Nat):Int)
  ·refine qX (zR h7)<|qA<|zU qD [] [ps 2 se,ps 3 (iv 4)] (oz) ?_
   have hT:yG l=([],4):=by unfold yG;rw [if_pos (by omega),if_pos (show 65536<(yU l).length from by omega)]
   rw [hT]
   exact zN hc0 [2,3] []
  refine qW (zP h7)<|qF<|qA<|zU qD [(3,.call [0,1] [(.opt 0 0)] [some (77,[(.opn 0 0),(.osl 1 0 ((yU l:qJ).length))]),some (5,(qR (yU l)))] (sv (st (yU l))) [none,none])] [ps 2 (sv (st (yU l))),ps 3 (iv 0)] (oc (string_pc (.opn 0 0) (yU l) (pc_full (fun e=>h1 (by rw [e];rfl))) (by omega)) (oc (rfl:[(.opt 0 0)]=qT (qY [0,1] 74) [(.opt 0 0)]) (oc (rfl:[(.opn 0 0),(.osl 1 0 ((yU l:qJ).length))]=qT (qY [0,1] 74) [(.opn 0 0),(.osl 1 0 ((yU l:qJ).length))]) (oc ((qQ (qM _)).symm:(qR (yU l))=qT (qY [0,1] 74) (qR (yU l))) oz)))) ?_
  have hT:yG l=(yU l,0):=by unfold yG;rw [if_pos (by omega),if_neg (show ¬ 65536<(yU l).length from by omega)]
  rw [hT]
  exact zN hc0 [2,3] []
 refine qX (bf h4)<|qA<|zU qD [] [ps 2 se,ps 3 (iv (yF l))] (oz) ?_
 have hT:yG l=([],yF l):=if_neg (by omega)
 rw [hT]
 exact zN hc0 [2,3] []
open Go.RowKit
def aT:qJ:=[118,111,105,99,101,32,97,32,124,32,49,47,49,32,67,52]
theorem al_c4:zq [67,52]=((0,0,4),0,0):=by
 have h:=qdi (l:=0) (a:=0) (o:=4) (by decide)
 rwa [show (wJ 0 0 4).1=[67,52] from by decide +kernel] at h
theorem al_num1:qN aT 9=(0,1,11):=by decide +kernel
theorem al_num2:qN aT 12=(0,1,13):=by decide +kernel
theorem al_pit:qS aT 14=(0,(0,0,4),16):=by
 unfold qS
 rw [show qC aT 14=[67,52] from by decide +kernel,al_c4,show qB aT 14=14 from by decide +kernel]
 rfl
theorem al_item:qZ aT 1 13 4095=(0,.mk 1 1 [(0,0,4)] (0,0) [] [],16,4094):=by
 rw [yZ,if_neg (by decide),if_neg (by decide +kernel),if_neg (by decide +kernel),if_neg (by decide +kernel),if_neg (by decide +kernel),if_neg (by decide +kernel),show qB aT 13=14 from by decide +kernel,al_pit,if_pos rfl]
 unfold yB
 rw [if_neg (by decide +kernel),show qB aT 16=16 from by decide +kernel]
 unfold vT
 rw [if_pos (show iK (.mk 1 1 [(0,0,4)] (0,0) [] [])=1 from rfl),show zv aT 16=(0,[],16) from by unfold zv;rw [if_neg (by decide +kernel),show qB aT 16=16 from by decide +kernel],if_pos rfl]
 rfl
theorem al_bar:wH aT 9=(0,(1,1,[.mk 1 1 [(0,0,4)] (0,0) [] []]),16,4094):=by
 have hbl:brL aT [] 13 4095=(0,[.mk 1 1 [(0,0,4)] (0,0) [] []],16,4094):=by
  rw [ZE,al_item,if_pos rfl,if_pos (.inl (by decide +kernel)),show qB aT 16=16 from by decide +kernel]
  rfl
 unfold wH
 rw [al_num1,if_pos rfl,if_pos (by decide +kernel),show qB aT 11+1=12 from by decide +kernel,al_num2,if_pos rfl,hbl,if_pos rfl]
theorem al_voice:wW aT 0 0=(0,([97],[(1,1,[.mk 1 1 [(0,0,4)] (0,0) [] []])]),16,4094):=by
 have hvl:YS aT 1024 [] 7 0=(0,[(1,1,[.mk 1 1 [(0,0,4)] (0,0) [] []])],16,4094):=by
  rw [YS,if_pos (by decide +kernel),show qB aT 7+1=9 from by decide +kernel,al_bar,if_pos rfl,YS,if_neg (by decide +kernel),show qB aT 16=16 from by decide +kernel]
  rfl
 unfold wW
 rw [if_pos (by decide +kernel),if_pos (by decide +kernel),show qB aT (qB aT 0+5)+(qC aT (qB aT 0+5)).length=7 from by decide +kernel,hvl,if_pos rfl,show qC aT (qB aT 0+5)=[97] from by decide +kernel]
theorem al_read:zK aT=(0,[([97],[(1,1,[.mk 1 1 [(0,0,4)] (0,0) [] []])])],0):=by
 unfold zK
 rw [if_neg (by decide),Yz,if_neg (by decide +kernel),show qB aT 0=0 from by decide +kernel,al_voice,if_pos rfl,Yz,if_pos (by decide +kernel)]
 rfl
mutual
theorem szI_fit:∀ (x:It),YZ x→szI x
 | .mk k s ps b ly ks,h=>by
  rw [YZ] at h
  obtain ⟨_,h2,_,h4,h5⟩:=h
  rw [szI]
  exact ⟨by omega,by omega,qgq ks h5⟩
theorem qgq:∀ (l:List It),jH l→WX l
 | [],_=>by rw [WX];trivial
 | x :: l,h=>by
  rw [jH] at h
  rw [WX]
  exact ⟨szI_fit x h.1,qgq l h.2⟩
end
theorem sz_fit {l:List Vo} (h:qei l):szVs l:=⟨h.1,fun i hi=>⟨(h.2 i hi).2.1,fun j hj=>⟨by have:=((h.2 i hi).2.2 j hj).2.2.1;omega,qgq _ ((h.2 i hi).2.2 j hj).2.2.2⟩⟩⟩
theorem qdl {l:List Vo} (h:yF l=0) (h2:¬ (yG l).2=0):(yG l).2=4:=by
 unfold yG at h2 ⊢
 rw [if_pos h] at h2 ⊢
 split
 ·rfl
 ·rename_i c
  rw [if_neg c] at h2
  exact absurd rfl h2
theorem print_len {l:List Vo} (h:(yG l).2=0):(yG l).1.length≤65536:=by
 unfold yG at h ⊢
 split at h
 ·rename_i c
  rw [if_pos c]
  split at h
  ·cases h
  ·rename_i c2
   rw [if_neg c2]
   show (yU l).length≤65536
   omega
 ·rename_i c
  exact absurd h c
end Go.Proofs.YtmlnilkbolcknaaGreatDoor.Pm
namespace Go.Proofs.YtmlnilkbolcknaaGreatDoor
open Go Go.RowKit
def badR (c:Nat) (s:ByteArray):Prop:=c<32∨c=34∨c=127∨(c=65533∧¬ s.toList=[239,191,189])
instance (c:Nat) (s:ByteArray):Decidable (badR c s):=by unfold badR;infer_instance
end Go.Proofs.YtmlnilkbolcknaaGreatDoor
namespace Go.Proofs.YtmlnilkbolcknaaGreatDoor.Pm
open Go Go.Proofs.YtmlnilkbolcknaaGreatDoor.Pi
/-! ### ZI -/
/-! ### words -/
/-! ### numbers -/
def PX (P:Program) (f:FuncId) (args:List PV) (H:Hp) (v:Value) (H':Hp):Prop:=FnOk P f∧H.length≤H'.length∧∀ (c:Cx) (vs:Array Value),Heap (wT P c H) (· < H.length) c (ZF H)→RL P c args vs →
 Calls P f vs c.w fun e w'=>∃ c',e = .panicked [{ v:=v,recovered:=false }]∧c'.w=w'∧Heap (wT P c H) (· < H'.length) c' (ZF H')
inductive O where
 | ret (r:PV) (H':Hp)
 | pan (v:Value) (H':Hp)
def O.H:O→Hp
 | .ret _ H'=>H'
 | .pan _ H'=>H'
def PO (P:Program) (f:FuncId) (args:List PV) (H:Hp):O→Prop
 | .ret r H'=>PC P f args H r H'
 | .pan v H'=>PX P f args H v H'

/-! ### an operation that panics -/
def callX (P:Program) (f:FuncId) (args:List PV) (id:Nat) (ids:List Nat) (bs:List PV) (H:Hp) (v:Value) (H':Hp):Plan :=
 match Nat.ble H'.length (ids.length+8),vE ids with
 | true,true=>.ob (PX P f bs H v H') (.ob (args=qT (qY ids id) bs) (qcb (qY ids id) ids H (.done (.av v) (wk (yK ids id) 0 H'))))
 | _,_=>.fail
def panP (x:Operand):Plan:=opd x fun p=>match p with
 | .av (.iface t v)=>.done (.av (.iface t v)) []
 | _=>.fail
def planX (P:Program) (o:Oper) (an:Ans) (id:Nat):Plan:=match o.op with
 | .panic x=>panP x
 | .call { callee:=.value fx,args,.. }=>opd fx fun fv=>opdl args.toList fun qs=>match fv,an with
  | .av (.func (.func f) fs cs),.call ids bs H (.av v) H'=>callX P f (fs.toList.map .av++qs.map cz++cs.toList.map .av) id ids bs H v H'
  | _,_=>.fail
 | _=>.fail
abbrev chn (v:Value):Exit:=.panic [{ v:=v,recovered:=false }]
def XOk (E:Env) (o:Oper) (id:Nat) (pl:Plan):Prop:=∀ (g:St) (v:Value) (wb:L),Res g pl (.av v) wb→∀ (nx:Nat→Prop) (c:Cx) (a:Act) (K:Act→World→Prop) (Q:Exit→Act→World→Prop),(∀ t,t<8→¬ nx (id+t))→Inv E nx c g a →
 (∀ c',Inv E (fun j=>nx j∨(id≤j∧j<id+8)) c' (zC wb g) a→Q (chn v) a c'.w)→o.wp E.P a c.w K Q
theorem Inv.keeps {E:Env} {nx nx':Nat→Prop} {c c':Cx} {g g':St} {a:Act} (h:Inv E nx c g a) (hk:Keep c c') (hh:Heap E nx' c' g') (hs:∀ s,g' (ks s)=g (ks s)):Inv E nx' c' g' a :=
 { hh with tmps:=h.tmps,dfr:=h.dfr,slot:=fun s p hp=>(h.slot s p (by rw [← hs];exact hp)).mono hk,isv:=fun s x hx=>h.isv s x (by rw [← hs];exact hx) }
theorem qiw {E:Env} {o:Oper} {id:Nat} {an:Ans}:XOk E o id (planX E.P o an id):=by
 intro g v wb h nx c a K Q hn hI hQ
 unfold planX at h
 split at h
 ·rename_i x ho
  unfold panP at h
  obtain ⟨q,hq,h1⟩:=Res.opd hI h
  split at h1
  ·rename_i t u
   obtain ⟨h2,rfl⟩:=Res.done h1
   cases h2
   have hv:=qy hq
   have hr:(execOp a.eval o).run E.P c.w = .halt (.panic (.iface t u)) c.w:=by
    simp [execOp,ho,hv,Instr.panic,goPanic,Sem.run]
   unfold Oper.wp
   rw [hr,Oper.upon_panic]
   exact hQ c (hI.more fun _ h=>.inl h)
  ·exact (Res.fail h1).elim
 ·rename_i fx xs ts ho
  obtain ⟨q,hq,h1⟩:=Res.opd hI h
  obtain ⟨ps,hps,h2⟩:=Res.opdl hI h1
  have hps':RL E.P c ps (xs.map a.eval):=by
   have e:(xs.toList.map a.eval).toArray=xs.map a.eval:=by apply Array.ext';simp
   rw [← e];exact hps
  split at h2
  ·rename_i f fs cs ids bs H u H'
   unfold callX at h2
   split at h2
   case h_2=>exact (Res.fail h2).elim
   rename_i hb1 hb2
   obtain ⟨⟨hfn,hHl,hpc⟩,h3⟩:=Res.ob h2
   obtain ⟨he,h4⟩:=Res.ob h3
   obtain ⟨hlen,h5,hlent⟩:=qaq h4
   obtain ⟨h6,rfl⟩:=Res.done h5
   cases h6
   have hrl:=((jO (P:=E.P) (c:=c) fs).append hps'.czs).append (jO cs)
   rw [he] at hrl
   have hex:(execOp a.eval o).run E.P c.w = .ok (.enter f (fs++xs.map a.eval++cs)) c.w:=by
    obtain ⟨fn,h1,h2,h3⟩:=hfn
    have h4:(callFunc f (fs++xs.map a.eval++cs)).run E.P c.w = .ok (.enter f (fs++xs.map a.eval++cs)) c.w:=by
     have h2':¬ fn.body=none:=fun e=>by rw [e] at h2;cases h2
     have h3' : ¬ fn.name = "runtime.NumGoroutine" := by simpa using h3
     simp [callFunc,h1,h3',h2']
    simp only [execOp,ho,resolve,qy hq,Deferred.ofValue,invoke,Sem.run_bind,Sem.run_pure,Result.andThen_ok]
    exact h4
   refine qkl (G:=fun e _=>e = .panicked [{ v:=v,recovered:=false }]) hn hI (Nat.le_of_ble_eq_true hb1) hb2 hHl hlen hlent (fun c vs h1 h2=>(hpc c vs h1 h2).mono ?_) hrl hex ?_
   ·rintro e w' ⟨c',rfl,rfl,h4⟩
    exact ⟨c',rfl,h4,rfl⟩
   ·rintro e c' own2 rfl hk hto hh2
    refine hQ ⟨c'.w,c'.S,own2⟩ (hI.keeps hk hh2 fun s=>?_)
    unfold zC
    rw [jX]
  ·exact (Res.fail h2).elim
 ·exact (Res.fail h).elim
def qee (P:Program) (ops:List Oper) (o:Oper) (an:Ans) (id:Nat):Plan:=match o.guard with
 | none=>planX P o an id
 | some (j,want)=>match (ops[j]?).bind (·.dst) with
  | some d=>.look (ks d) fun v=>match v,an with
   | .pv (.av (.bool t)),.gd b an'=>.ob (t=b) (match b == want with | true=>planX P o an' id | false=>.fail)
   | _,_=>.fail
  | none=>.fail
def StepX (E:Env) (ops:Array Oper) (i:Nat) (v:Value) (wb:L) (id:Nat) (g:St):Prop :=
 ∀ (nx:Nat→Prop) (c:Cx) (a:Act) (K:Act→World→Prop) (Q:Exit→Act→World→Prop),(∀ t,t<8→¬ nx (id+t))→Inv E nx c g a →
  (∀ c',Inv E (fun j=>nx j∨(id≤j∧j<id+8)) c' (zC wb g) a→Q (chn v) a c'.w)→wpOp E.P ops Q i K a c.w
theorem gplanX_ok {E:Env} {l:List Oper} {i:Nat} {o:Oper} {id:Nat} {an:Ans} (ho:l[i]? = some o) {g:St} {out:Out} {v:Value} (hr:run g (qee E.P l o an id)=some out) (hv:out.pv = .av v) (hob:∀ p∈out.obs,p) :
  StepX E l.toArray i v out.wb id g:=by
 intro nx c a K Q hn hI hQ
 have hres:Res g (qee E.P l o an id) (.av v) out.wb:=⟨out,hr,hv,rfl,hob⟩
 have ho':l.toArray[i]? = some o:=by simpa using ho
 unfold wpOp
 simp only [ho']
 unfold qee at hres
 split at hres
 ·rename_i hg
  rw [if_pos (by simp [Region.wanted,hg])]
  exact .inl (qiw g _ _ hres nx c a K Q hn hI hQ)
 ·rename_i j want hg
  split at hres
  ·rename_i d hj
   obtain ⟨v',hv',h1⟩:=Res.look hres
   split at h1
   ·rename_i t b an'
    obtain ⟨rfl,h2⟩:=Res.ob h1
    have h3:=qy (hI.slot d _ hv')
    have h4:a.tmps[d]? = some (.bool t):=by
     rw [Array.getD_eq_getD_getElem?] at h3
     cases hx:a.tmps[d]? with
     | none=>rw [hx] at h3;cases h3
     | some x=>rw [hx] at h3;simp only [Option.getD_some] at h3;rw [h3]
    have hy:yielded l.toArray a.tmps j=some t:=by
     unfold yielded
     have hj':(l.toArray[j]?).bind (·.dst)=some d:=by simpa using hj
     rw [hj']
     simp [h4]
    have hw:Region.wanted o (yielded l.toArray a.tmps)=(t == want):=by
     unfold Region.wanted
     simp only [hg,hy]
     cases t <;> cases want <;> rfl
    split at h2
    ·rename_i hbw
     rw [if_pos (by rw [hw];exact hbw)]
     exact .inl (qiw g _ _ h2 nx c a K Q hn hI hQ)
    ·exact (Res.fail h2).elim
   ·exact (Res.fail h1).elim
  ·exact (Res.fail hres).elim

/-! ### a region in which one panics -/
section
variable {E:Env} {n0:Nat} {g0:St} {W:Nat→L}
theorem nx_lt {n0 m:Nat} {p:Nat→Bool} (hp:∀ j,p j=true→j<m) {id:Nat} (h:nxP n0 p id):id<n0+8*m:=by
 rcases h with h|⟨j,h1,h2,h3⟩
 ·omega
 ·have:=hp j h1
  omega
theorem qin {ops:Array Oper} {j:Nat} (hj:j<ops.size) {v:Value} {wb:L}
  (hs:∀ i,i<j→∃ o out,ops[i]? = some o∧W i=wr o.dst out∧VO E ops i o out (n0+8*i) (yj g0 W (fun t=>decide (t<i)) ops.size))
  (hx:StepX E ops j v wb (n0+8*j) (yj g0 W (fun t=>decide (t<j)) ops.size)) {Q:Exit→Act→World→Prop}
  (hQ:∀ p c a,Inv E (fun id=>id<n0+8*ops.size) c (zC wb (yj g0 W p ops.size)) a→Q (chn v) a c.w) :
  ∀ (r k:Nat),k+r=j→∀ c a,Inv E (nxP n0 (fun t=>decide (t<k))) c (yj g0 W (fun t=>decide (t<k)) ops.size) a →
   wpOps E.P ops Q ((List.range ops.size).drop k) a c.w
 | 0,k,hk,c,a,h=>by
  obtain rfl:k=j:=by omega
  rw [List.drop_eq_getElem_cons (by simpa using hj),List.getElem_range,wpOps_cons]
  refine hx _ c a _ Q (qbo (by simp)) h fun c' h'=>hQ _ c' a (h'.more fun id hid=>?_)
  rcases hid with h1|h1
  ·have:=nx_lt (m:=k) (fun j hj=>by simpa using hj) h1
   omega
  ·omega
 | r+1,k,hk,c,a,h=>by
  have hlt:k<ops.size:=by omega
  rw [List.drop_eq_getElem_cons (by simpa using hlt),List.getElem_range,wpOps_cons]
  obtain ⟨o,out,ho,hW,hst⟩:=hs k (by omega)
  refine hst (nxP n0 (fun j=>decide (j<k))) c a _ Q (qbo (by simp)) h fun c' a' h'=>?_
  refine qin hj hs hx hQ r (k+1) (by omega) c' a' ?_
  have e:(fun j=>decide (j<k+1))=jv (fun j=>decide (j<k)) k:=by
   funext j
   unfold jv
   by_cases e:j=k
   ·subst e;simp
   ·simp [e];omega
  rw [e,ZA (by simp) hlt fun j x h1 h2 h3=>by simp at h3;omega,hW]
  exact h'.more fun id hid=>qhg hid
theorem any_opsX {l:List Oper} {rd:Nat→List Nat} {bf:List (List Nat)} {j:Nat} {dead:Nat→Bool} (hj:j<l.length) (hdj:dead j=true) {v:Value} {wb:L} (hb:befB l bf=true) (hap:YO W rd bf l.length=true)
  (hdead:∀ i,i<l.length→dead i=true→i=j∨j∈bf.getD i [])
  (hs:∀ i o,l[i]? = some o→dead i=false→∃ out,W i=wr o.dst out∧∀ g,(∀ k∈rd i,g k=yj g0 W (fun t=>decide (t<i)) l.length k)→VO E l.toArray i o out (n0+8*i) g)
  (hx:∀ g,(∀ k∈rd j,g k=yj g0 W (fun t=>decide (t<j)) l.length k)→StepX E l.toArray j v wb (n0+8*j) g) {Q:Exit→Act→World→Prop}
  (hQ:∀ p c a,Inv E (fun id=>id<n0+8*l.length) c (zC wb (yj g0 W p l.length)) a→Q (chn v) a c.w) :
  ∀ (fuel:Nat) (listed:Array Bool) (c:Cx) (a:Act),listed.size=l.length→left (fun i=>listed.getD i false) l.length=fuel→Closed l.toArray (fun i=>listed.getD i false)→listed.getD j false=false →
   Inv E (nxP n0 (fun j=>listed.getD j false)) c (yj g0 W (fun j=>listed.getD j false) l.length) a→wpAny E.P .any l.toArray Q fuel listed a c.w:=by
 have hnil:∀ (listed:Array Bool),listed.size=l.length→Region.ready .any l.toArray listed=[]→∀ i,i<l.length→listed.getD i false=true:=by
  intro listed hsz hr i
  induction i using Nat.strongRecOn with
  | ind i ih =>
   intro hi
   by_cases hl:listed.getD i false=true
   ·exact hl
   ·exfalso
    have hm:i∈Region.ready .any l.toArray listed:=mem_ready.2 ⟨by rw [getD_some (by omega) true false];simpa using hl,l[i],by simp [hi],fun e he hbd=>by
     simp only [befB,List.all_eq_true,List.mem_range] at hb
     have h1:=hb i hi
     rw [List.getElem?_eq_getElem hi] at h1
     simp only [Option.all_some,Bool.and_eq_true,Array.all_eq_true_iff_forall_mem] at h1
     have h2:e.on<i:=by have:=h1.1 e he;rw [hbd] at this;simpa using this
     exact ih e.on h2 (by omega)⟩
    rw [hr] at hm
    cases hm
 have hno:∀ {α:Prop} (listed:Array Bool),listed.getD j false=false→(∀ i,i<l.length→listed.getD i false=true)→α:=fun listed h1 h2=>by
  have:=h2 j hj
  rw [h1] at this
  cases this
 intro fuel
 induction fuel with
 | zero =>
  intro listed c a hsz hc hcl hlj h
  exact hno listed hlj (qbr hc)
 | succ fuel ih =>
  intro listed c a hsz hc hcl hlj h
  refine ⟨fun hr=>hno listed hlj (hnil listed hsz hr),fun i hm=>?_⟩
  obtain ⟨h1,o,ho,hdeps⟩:=mem_ready.1 hm
  have ho':l[i]? = some o:=by simpa using ho
  have hi:i<l.length:=(List.getElem?_eq_some_iff.1 ho').1
  have hli:listed.getD i false=false:=by rw [getD_some (by omega) false true];exact h1
  have hbef:=qbb hb hcl i o ho' hdeps
  have hfar:∀ j,i<j→j<l.length→listed.getD j false=true→i ∉ bf.getD j []:=fun j hij hj hlj hmem=>by
   have:=qbb hb hcl j l[j] (by simp [hj]) (hcl j l[j] (by simp [hj]) hlj) i hmem
   rw [hli] at this
   cases this
  have hrd:∀ k∈rd i,yj g0 W (fun j=>listed.getD j false) l.length k=yj g0 W (fun t=>decide (t<i)) l.length k:=fun k hk=>by
   refine wS fun j hj hh=>?_
   rcases Nat.lt_trichotomy j i with h2|h2|h2
   ·by_cases hmem:j∈bf.getD i []
    ·rw [hbef j hmem];simp [h2]
    ·exact absurd hk ((jk hap h2 hi hmem).1 hh).2
   ·subst h2;rw [hli];simp
   ·have:¬ j<i:=by omega
    simp only [this,decide_false]
    cases hlj:listed.getD j false with
    | false=>rfl
    | true=>exact absurd hk ((jk hap h2 hj (hfar j h2 hj hlj)).2 hh)
  have hlt:∀ t,listed.getD t false=true→t<l.length:=fun t ht=>by
   rcases Nat.lt_or_ge t l.length with h4|h4
   ·exact h4
   ·rw [Array.getD_eq_getD_getElem?,Array.getElem?_eq_none (by omega)] at ht
    cases ht
  cases hdi:dead i with
  | true =>
   rcases hdead i hi hdi with rfl|hm2
   ·refine hx _ hrd _ c a _ Q (qbo (by exact hli)) h fun c' h'=>hQ _ c' a (h'.more fun id hid=>?_)
    rcases hid with h3|h3
    ·exact nx_lt hlt h3
    ·omega
   ·have:=hbef j hm2
    rw [hlj] at this
    cases this
  | false =>
   have hij:i≠j:=fun e=>by rw [e,hdj] at hdi;cases hdi
   obtain ⟨out,hW,hst⟩:=hs i o ho' hdi
   refine hst _ hrd _ c a _ Q (qbo (by exact hli)) h fun c' a' h'=>?_
   have e:(fun j=>(listed.setIfInBounds i true).getD j false)=jv (fun j=>listed.getD j false) i:=by
    funext j
    unfold jv
    by_cases e:j=i
    ·subst e
     rw [if_pos rfl,Array.getD_eq_getD_getElem?]
     simp [hsz,hi]
    ·rw [if_neg e,getD_set_ne _ (Ne.symm e)]
   refine ih (listed.setIfInBounds i true) c' a' (by simpa using hsz) ?_ ?_ (by rw [getD_set_ne _ hij];exact hlj) ?_
   ·have:=qdx (f:=fun i=>listed.getD i false) hli hi
    rw [e]
    omega
   ·intro j oj hj hjl e' he' hb'
    by_cases ej:j=i
    ·subst ej
     rw [ho] at hj
     cases hj
     exact getD_set_true (hdeps e' he' hb')
    ·have hjl':listed.getD j false=true:=by
      have h2:(listed.setIfInBounds i true).getD j false=true:=hjl
      rwa [getD_set_ne _ (Ne.symm ej)] at h2
     exact getD_set_true (hcl j oj hj hjl' e' he' hb')
   ·rw [e,ZA (by exact hli) hi fun j x h2 h3 h4 h5=>((jk hap h2 h3 (hfar j h2 h3 h4)).1 h5).1,hW]
    exact h'.more fun id hid=>qhg hid
end

/-! ### such a region reckoned -/
def evd (P:Program) (n:Nat) (ops:List Oper) (n0:Nat) (ans:List (Nat × Ans)) (dead:List Nat) (j:Nat):List Oper→Nat→L→Option (List Prop × List (Option Out) × Option Out)
 | [],_,_=>some ([],[],none)
 | o :: r,i,l=>match Nat.beq i j with
  | true=>match run (get l) (qee P ops o (qgk ans i) (n0+8*i)),evd P n ops n0 ans dead j r (i+1) l with
   | some x,some (obs,outs,_)=>some (x.obs++obs,none :: outs,some x)
   | _,_=>none
  | false=>match dead.contains i with
   | true=>match evd P n ops n0 ans dead j r (i+1) l with
    | some (obs,outs,x)=>some (obs,none :: outs,x)
    | none=>none
   | false=>match run (get l) (qef P ops o (qgk ans i) (n0+8*i)),dstOk n o with
    | some out,true=>match evd P n ops n0 ans dead j r (i+1) (wr o.dst out++l) with
     | some (obs,outs,x)=>some (out.obs++obs,some out :: outs,x)
     | none=>none
    | _,_=>none
def Wd (ops:List Oper) (outs:List (Option Out)) (i:Nat):L:=match outs.getD i none with|some out=>wr ((ops[i]?).bind (·.dst)) out|none=>[]
theorem fold_none {W:Nat→L} {g0:St} {k:Nat} (h:W k=[]) (m:Nat):yj g0 W (fun t=>decide (t<k+1)) m=yj g0 W (fun t=>decide (t<k)) m:=by
 funext x
 refine wS fun t _ hh=>?_
 by_cases e:t=k
 ·subst e
  rw [h] at hh
  cases hh
 ·have:(t<k+1)=(t<k):=by rw [eq_iff_iff];omega
  simp only [this]
theorem qaw {P:Program} {n:Nat} {ops:List Oper} {n0:Nat} {ans:List (Nat × Ans)} {dead:List Nat} {j:Nat} {g0:St} {tab:List (Option Out)}:∀ {r:List Oper} {i:Nat} {l:L} {obs:List Prop} {outs:List (Option Out)} {x:Option Out},evd P n ops n0 ans dead j r i l=some (obs,outs,x) →
  ops.drop i=r→(∀ t,t<r.length→outs.getD t none=tab.getD (i+t) none)→get l=yj g0 (Wd ops tab) (fun t=>decide (t<i)) ops.length →
  outs.length=r.length∧(∀ t o,i≤t→ops[t]? = some o→t≠j→dead.contains t=false→∃ out,tab.getD t none=some out∧run (yj g0 (Wd ops tab) (fun k=>decide (k<t)) ops.length) (qef P ops o (qgk ans t) (n0+8*t))=some out∧(∀ p∈out.obs,p∈obs)∧∀ d,o.dst=some d→d<n) ∧
   (∀ o,i≤j→ops[j]? = some o→∃ out,x=some out∧run (yj g0 (Wd ops tab) (fun k=>decide (k<j)) ops.length) (qee P ops o (qgk ans j) (n0+8*j))=some out∧∀ p∈out.obs,p∈obs)
 | [],i,l,obs,outs,x,h,hd,ht,hg=>by
  simp only [evd,Option.some.injEq,Prod.mk.injEq] at h
  obtain ⟨rfl,rfl,rfl⟩:=h
  have hi:ops.length≤i:=by simpa using hd
  refine ⟨rfl,fun t o hj ho=>?_,fun o hj ho=>?_⟩
  ·rw [List.getElem?_eq_none (by omega)] at ho;cases ho
  ·rw [List.getElem?_eq_none (by omega)] at ho;cases ho
 | o :: r,i,l,obs,outs,x,h,hd,ht,hg=>by
  have hlt:i<ops.length:=by
   rcases Nat.lt_or_ge i ops.length with h1|h1
   ·exact h1
   ·rw [List.drop_eq_nil_of_le h1] at hd;cases hd
  have hoi:ops[i]? = some o:=by
   have:=List.getElem?_drop (xs:=ops) (i:=i) (j:=0)
   rw [hd] at this
   simpa using this.symm
  have hdr:ops.drop (i+1)=r:=by
   have:=List.drop_drop (i:=1) (j:=i) (l:=ops)
   rw [hd] at this
   simpa [Nat.add_comm] using this.symm
  have htab:outs.getD 0 none=tab.getD i none:=by
   have:=ht 0 (by simp)
   simpa using this
  have hnext:∀ (out:Out),outs.getD 0 none=some out→get (wr o.dst out++l)=yj g0 (Wd ops tab) (fun t=>decide (t<i+1)) ops.length:=fun out ho=>by
   rw [vI,hg]
   have e:(fun j=>decide (j<i+1))=jv (fun j=>decide (j<i)) i:=by
    funext j
    unfold jv
    by_cases e:j=i
    ·subst e;simp
    ·simp [e];omega
   rw [e,ZA (by simp) hlt fun j x h1 h2 h3=>by simp at h3;omega]
   have:Wd ops tab i=wr o.dst out:=by unfold Wd;rw [← htab,ho,hoi];rfl
   rw [this]
  have hskip:outs.getD 0 none=none→get l=yj g0 (Wd ops tab) (fun t=>decide (t<i+1)) ops.length:=fun ho=>by
   rw [fold_none (by unfold Wd;rw [← htab,ho]),hg]
  simp only [evd] at h
  split at h
  ·rename_i hij
   have hij:=Nat.eq_of_beq_eq_true hij
   subst hij
   split at h
   case h_2=>cases h
   rename_i xo ob1 outs1 x1 hrun he
   simp only [Option.some.injEq,Prod.mk.injEq] at h
   obtain ⟨rfl,rfl,rfl⟩:=h
   obtain ⟨h1,h2,_⟩:=qaw he hdr (fun t htt=>by
    have:=ht (t+1) (by simp;omega)
    rw [show i+(t+1)=i+1+t by omega] at this
    simpa using this) (hskip rfl)
   refine ⟨by simp [h1],fun t o' hj ho' hne hdd=>?_,fun o' _ ho'=>?_⟩
   ·obtain ⟨out,q1,q2,q3,q4⟩:=h2 t o' (by omega) ho' hne hdd
    exact ⟨out,q1,q2,fun p hp=>by simp [q3 p hp],q4⟩
   ·rw [hoi] at ho'
    cases ho'
    exact ⟨xo,rfl,by rw [← hg];exact hrun,fun p hp=>by simp [hp]⟩
  ·rename_i hij
   have hij:i≠j:=fun e=>by rw [e,Nat.beq_refl] at hij;cases hij
   split at h
   ·rename_i hdd0
    split at h
    case h_2=>cases h
    rename_i ob1 outs1 x1 he
    simp only [Option.some.injEq,Prod.mk.injEq] at h
    obtain ⟨rfl,rfl,rfl⟩:=h
    obtain ⟨h1,h2,h3⟩:=qaw he hdr (fun t htt=>by
     have:=ht (t+1) (by simp;omega)
     rw [show i+(t+1)=i+1+t by omega] at this
     simpa using this) (hskip rfl)
    refine ⟨by simp [h1],fun t o' hj ho' hne hdd=>?_,fun o' hj ho'=>h3 o' (by omega) ho'⟩
    by_cases e:t=i
    ·subst e;rw [hdd0] at hdd;cases hdd
    ·exact h2 t o' (by omega) ho' hne hdd
   ·rename_i hdd0
    split at h
    case h_2=>cases h
    rename_i out hrun hdst
    split at h
    case h_2=>cases h
    rename_i ob1 outs1 x1 he
    simp only [Option.some.injEq,Prod.mk.injEq] at h
    obtain ⟨rfl,rfl,rfl⟩:=h
    obtain ⟨h1,h2,h3⟩:=qaw he hdr (fun t htt=>by
     have:=ht (t+1) (by simp;omega)
     rw [show i+(t+1)=i+1+t by omega] at this
     simpa using this) (hnext out rfl)
    refine ⟨by simp [h1],fun t o' hj ho' hne hdd=>?_,fun o' hj ho'=>?_⟩
    ·by_cases e:t=i
     ·subst e
      rw [hoi] at ho'
      cases ho'
      refine ⟨out,by rw [← htab];rfl,by rw [← hg];exact hrun,fun p hp=>by simp [hp],fun d hx=>?_⟩
      unfold dstOk at hdst
      rw [hx] at hdst
      simpa [Nat.blt_eq] using hdst
     ·obtain ⟨out',q1,q2,q3,q4⟩:=h2 t o' (by omega) ho' hne hdd
      exact ⟨out',q1,q2,fun p hp=>by simp [q3 p hp],q4⟩
    ·obtain ⟨out',q1,q2,q3⟩:=h3 o' (by omega) ho'
     exact ⟨out',q1,q2,fun p hp=>by simp [q3 p hp]⟩
def freeB (ops:List Oper) (outs:List (Option Out)) (live:List Nat):Bool:=live.all fun k=>(List.range ops.length).all fun i=>!jP (Wd ops outs i) k
def rdD (outs:List (Option Out)) (j:Nat) (x:Out) (i:Nat):List Nat:=match Nat.beq i j with|true=>x.reads|false=>match outs.getD i none with|some out=>out.reads|none=>[]
def evx (P:Program) (n:Nat) (ops:List Oper) (n0:Nat) (ans:List (Nat × Ans)) (draw:Bool) (dead:List Nat) (j:Nat) (live:List Nat) (l:L):Option (Value × L × List Prop) :=
 match evd P n ops n0 ans dead j ops 0 l with
 | some (obs,outs,some x)=>match x.pv,freeB ops outs (live.filter fun k=>!jP x.wb k),Nat.blt j ops.length with
  | .av v,true,true=>match draw with
   | false=>match (List.range j).all (fun i=>!dead.contains i) with
    | true=>some (v,live.map fun k=>(k,get (x.wb++l) k),obs)
    | false=>none
   | true=>match befB ops (befs ops),YO (Wd ops outs) (rdD outs j x) (befs ops) ops.length,dead.all (fun i=>Nat.beq i j || ((befs ops).getD i []).contains j) with
    | true,true,true=>some (v,live.map fun k=>(k,get (x.wb++l) k),obs)
    | _,_,_=>none
  | _,_,_=>none
 | _=>none
theorem qbt {g0:St} {W:Nat→L} {p:Nat→Bool} {k:Nat}:∀ {m:Nat},(∀ i,i<m→jP (W i) k=false)→yj g0 W p m k=g0 k
 | 0,_=>rfl
 | m+1,h=>by
  simp only [yj]
  split
  ·rw [wZ (h m (by omega))];exact qbt fun i hi=>h i (by omega)
  ·exact qbt fun i hi=>h i (by omega)
theorem qld {E:Env} {n0:Nat} {l l':L} {id:Nat} {ops:Array Oper} {draw:Bool} {ans:List (Nat × Ans)} {dead:List Nat} {j:Nat} {live:List Nat} {obs:List Prop} {v:Value} (hm:draw=true→E.P.follows .mixedOrders=true)
  (h:evx E.P E.n ops.toList n0 ans draw dead j live l=some (v,l',obs)) (hob:∀ p∈obs,p)
  {Q:Exit→Act→World→Prop} (hQ:∀ c a,Inv E (· < n0+8*ops.size) c (get l') a→Q (chn v) a c.w) {c:Cx} {a:Act} (hI:Inv E (· < n0) c (get l) a):(Code.region id ops draw).wp E.P Q a c.w:=by
 unfold evx at h
 split at h
 case h_2=>cases h
 rename_i obs1 outs x he
 split at h
 case h_2=>cases h
 rename_i v1 hpv hfr hjl
 have hjl:j<ops.toList.length:=by simpa [Nat.blt_eq] using hjl
 obtain ⟨oj,hoj⟩:∃ o,ops.toList[j]? = some o:=⟨_,List.getElem?_eq_getElem hjl⟩
 have hz:∀ m,yj (get l) (Wd ops.toList outs) (fun t=>decide (t<0)) m=get l:=fun m=>by
  induction m with
  | zero=>rfl
  | succ m ih=>simp only [yj,Nat.not_lt_zero,decide_false,Bool.false_eq_true,if_false];exact ih
 obtain ⟨h1,h2,h3⟩:=qaw (g0:=get l) (tab:=outs) he (by simp) (fun j _=>by simp) (hz _).symm
 have hops:ops.toList.toArray=ops:=by simp
 have hlen:ops.toList.length=ops.size:=by simp
 obtain ⟨x',hx',hxr,hxo⟩:=h3 oj (Nat.zero_le _) hoj
 cases hx'
 have hstep:obs=obs1→∀ i o,ops.toList[i]? = some o→i≠j→dead.contains i=false→∃ out,outs.getD i none=some out∧Wd ops.toList outs i=wr o.dst out∧∀ g,(∀ k∈out.reads,g k=yj (get l) (Wd ops.toList outs) (fun t=>decide (t<i)) ops.toList.length k)→VO E ops.toList.toArray i o out (n0+8*i) g:=by
  intro hobs i o ho hne hdd
  obtain ⟨out,q1,q2,q3,q4⟩:=h2 i o (Nat.zero_le _) ho hne hdd
  exact ⟨out,q1,by unfold Wd;rw [q1,ho];rfl,fun g hg=>qed ho q4 (QX q2 hg) fun p hp=>hob p (by rw [hobs];exact q3 p hp)⟩
 have hstepX:obs=obs1→∀ g,(∀ k∈x.reads,g k=yj (get l) (Wd ops.toList outs) (fun t=>decide (t<j)) ops.toList.length k)→StepX E ops.toList.toArray j v1 x.wb (n0+8*j) g:=fun hobs g hg =>
  gplanX_ok hoj (QX hxr hg) hpv fun p hp=>hob p (by rw [hobs];exact hxo p hp)
 have hfin:v=v1→l'=live.map (fun k=>(k,get (x.wb++l) k))→∀ p c a,Inv E (fun id=>id<n0+8*ops.toList.length) c (zC x.wb (yj (get l) (Wd ops.toList outs) p ops.toList.length)) a→Q (chn v1) a c.w:=by
  intro hv hl' p c a h
  rw [hlen] at h
  rw [← hv]
  refine hQ c a (h.less fun k u hk=>?_)
  rw [hl'] at hk
  have hmem:k∈live:=by
   rcases Classical.em (k∈live) with h|h
   ·exact h
   ·exfalso
    have:∀ (m:List Nat),k ∉ m→get (m.map fun k=>(k,get (x.wb++l) k)) k=none:=by
     intro m
     induction m with
     | nil=>intro _;rfl
     | cons a m ih =>
      intro hm
      simp only [get,List.map_cons,lk] at ih ⊢
      rw [if_neg (fun e=>hm (by rw [Nat.eq_of_beq_eq_true e];simp))]
      exact ih (fun h=>hm (by simp [h]))
    rw [this live h] at hk
    cases hk
  have hk:=qeg k u hk
  rw [vI] at hk
  by_cases hh:jP x.wb k=true
  ·rw [qaj hh _ (get l)];exact hk
  ·have hh':jP x.wb k=false:=by simpa using hh
   rw [wZ hh'] at hk ⊢
   rw [qbt]
   ·exact hk
   ·intro i hi
    unfold freeB at hfr
    rw [List.all_eq_true] at hfr
    have h5:=hfr k (List.mem_filter.2 ⟨hmem,by simp [hh']⟩)
    rw [List.all_eq_true] at h5
    simpa using h5 i (List.mem_range.2 hi)
 split at h
 ·split at h
  case h_2=>cases h
  rename_i hdd
  simp only [Option.some.injEq,Prod.mk.injEq] at h
  obtain ⟨hv,hl',hobs⟩:=h
  have hs:=qin (E:=E) (ops:=ops.toList.toArray) (g0:=get l) (W:=Wd ops.toList outs) (n0:=n0) (j:=j) (by simpa using hjl) (v:=v1) (wb:=x.wb) (fun i hi=>by
   obtain ⟨o,ho⟩:∃ o,ops.toList[i]? = some o:=⟨_,List.getElem?_eq_getElem (by omega)⟩
   have hd:dead.contains i=false:=by
    rw [List.all_eq_true] at hdd
    simpa using hdd i (List.mem_range.2 hi)
   obtain ⟨out,_,q2,q3⟩:=hstep hobs.symm i o ho (by omega) hd
   exact ⟨o,out,by simpa using ho,q2,by
    have:=q3 (yj (get l) (Wd ops.toList outs) (fun t=>decide (t<i)) ops.toList.length) (fun _ _=>rfl)
    simpa using this⟩) (by
   have:=hstepX hobs.symm (yj (get l) (Wd ops.toList outs) (fun t=>decide (t<j)) ops.toList.length) (fun _ _=>rfl)
   simpa using this) (Q:=Q) (fun p c a h=>hfin hv.symm hl'.symm p c a (by simpa using h)) j 0 (by omega) c a (by
    rw [hz]
    exact hI.more fun i hi=>.inl hi)
  rw [hops] at hs
  exact wp_region (by simpa using hs)
 ·split at h
  case h_2=>cases h
  rename_i hbf hap hdd
  simp only [Option.some.injEq,Prod.mk.injEq] at h
  obtain ⟨hv,hl',hobs⟩:=h
  have hs:=any_opsX (E:=E) (l:=ops.toList) (g0:=get l) (W:=Wd ops.toList outs) (rd:=rdD outs j x) (n0:=n0) (j:=j) (dead:=fun i=>Nat.beq i j || dead.contains i) hjl (by simp [Nat.beq_refl]) (v:=v1) (wb:=x.wb) hbf hap
   (fun i hi hd=>by
    rw [Bool.or_eq_true] at hd
    rcases hd with hd|hd
    ·exact .inl (Nat.eq_of_beq_eq_true hd)
    ·rw [List.all_eq_true] at hdd
     have:=hdd i (by simpa using hd)
     rw [Bool.or_eq_true] at this
     rcases this with h5|h5
     ·exact .inl (Nat.eq_of_beq_eq_true h5)
     ·exact .inr (by simpa using h5))
   (fun i o ho hd=>by
    rw [Bool.or_eq_false_iff] at hd
    have hne:i≠j:=fun e=>by rw [e,Nat.beq_refl] at hd;cases hd.1
    obtain ⟨out,q1,q2,q3⟩:=hstep hobs.symm i o ho hne hd.2
    refine ⟨out,q2,fun g hg=>q3 g fun k hk=>hg k ?_⟩
    unfold rdD
    rw [hd.1,q1]
    exact hk)
   (fun g hg=>hstepX hobs.symm g fun k hk=>hg k (by unfold rdD;rw [Nat.beq_refl];exact hk)) (Q:=Q) (fun p c a h=>hfin hv.symm hl'.symm p c a h)
   ops.toList.length (Array.replicate ops.toList.length false) ⟨{ c.w with drawn:=c.w.drawn+1 },c.S,c.own⟩ a (by simp) (by
    rw [Qw (g:=fun _=>false) fun i _=>vv _ _]
    exact YM _) (fun j o _ hj=>by
    have hj':(Array.replicate ops.toList.length false).getD j false=true:=hj
    rw [vv] at hj'
    cases hj') (vv _ _) (by
    have h0:yj (get l) (Wd ops.toList outs) (fun j=>(Array.replicate ops.toList.length false).getD j false) ops.toList.length=get l:=by
     have e:(fun j=>(Array.replicate ops.toList.length false).getD j false)=fun _=>false:=funext fun j=>vv _ j
     rw [e]
     have:∀ m,yj (get l) (Wd ops.toList outs) (fun _=>false) m=get l:=fun m=>by
      induction m with
      | zero=>rfl
      | succ m ih=>simp only [yj,Bool.false_eq_true,if_false];exact ih
     exact this _
    rw [h0]
    exact (hI.drawn _).more fun i hi=>.inl hi)
  rw [hops] at hs
  refine wp_region_any (hm rfl) ?_
  rw [hlen] at hs
  exact hs

/-! ### in a walk -/
section
variable {P:Program} {n:Nat} {c0:Cx} {Bor:BorD} {Q:Yq} {n0:Nat} {l:L} {rs:List Item}
theorem Wz {E:Env} {cx:Cx} {a:Act} {ch:List PanicEntry}:∀ {rs:List Item},Q (.panic ch) cx a→WS E Q rs (.panic ch) cx a
 | [],k=>k
 | .code _ :: rs,k=>Wz (rs:=rs) k
 | .blk _ :: rs,k=>Wz (rs:=rs) k
theorem vM (hm:P.follows .mixedOrders=true) {id:Nat} {ops:Array Oper} {draw:Bool} (ans:List (Nat × Ans)) (dead:List Nat) (j:Nat) (l':L) {v:Value} {obs:List Prop} (hob:∀ p∈obs,p)
  (hQ:∀ cx a,Inv ⟨P,n,c0,Bor⟩ (· < n0+8*ops.size) cx (get l') a→Q (chn v) cx a)
  (h:evx P n ops.toList n0 ans draw dead j (l'.map (·.1)) l=some (v,l',obs):=by kernel_rfl):T P n c0 Bor Q n0 l (.code (.region id ops draw) :: rs):=fun _ _ hI =>
 qld (E:=⟨P,n,c0,Bor⟩) (fun _=>hm) h hob (fun c a h=>⟨c,rfl,Wz (hQ c a h)⟩) hI
theorem vk {α:Type} {I:α→L} {μ:α→Nat} {n1:Nat} {x:α} {cx:Cx} {a:Act} {ch:List PanicEntry} (h:Q (.panic ch) cx a):qjg P n c0 Bor Q rs n1 I μ x (.panic ch) cx a:=Wz h
def outQ (P:Program) (fn:Func) (c0:Cx) (Bor:BorD):O→Yq
 | .ret r H'=>retQ P fn c0 Bor r H'
 | .pan v H'=>fun e cx a=>e=chn v∧a.defers=Bor.ds∧∃ cx',cx'.w=cx.w∧Heap ⟨P,0,c0,Bor⟩ (· < H'.length) cx' (ZF H')
theorem jJ {f : FuncId} {fn : Func} {code : Code} {args : List PV} {H : Hp} {o : O} {l0 : L} (hf : P.funcs[f]? = some fn) (hb : fn.body = some code) (hname : (fn.name == "runtime.NumGoroutine") = false) (hlen : H.length ≤ o.H.length)
  (hn:Nat.ble args.length fn.ntmps=true) (hl0:Zj 0 args++ZM 0 H=l0) (h:∀ c0 (Bor:Nat→Prop),(∀ i x,c0.own i=some x→i<H.length)→T P fn.ntmps c0 ⟨Bor,[]⟩ (outQ P fn c0 ⟨Bor,[]⟩ o) H.length l0 [.code code]):PO P f args H o:=by
 cases o with
 | ret r H'=>exact zZ hf hb hname hlen hn hl0 h
 | pan v H' =>
  refine ⟨⟨fn,hf,by rw [hb];rfl,hname⟩,hlen,fun c vs hh hrl=>?_⟩
  refine calls_of_wp hf hb (wp_mono (WU hn hl0 h c vs hh hrl) ?_)
  rintro e a' w' ⟨cx',rfl,rfl,hd,cx2,h1,h2⟩
  exact ⟨hd,cx2,rfl,h1,h2⟩
theorem QT {c:Prop} [Decidable c] {n:Nat} {a b:O} (h1:n≤a.H.length) (h2:n≤b.H.length):n≤(if c then a else b).H.length:=by split <;> assumption
theorem wv {f:FuncId} {args:List PV} {H H' H2:Hp} {c:Prop} [Decidable c] {r:PV} {v:Value} (h:PO P f args H (if c then .ret r H' else .pan v H2)) (hc:c):PC P f args H r H':=by rw [if_pos hc] at h;exact h
theorem wQ {f:FuncId} {args:List PV} {H H' H2:Hp} {c:Prop} [Decidable c] {r:PV} {v:Value} (h:PO P f args H (if c then .ret r H' else .pan v H2)) (hc:¬ c):PX P f args H v H2:=by rw [if_neg hc] at h;exact h
theorem zW {fn:Func} {m:Nat} {v:Value} (hc0:∀ i x,c0.own i=some x→i<m) {l':L} {cx:Cx} {a:Act} (hI:Inv ⟨P,n,c0,Bor⟩ (· < n0) cx (get l') a):outQ P fn c0 Bor (.pan v (List.replicate m none)) (chn v) cx a:=by
 have hno:∀ i T cs,¬ ZF (List.replicate m none) (kb i)=some (.blk T cs):=fun i T cs h=>by
  rw [QH] at h
  have:(List.replicate m (none:Option (TypeId × List PV))).getD i none=none:=by
   rw [List.getD_eq_getElem?_getD,List.getElem?_replicate]
   split <;> rfl
  rw [this] at h
  cases h
 have hnl:∀ i,¬ vD (ZF (List.replicate m none)) i:=fun i ⟨T,cs,h⟩=>hno i T cs h
 refine ⟨rfl,hI.dfr,⟨cx.w,cx.S,c0.own⟩,rfl,{ ids:=fun i x hx=>by rw [List.length_replicate];exact hc0 i x hx,blk:=fun i T cs h=>(hno i T cs h).elim,inj:=fun i j b T T' h=>(hnl i h).elim,apart:=fun i b T h=>(hnl i h).elim,bnd:=fun i b T h=>hI.bnd i b T (hI.keep.own i _ h),sok:=hI.sok,os:=hI.os,tape:=hI.tape,output:=hI.output,size:=hI.size,same:=hI.same,s0:=hI.s0,s1:=hI.s1,keep:=⟨hI.keep.S,fun _ _ h=>h,hI.keep.shape⟩,laid:=hI.laid }⟩
end
theorem QK {P:Program} {f:FuncId} {A cs:List PV} {T:TypeId} {r:Value} {H':Hp} {l:List Prop} (i:List Nat) (n:Nat) (h:PX P f A [some (T,cs)] r H') (k:∀ q∈l,q):∀ q∈PX P f A [some (T,cs)] r H' :: rsA i n A :: rsA i n cs :: l,q:=oc h (oc rfl (oc rfl k))
open Go.Lib
theorem qcz {P:Program} {W:World} {name:String} {k:IntKind} {zs:List Int} {g:Nat} {t e:TypeId} {n:Nat}
  (hg:P.globalNamed name=some g) (hty:(P.globals[g]?).map (·.type)=some t) (ht:P.underlying t=some (.array n e)) (he:P.underlying e=some (.int k)) (hce:P.cellsOf e=1) (hct:P.cellsOf t=n)
  (h:VarReads P W name (tabData k zs)):TabIs P W name k zs:=by
 obtain ⟨g',t',cs,fuel,p,hg',ht',hvar,hd⟩:=h
 obtain rfl:=Option.some.inj (hg.symm.trans hg')
 obtain rfl:=Option.some.inj (hty.symm.trans ht')
 unfold TabIs
 rw [hvar,← cells_of_tab ht he hce hct hd]
theorem QR {w:World} {b o:Nat} {v:Value} (h:w.cell? ⟨b,o,none⟩=some v):b<w.heap.size:=by
 by_cases hb:b<w.heap.size
 ·exact hb
 ·unfold World.cell? at h
  rw [Array.getElem?_eq_none (show w.heap.size≤b from by omega)] at h
  cases h
theorem qkc : "*" ++ "errors.errorString" = "*errors.errorString" := by decide
theorem err_row (u : TypeId) (h : Tryz.prog.typeName? 3 u = some "*errors.errorString") : u = 232 :=
 typeName_ptr_named (nm := "errors.errorString") (by rw [qkc]; kernel_rfl) (by kernel_rfl) (by decide) u (by rw [qkc]; exact h)
theorem laid_of {W:World} (hL:laidMet Tryz.prog Rows.scoreBarsRow.laid W):Laid W (fun b=>b<W.heap.size):=by
 have hT : TabIs Tryz.prog W "internal/strconv.uint64pow10" .u64 pow10Tab :=
  qcz (g:=0) (t:=197) (e:=178) (n:=20) (by kernel_rfl) (by kernel_rfl) Tryz.underlying197 Tryz.underlying178 (by kernel_rfl) (by kernel_rfl)
   ((show Rows.laid_internal_strconv_uint64pow10=tabData .u64 pow10Tab from by kernel_rfl)▸laidMet.reads hL (.tail _ (.tail _ (.head _))))
 have hU:Utf8Tabs 1 2 W :=
  utf8Tabs_of_readsT (ρ:=Tryz.lays197_ren) { Tryz.lays197 with } ⟨by kernel_rfl,by kernel_rfl,by kernel_rfl,by kernel_rfl,by kernel_rfl,by kernel_rfl,by kernel_rfl⟩
   ((show Rows.laid_unicode_utf8_first=firstData from Pinned.utf8First_eq)▸laidMet.reads hL (.tail _ (.tail _ (.tail _ (.tail _ (.tail _ (.tail _ (.head _)))))))) ((show Rows.laid_unicode_utf8_acceptRanges=acceptData from by kernel_rfl)▸laidMet.reads hL (.tail _ (.tail _ (.tail _ (.head _)))))
 have z1:=QR (hU.1 0 (by decide))
 have z2:=QR (hU.2 0 (by decide)).1
 have z3:=QR (hT.cell (g:=0) (by kernel_rfl) 0 (by decide))
 obtain ⟨a0,s0,hv0,_,_,_⟩:=laid_sentinel (P:=Tryz.prog) (g:=7) (ti:=79) (tp:=232) (te:=234) (ts:=9) hL.tail.tail.tail.tail (by kernel_rfl) (by kernel_rfl) Tryz.underlying79 err_row Tryz.underlying232 Tryz.underlying234 rfl rfl Tryz.underlying9 (by kernel_rfl) (by kernel_rfl)
 have z4:=QR (by have h0:=World.var?_cell (P:=Tryz.prog) (g:=7) (by kernel_rfl) hv0 0;simpa using h0)
 refine ⟨fun b hb=>?_,hT,hU,_,_,hv0⟩
 simp only [LB,List.mem_cons,List.not_mem_nil,or_false] at hb
 rcases hb with rfl|rfl|rfl|rfl
 ·exact z1
 ·exact z2
 ·exact z3
 ·exact z4
end Go.Proofs.YtmlnilkbolcknaaGreatDoor.Pm
namespace Go.Proofs.YtmlnilkbolcknaaGreatDoor
open Go.ChangeShapes Go.WideShapes Go.ChangeAt Go.RowKit
theorem Tryz.own:ownKnob Tryz.prog.godebug=none:=by kernel_rfl
theorem Tryz.laidOut:laidOutB Tryz.prog=true:=by kernel_rfl

section
variable {H:Type} {enc:TypeId × Value→H} {P:Program}
theorem WC (hl:laidOutB P=true) {W W':World} {sp:Nat→Bool} (hb:Below W.heap.size W W') :
  ∀ {ts:List TypeId} {vs:List Value} {ds:List (DataW H)} {ps:List MemPlace},(ts.all fun t=>P.readableRec t && decide (t<P.types.size))=true →
   DataW.TrodAll enc P W 0 (fun _=>true) true ts vs ds ps→(∀ x∈ps,x.block<W.heap.size)→(∀ x∈ps,sp x.block=true)→DataW.TrodAll enc P W' 0 sp true ts vs ds ps
 | [],_,_,_,_,h,_,_=>by obtain ⟨rfl,rfl,rfl⟩:=trodAll_nil h;exact trodAll_mk0
 | t :: ts,_,_,_,hr,h,hlt,hsp=>by
  obtain ⟨v,vs,d,ds,p,q,rfl,rfl,rfl,h0,h1⟩:=trodAll_cons h
  simp only [List.all_cons,Bool.and_eq_true,decide_eq_true_eq] at hr
  exact trodAll_cons_mk (WideElems.Trod_stays hl hr.1.1 hr.1.2 h0 (fun x hx=>hb.same (hlt x (by simp [hx]))) (fun x hx=>hsp x (by simp [hx])))
   (WC hl hb hr.2 h1 (fun x hx=>hlt x (by simp [hx])) (fun x hx=>hsp x (by simp [hx])))

theorem law_post {f:Func} {s:ChangeSpec} {apart fresh handsOn again:Bool} {W W':World} {args:Array Value} {ds:List (DataW H)} {before:List MemPlace} {tb:TypeId}
  (hW:DataW.Whole enc P f.params.toList s.vars apart W args.toList ds [] before) (hl:laidOutB P=true)
  (hv:s.vars=[]) (hr:(f.params.toList.all fun t=>P.readableRec t && decide (t<P.types.size))=true) (hrt:f.resultTypes = #[tb]) (htb:P.underlying tb=some .bool)
  (hs:s.fn H (ds++[])={ results:=[.lit (.bool true)],args:=ds }) (hb:Below W.heap.size W W') :
  s.post enc P f apart fresh handsOn again W args (.bool true) W':=by
 have hlt:∀ p∈before,p.block<W.heap.size:=fun p hp=>hW.lt p hp
 have hold:∀ p∈before,(fun b=>decide (b<W.heap.size)) p.block=true:=fun p hp=>by simpa using hlt p hp
 have hW0:=hW
 obtain ⟨p,q,hA,hV,hpq,hz,hn⟩:=hW
 have hq:q=[]:=by rw [hv] at hV;exact (trodVars_none hV).2
 have hpq':before=p:=by rw [hpq,hq,List.append_nil]
 subst hpq'
 have hargs:∀ sp:Nat→Bool,(∀ x∈before,sp x.block=true)→DataW.TrodAll enc P W' 0 sp true f.params.toList args.toList (s.fn H (ds++[])).args before:=fun sp hsp=>by
  rw [hs];exact WC hl hb hr hA hlt hsp
 have hvars:∀ sp:Nat→Bool,DataW.TrodVars enc P W' sp s.vars (s.fn H (ds++[])).vars []:=fun sp=>by rw [hs,hv];rfl
 have hres:∀ (b:Nat) (sp:Nat→Bool) (hd:Bool),DataW.TrodAll enc P W' b sp hd f.resultTypes.toList (Value.resultList f.resultTypes.size (.bool true)) (s.fn H (ds++[])).results []:=fun b sp hd=>by
  rw [hrt,hs];exact trodAll_mk1 (shut_bool htb true)
 have hok:∀ (j:Nat) (t:TypeId) (r:Value),f.resultTypes[j]? = some t→(Value.resultList f.resultTypes.size (.bool true))[j]? = some r→Value.okWide P W' .any 0 t r:=by
  exact ok_one (t:=tb) hrt rfl (okWide_bool_mk htb true)
 refine ⟨ds,[],before,[],before,[],hW0,hres _ _ _,hargs _ hold,hvars _,World.keptBut_mono (fun p hp=>⟨hp,?_⟩) (hb.frame (· ∈ before)),fun _=>?_⟩
 ·exact Or.inr (Or.inl hp)
 ·refine ⟨hok,_,_,([]++before)++[],⟨[]++before,[],trodAll_append (hargs _ (fun _ _=>rfl)) (hres _ _ _),hvars _,rfl,?_,?_⟩,?_⟩
  ·intro b off hp
   have hin:MemPlace.cell b off∈before:=by simpa using hp
   rw [hb.frozen (hlt _ hin)]
   exact hz b off hin
  ·intro ha
   have:=hn ha
   simpa using this
  ·intro p hp _
   simpa using hp
end
end Go.Proofs.YtmlnilkbolcknaaGreatDoor
namespace Go.Proofs.YtmlnilkbolcknaaGreatDoor.Pm
open Go Go.Deep Go.ChangeShapes Go.WideShapes Go.ChangeAt Go.RowKit
theorem cells_from {w:World} {a:Addr} {n:Nat} {f:Nat→Value} (h:∀ c,c<n→w.cell? (a.add c)=some (f c)) (hn:0<n):∃ b o,a=⟨b,o,none⟩∧b<w.heap.size∧∀ c,c<n→w.cell? ⟨b,o+c,none⟩=some (f c):=by
 obtain ⟨b,o,s⟩:=a
 have h0:=h 0 hn
 have hs:s=none:=by
  simp only [Addr.add,if_true,World.cell?] at h0
  cases s with
  | none=>rfl
  | some s =>
   exfalso
   split at h0
   ·simp at h0
   ·cases h0
 subst hs
 refine ⟨b,o,rfl,?_,fun c hc=>?_⟩
 ·simp only [Addr.add,if_true,World.cell?] at h0
  rcases Nat.lt_or_ge b w.heap.size with hb|hb
  ·exact hb
  ·rw [Array.getElem?_eq_none hb] at h0;cases h0
 ·rw [← h c hc]
  unfold Addr.add
  by_cases e:c=0
  ·subst e;rfl
  ·rw [if_neg e]
theorem YQ {H:Type} {P:Program} {e:TypeId}:∀ {l:List (DataW H)} {d:DataW H},d∈l→∀ n∈d.weights P e,n∈DataW.weightsAll P e l
 | d' :: r,d,hd,n,hn=>by
  simp only [DataW.weightsAll,List.mem_append]
  rcases List.mem_cons.1 hd with rfl|h
  ·exact Or.inl hn
  ·exact Or.inr (YQ h n hn)
set_option maxRecDepth 100000
set_option maxHeartbeats 4000000
open Go.Proofs.YtmlnilkbolcknaaGreatDoor.Pi
abbrev yz (e a:Int):Value:=.iface 95 (.agg #[.int .i64 e,.int .i64 a])
theorem fail_po (s:qJ) (a:Nat) (k e:Int):PO Tryz.prog 39 [(.opt 0 0),(iv e)] [some (98,(r3 s a k))] (if False then .ret (.tup []) [some (98,(r3 s a k))] else .pan (yz e (a:Int)) [none]):=by
 refine jJ Tryz.func39 rfl (by kernel_rfl) (QT (Nat.le_of_ble_eq_true rfl) (Nat.le_of_ble_eq_true rfl)) (by kernel_rfl) (l0:=[ps 0 (.opt 0 0),ps 1 (iv e),pb 0 98 (r3 s a k)]) rfl (fun c0 Bor hc0=>?_)
 rw [if_neg (fun c=>c)]
 exact vM qD [] [] 7 [] (oz) (fun cx_ a_ hI_=>zW hc0 hI_)
theorem yV (s:qJ) (a:Nat) (k e:Int):PX Tryz.prog 39 [.opt 0 0,iv e] [some (98,[sv (st s),nv a,iv k])] (yz e (a:Int)) [none]:=wQ (fail_po s a k e) (fun c=>c)
theorem qhp (s:qJ) (a:Nat) (k:Int) (hs:s.length≤65536) (ha:a≤s.length):PC Tryz.prog 72 [(.opt 0 0)] [some (98,(r3 s a k))] (.tup []) [some (98,(r3 s (qB s a) k))]:=by
 refine zZ Tryz.func72 rfl (by kernel_rfl) (Nat.le_of_ble_eq_true rfl) (by kernel_rfl) (l0:=[ps 0 (.opt 0 0),pb 0 98 (r3 s a k)]) rfl (fun c0 Bor hc0=>?_)
 refine zI<|vW (α:={x:Nat // x≤s.length∧qB s x=qB s a}) (fun x=>[ps 0 (.opt 0 0),pb 0 98 (r3 s x.1 k)]) (fun x=>s.length-x.1) 1 ⟨a,⟨ha,rfl⟩⟩ (Wk.ren2 _ 1 hc0 [0] rfl rfl (by kernel_rfl) (by kernel_rfl)) ?_
 rintro ⟨b,⟨hb,hg⟩⟩
 refine qA<|qA ?_
 by_cases h1:(b:Int)<(s.length:Int)
 ·by_cases h2:(((s.getD b 0).toNat:Nat):Int)=32
  ·refine jQ qD (gy 11 21++[(32,.gd true (.yes true)),(33,.yes true)]) (bfm [[],[(0,1)],[(0,2)],[(0,3)],[],[(4,1)],[(4,2)],[(4,3)],[(4,4)],[(0,9)],[(0,10)],[(0,11)],[(0,12)],[(0,13)],[(0,14)],[(0,11)],[(0,11),(15,1)],[(0,11),(15,2)],[(0,11),(15,3)],[(0,19)],[(0,20)],[(0,21)],[(0,22)],[(0,23)],[(0,24)],[(0,25)],[(0,22)],[(0,22),(26,1)],[(0,22),(26,2)],[(0,22),(26,3)],[(0,30)],[(0,31)],[(0,32)],[(0,33)]]) [([4],[0]),([6],[4]),([8],[6]),([10],[1,8]),([12],[0]),([14],[12]),([16],[14]),([18],[1,16]),([20],[18]),([22],[10,20]),([24],[22]),([26],[0,24]),([28],[24,26]),([30],[24,28]),([32],[1,24,30]),([34],[0,24]),([36],[24,34]),([38],[24,36]),([40],[1,24,38]),([42],[24,32,40]),([44],[24,42]),([46],[24,44]),([48],[46]),([50],[46]),([52],[46]),([54],[46]),([56],[46]),([58],[46]),([60],[46]),([62],[46]),([64],[46]),([66],[46]),([68],[24,46,66]),([70],[24,68])] [ps 0 (.opt 0 0),ps 35 (bv true),pb 0 98 (r3 s b k)] (on 9 (zR h1) (oc (by first|omega|(simp <;> omega):(0:Int)≤(b:Int)∧(b:Int)<(s.length:Int)) (on 2 (zR h1) (on 10 (zR h2) (oc (zR h1) (oc (zR h2) (oc (zR h1) oz)))))))<|qU (b:=true) rfl rfl<|qF<|zI<|zU qD [] [ps 0 (.opt 0 0),pb 0 98 [(sv (st s)),(iv (((b:Nat):Int)+1)),(iv k)]] (oi (((b:Nat):Int)+1) (by omega) oz)<|zM ?_
   have hy:qB s b=qB s (b+1):=gap_yes (by omega) (by omega)
   exact vH ⟨b+1,⟨by show b+1≤s.length;omega,by rw [← hy];exact hg⟩⟩ (Wk.trans (Wk.eq (show _=[ps 0 (.opt 0 0),pb 0 98 (r3 s (b+1) k)] from by rfl)) (Wk.ren2 _ 1 hc0 [0] rfl rfl (by kernel_rfl) (by kernel_rfl))) (show s.length-(b+1)<s.length-b from by show s.length-(b+1)<s.length-b;omega)
  refine jQ qD (gy 11 11++gn 22 10++[(32,.gd true (.yes false)),(33,.yes true)]) (bfm [[],[(0,1)],[(0,2)],[(0,3)],[],[(4,1)],[(4,2)],[(4,3)],[(4,4)],[(0,9)],[(0,10)],[(0,11)],[(0,12)],[(0,13)],[(0,14)],[(0,11)],[(0,11),(15,1)],[(0,11),(15,2)],[(0,11),(15,3)],[(0,19)],[(0,20)],[(0,21)],[(0,22)],[(0,23)],[(0,24)],[(0,25)],[(0,22)],[(0,22),(26,1)],[(0,22),(26,2)],[(0,22),(26,3)],[(0,30)],[(0,31)],[(0,32)],[(0,33)]]) [([4],[0]),([6],[4]),([8],[6]),([10],[1,8]),([12],[0]),([14],[12]),([16],[14]),([18],[1,16]),([20],[18]),([22],[10,20]),([24],[22]),([26],[0,24]),([28],[24,26]),([30],[24,28]),([32],[1,24,30]),([34],[0,24]),([36],[24,34]),([38],[24,36]),([40],[1,24,38]),([42],[24,32,40]),([44],[24,42]),([46],[24,44]),([48],[0,46]),([50],[46,48]),([52],[46,50]),([54],[1,46,52]),([56],[0,46]),([58],[46,56]),([60],[46,58]),([62],[1,46,60]),([64],[46,54,62]),([66],[46,64]),([68],[24,46,66]),([70],[24,68])] [ps 0 (.opt 0 0),ps 35 (bv (decide ((((s.getD b 0).toNat:Nat):Int)=10))),pb 0 98 (r3 s b k)] (on 9 (zR h1) (oc (by first|omega|(simp <;> omega):(0:Int)≤(b:Int)∧(b:Int)<(s.length:Int)) (on 2 (zR h1) (on 9 (zP h2) (oc (by first|omega|(simp <;> omega):(0:Int)≤(b:Int)∧(b:Int)<(s.length:Int)) (oc (zP h2) (oc (zR h1) (oc (zP h2) (oc (zR h1) oz))))))))) ?_
  by_cases h3:(((s.getD b 0).toNat:Nat):Int)=10
  ·refine qX (zR h3)<|qF<|zI<|zU qD [] [ps 0 (.opt 0 0),pb 0 98 [(sv (st s)),(iv (((b:Nat):Int)+1)),(iv k)]] (oi (((b:Nat):Int)+1) (by omega) oz)<|zM ?_
   have hy:qB s b=qB s (b+1):=gap_yes (by omega) (by omega)
   exact vH ⟨b+1,⟨by show b+1≤s.length;omega,by rw [← hy];exact hg⟩⟩ (Wk.trans (Wk.eq (show _=[ps 0 (.opt 0 0),pb 0 98 (r3 s (b+1) k)] from by rfl)) (Wk.ren2 _ 1 hc0 [0] rfl rfl (by kernel_rfl) (by kernel_rfl))) (show s.length-(b+1)<s.length-b from by show s.length-(b+1)<s.length-b;omega)
  refine qW (zP h3)<|vL rfl rfl ?_
  have he:qB s a=b:=by rw [← hg];exact gap_no (by omega)
  rw [he]
  exact fun cx_ a_ hI_=>yw (H':=[some (98,(r3 s b k))]) (.inl rfl) (Wk.ren2 [pb 0 98 (r3 s b k)] 1 hc0 [0] rfl rfl (by kernel_rfl) (by kernel_rfl)) rfl (oc rfl (oz)) (fun cx_ a_ hI_=>yC (l':=[pb 0 98 (r3 s b k)]) (by kernel_rfl) cx_ a_ hI_) hI_
 refine jQ qD (gn 11 11++[(32,.gd false .no),(33,.yes false)]) (bfm [[],[(0,1)],[(0,2)],[(0,3)],[],[(4,1)],[(4,2)],[(4,3)],[(4,4)],[(0,9)],[(0,10)],[(0,11)],[(0,12)],[(0,13)],[(0,14)],[(0,11)],[(0,11),(15,1)],[(0,11),(15,2)],[(0,11),(15,3)],[(0,19)],[(0,20)],[(0,21)],[(0,22)],[(0,23)],[(0,24)],[(0,25)],[(0,22)],[(0,22),(26,1)],[(0,22),(26,2)],[(0,22),(26,3)],[(0,30)],[(0,31)],[(0,32)],[(0,33)]]) [([4],[0]),([6],[4]),([8],[6]),([10],[1,8]),([12],[0]),([14],[12]),([16],[14]),([18],[1,16]),([20],[18]),([22],[10,20]),([24],[22]),([26],[24]),([28],[24]),([30],[24]),([32],[24]),([34],[24]),([36],[24]),([38],[24]),([40],[24]),([42],[24]),([44],[24]),([46],[24]),([48],[46]),([50],[46]),([52],[46]),([54],[46]),([56],[46]),([58],[46]),([60],[46]),([62],[46]),([64],[46]),([66],[46]),([68],[24]),([70],[24,68])] [ps 0 (.opt 0 0),ps 35 (bv false),pb 0 98 (r3 s b k)] (on 13 (zP h1) oz)<|zD (b:=false) rfl rfl<|vL rfl rfl ?_
 have he:qB s a=b:=by rw [← hg];exact gap_end (by omega)
 rw [he]
 exact fun cx_ a_ hI_=>yw (H':=[some (98,(r3 s b k))]) (.inl rfl) (Wk.ren2 [pb 0 98 (r3 s b k)] 1 hc0 [0] rfl rfl (by kernel_rfl) (by kernel_rfl)) rfl (oc rfl (oz)) (fun cx_ a_ hI_=>yC (l':=[pb 0 98 (r3 s b k)]) (by kernel_rfl) cx_ a_ hI_) hI_
theorem Vw (s:qJ) (a:Nat) (k:Int) (hs:s.length≤65536) (ha:a≤s.length):PC Tryz.prog 38 [(.opt 0 0)] [some (98,(r3 s a k))] (bv (decide (((qB s a:Nat):Int)=(s.length:Int)))) [some (98,(r3 s (qB s a) k))]:=by
 refine zZ Tryz.func38 rfl (by kernel_rfl) (Nat.le_of_ble_eq_true rfl) (by kernel_rfl) (l0:=[ps 0 (.opt 0 0),pb 0 98 (r3 s a k)]) rfl (fun c0 Bor hc0=>?_)
 refine qA<|qL qD [.r] []<|qA<|vX qD 1 [.k1,.d,.n] [pb 0 98 (r3 s (qB s a) k)] (wM [0] 17 (qhp s a k hs (by omega)) oz)<|qA ?_
 have hg:=yR ha
 refine ZG qD [] (bfr [(0,0),(0,1),(0,2),(0,3),(0,0),(4,1),(4,2),(4,3),(4,4),(0,9),(0,10)]) [([10],[0]),([12],[10]),([14],[12]),([16],[1,14]),([18],[0]),([20],[18]),([22],[20]),([24],[1,22]),([26],[24]),([28],[16,26]),([4],[28])] [.d,.n,.r] [ps 2 (bv (decide (((qB s a:Nat):Int)=(s.length:Int))))] (oz) ?_
 exact zN hc0 [2] [0] (hbk:=by exact oc rfl (oz))
theorem qen (s:qJ) (a:Nat) (k c:Int) (hs:s.length≤65536) (ha:a≤s.length):PC Tryz.prog 74 [(.opt 0 0),(.av (.int .u8 c))] [some (98,(r3 s a k))] (bv (qv s a c)) [some (98,(r3 s (qB s a) k))]:=by
 refine zZ Tryz.func74 rfl (by kernel_rfl) (Nat.le_of_ble_eq_true rfl) (by kernel_rfl) (l0:=[ps 0 (.opt 0 0),ps 1 (.av (.int .u8 c)),pb 0 98 (r3 s a k)]) rfl (fun c0 Bor hc0=>?_)
 refine qA<|qL qD [.r] []<|qA ?_
 have hg:=yR ha
 by_cases h1:(qB s a:Int)=(s.length:Int)
 ·refine jQ qD ([(1,.call [0] [(.opt 0 0)] [some (98,(r3 s a k))] (bv (decide (((qB s a:Nat):Int)=(s.length:Int)))) [some (98,(r3 s (qB s a) k))])]++gn 4 11++[(15,.yes false)]) (bfm [[],[(0,1)],[(0,2)],[(0,3)],[(0,4)],[(0,5)],[(0,6)],[(0,7)],[(0,4)],[(0,4),(8,1)],[(0,4),(8,2)],[(0,4),(8,3)],[(0,12)],[(0,4)],[(0,14)],[(0,15)],[(0,16)]]) [([10],[0]),([12,1],[1,10]),([14],[12]),([16],[14]),([18],[16]),([20],[16]),([22],[16]),([24],[16]),([26],[16]),([28],[16]),([30],[16]),([32],[16]),([34],[16]),([36],[16]),([38],[16]),([40],[16,38]),([8],[40])] [ps 4 (bv false),pb 0 98 (r3 s (qB s a) k)] (wM [0] 17 (Vw s a k hs (by omega)) (on 12 (bt h1) oz)) ?_
  rw [show qv s a c=false from zP fun q=>by omega]
  exact zN hc0 [4] [0] (hbk:=by exact oc rfl (oz))
 refine jQ qD ([(1,.call [0] [(.opt 0 0)] [some (98,(r3 s a k))] (bv (decide (((qB s a:Nat):Int)=(s.length:Int)))) [some (98,(r3 s (qB s a) k))])]++gy 4 11++[(15,.yes true)]) (bfm [[],[(0,1)],[(0,2)],[(0,3)],[(0,4)],[(0,5)],[(0,6)],[(0,7)],[(0,4)],[(0,4),(8,1)],[(0,4),(8,2)],[(0,4),(8,3)],[(0,12)],[(0,4)],[(0,14)],[(0,15)],[(0,16)]]) [([10],[0]),([12,1],[1,10]),([14],[12]),([16],[14]),([18],[0,16]),([20],[16,18]),([22],[16,20]),([24],[1,16,22]),([26],[0,16]),([28],[16,26]),([30],[16,28]),([32],[1,16,30]),([34],[16,24,32]),([36],[2,16]),([38],[16,34,36]),([40],[16,38]),([8],[40])] [ps 4 (bv (decide ((((s.getD (qB s a) 0).toNat:Nat):Int)=c))),pb 0 98 (r3 s (qB s a) k)] (wM [0] 17 (Vw s a k hs (by omega)) (on 9 (bf h1) (oc (by first|omega|(simp <;> omega):(0:Int)≤(qB s a:Int)∧(qB s a:Int)<(s.length:Int)) (on 3 (bf h1) oz)))) ?_
 rw [show qv s a c=(decide ((((s.getD (qB s a) 0).toNat:Nat):Int)=c)) from by unfold qv;rw [Bool.eq_iff_iff];simp only [decide_eq_true_eq];constructor <;> intro hh <;> first|exact hh.2|exact ⟨by omega,hh⟩]
 exact zN hc0 [4] [0] (hbk:=by exact oc rfl (oz))
def isT (s:qJ) (a:Nat) (c:Int):Nat:=if qv s a c=true then qB s a+1 else qB s a
theorem jG (s:qJ) (a:Nat) (k c:Int) (hs:s.length≤65536) (ha:a≤s.length):PC Tryz.prog 138 [(.opt 0 0),(.av (.int .u8 c))] [some (98,(r3 s a k))] (bv (qv s a c)) [some (98,(r3 s (isT s a c) k))]:=by
 refine zZ Tryz.func138 rfl (by kernel_rfl) (Nat.le_of_ble_eq_true rfl) (by kernel_rfl) (l0:=[ps 0 (.opt 0 0),ps 1 (.av (.int .u8 c)),pb 0 98 (r3 s a k)]) rfl (fun c0 Bor hc0=>?_)
 refine qA<|qL qD [.r] []<|qA<|qA<|T_r1 qD 2 [ps 0 (.opt 0 0),ps 8 (bv (!(qv s a c))),pb 0 98 (r3 s (qB s a) k)] (wM [0] 25 (qen s a k c hs (by omega)) oz) ?_
 by_cases h1:(qv s a c)=true
 ·refine qW (congrArg Bool.not h1)<|qF<|qA ?_
  have hg:=yA h1
  refine zU qD [] [pb 0 98 [(sv (st s)),(iv (((qB s a:Nat):Int)+1)),(iv k)]] (oi (((qB s a:Nat):Int)+1) (by omega) oz)<|qA<|qL qD [.n,.r] [ps 4 (bv true)] ?_
  rw [show isT s a c=qB s a+1 from if_pos h1,h1]
  exact zN hc0 [4] [0] (hbk:=by exact oc rfl (oz))
 refine qX (congrArg Bool.not (Bool.eq_false_iff.2 h1))<|qA<|qL qD [.d,.n,.d,.r] [ps 4 (bv false)] ?_
 rw [show isT s a c=qB s a from if_neg h1,eq_false_of_ne_true h1]
 exact zN hc0 [4] [0] (hbk:=by exact oc rfl (oz))
theorem isT_yes {s:qJ} {a:Nat} {c:Int} (h:qv s a c=true):isT s a c=qB s a+1:=if_pos h
theorem isT_no {s:qJ} {a:Nat} {c:Int} (h:¬ qv s a c=true):isT s a c=qB s a:=if_neg h
structure Rdy (s:qJ):Prop where
 any:∀ a,a≤s.length→PC Tryz.prog 106 [sv (st (s.drop a)),sv (st sgn)] [] (iv (Lib.indexAny (s.drop a) sgn)) []
 ato:∀ w:qJ,w.length≤s.length→18<w.length→Lib.atoiAll w = .ok (okV w)→PC Tryz.prog 137 [sv (st w)] [] (.tup [iv (okV w),.av .nilIface]) []
 atr:∀ w:qJ,w.length≤s.length→18<w.length→Lib.atoiAll w = .range→PC Tryz.prog 137 [sv (st w)] [] (.tup [iv (Lib.atoiSat w),.err]) []
theorem comes_gap (s:qJ) (a:Nat) (c:Int):qv s (qB s a) c=qv s a c:=by unfold qv;rw [ZO]
theorem word_gap (s:qJ) (a:Nat):qC s (qB s a)=qC s a:=by unfold qC;rw [ZO]
theorem Zx (s:qJ) (a:Nat) (k c:Int) (hs:s.length≤65536) (ha:a≤s.length):PC Tryz.prog 74 [.opt 0 0,.av (.int .u8 c)] [some (98,[sv (st s),nv (qB s a),iv k])] (bv (qv s a c)) [some (98,[sv (st s),nv (qB s a),iv k])]:=by
 have:=qen s (qB s a) k c hs (yR ha)
 rwa [ZO,comes_gap] at this
theorem ZS {s:qJ} {a:Nat} {c k:Int} {H:Hp} (h:PC Tryz.prog 138 [.opt 0 0,.av (.int .u8 c)] H (bv (qv s a c)) [some (98,[sv (st s),nv (isT s a c),iv k])]) (hc:qv s a c=true):PC Tryz.prog 138 [.opt 0 0,.av (.int .u8 c)] H (bv true) [some (98,[sv (st s),nv (qB s a+1),iv k])]:=by
 rwa [isT_yes hc,hc] at h
theorem WF {s:qJ} {a:Nat} {c k:Int} {H:Hp} (h:PC Tryz.prog 138 [.opt 0 0,.av (.int .u8 c)] H (bv (qv s a c)) [some (98,[sv (st s),nv (isT s a c),iv k])]) (hc:¬ qv s a c=true):PC Tryz.prog 138 [.opt 0 0,.av (.int .u8 c)] H (bv false) [some (98,[sv (st s),nv (qB s a),iv k])]:=by
 rwa [isT_no hc,eq_false_of_ne_true hc] at h
theorem qco (s:qJ) (a:Nat) (k c:Int) (hs:s.length≤65536) (ha:a≤s.length):PO Tryz.prog 108 [(.opt 0 0),(.av (.int .u8 c))] [some (98,(r3 s a k))] (if qv s a c=true then .ret (.tup []) [some (98,(r3 s (qB s a+1) k))] else .pan (yz 2 (qB s a:Int)) [none]):=by
 refine jJ Tryz.func108 rfl (by kernel_rfl) (QT (Nat.le_of_ble_eq_true rfl) (Nat.le_of_ble_eq_true rfl)) (by kernel_rfl) (l0:=[ps 0 (.opt 0 0),ps 1 (.av (.int .u8 c)),pb 0 98 (r3 s a k)]) rfl (fun c0 Bor hc0=>?_)
 refine qA ?_
 by_cases h1:(qv s a c)=true
 ·refine T_r1 qD 2 [ps 0 (.opt 0 0),ps 7 (bv false),pb 0 98 (r3 s (qB s a+1) k)] (wM [0] 17 (ZS (jG s a k c hs (by omega)) h1) oz)<|zD (b:=false) rfl rfl<|qF ?_
  rw [if_pos h1]
  exact fun cx_ a_ hI_=>yw (H':=[some (98,(r3 s (qB s a+1) k))]) (.inl rfl) (Wk.ren2 [pb 0 98 (r3 s (qB s a+1) k)] 1 hc0 [0] rfl rfl (by kernel_rfl) (by kernel_rfl)) rfl (oc rfl (oz)) (fun cx_ a_ hI_=>yC (l':=[pb 0 98 (r3 s (qB s a+1) k)]) (by kernel_rfl) cx_ a_ hI_) hI_
 refine T_r1 qD 2 [ps 0 (.opt 0 0),ps 7 (bv true),pb 0 98 (r3 s (qB s a) k)] (wM [0] 17 (WF (jG s a k c hs (by omega)) h1) oz)<|qU (b:=true) rfl rfl ?_
 rw [if_neg h1]
 exact vM qD [(1,.call [0] [(.opt 0 0),(iv 2)] [some (98,(r3 s (qB s a) k))] (.av (yz 2 (qB s a:Int))) [none])] [] 1 [] (QK [0] 41 (yV s (qB s a) k 2) oz) (fun cx_ a_ hI_=>zW hc0 hI_)
theorem qai (s:qJ) (a:Nat) (k:Int) (hs:s.length≤65536) (hr:Rdy s) (ha:a≤s.length):PC Tryz.prog 73 [(.opt 0 0)] [some (98,(r3 s a k))] (sv (st (qC s a))) [some (98,(r3 s (qB s a) k))]:=by
 refine zZ Tryz.func73 rfl (by kernel_rfl) (Nat.le_of_ble_eq_true rfl) (by kernel_rfl) (l0:=[ps 0 (.opt 0 0),pb 0 98 (r3 s a k)]) rfl (fun c0 Bor hc0=>?_)
 refine qA<|qL qD [.r] []<|qA<|vX qD 1 [.k1,.d,.n] [pb 0 98 (r3 s (qB s a) k)] (wM [0] 17 (qhp s a k hs (by omega)) oz)<|qA ?_
 have hg:=yR ha
 refine ZG qD [(8,.val (.av (.string (st (s.drop (qB s a)))))),(9,.call [] [(sv (st (s.drop (qB s a)))),(sv (st sgn))] [] (iv (Lib.indexAny (s.drop (qB s a)) sgn)) [])] (bfr [(0,0),(0,1),(0,2),(0,3),(0,0),(4,1),(4,2),(4,3),(0,8),(0,9),(0,10)]) [([12],[0]),([14],[12]),([16],[14]),([18],[1,16]),([20],[0]),([22],[20]),([24],[22]),([26],[1,24]),([28],[18,26]),([30],[28]),([6],[30])] [.k1,.n,.r] [ps 3 (iv (Lib.indexAny (s.drop (qB s a)) sgn))] (oc (by first|omega|(simp <;> omega):(0:Int)≤(qB s a:Int)∧(qB s a:Int)≤(s.length:Int)∧(s.length:Int)≤(s.length:Int)) (oc (QQ _ _ _ rfl:(st s).extract (((qB s a:Nat):Int):Int).toNat (((s.length:Nat):Int):Int).toNat=st (s.drop (qB s a))) (zY 97 (hr.any (qB s a) (yR ha)) oz)))<|qA<|qA<|qL qD [.k2,.n,.r] [ps 17 (bv (decide ((Lib.indexAny (s.drop (qB s a)) sgn)<0)))] ?_
 by_cases h1:(Lib.indexAny (s.drop (qB s a)) sgn)<0
 ·refine qX (zR h1)<|qA<|ZG qD [(8,.val (.av (.string (st (qC s a)))))] (bfr [(0,0),(0,1),(0,2),(0,3),(0,0),(4,1),(4,2),(4,3),(0,8),(0,9)]) [([36],[0]),([38],[36]),([40],[38]),([42],[1,40]),([44],[0]),([46],[44]),([48],[46]),([50],[1,48]),([52],[42,50]),([4],[52])] [.d,.n,.d,.d,.r] [ps 2 (sv (st (qC s a)))] (oc (by first|omega|(simp <;> omega):(0:Int)≤(qB s a:Int)∧(qB s a:Int)≤(s.length:Int)∧(s.length:Int)≤(s.length:Int)) (oc (by rw [word_none (by omega)];exact QQ _ _ _ rfl:(st s).extract (((qB s a:Nat):Int):Int).toNat (((s.length:Nat):Int):Int).toNat=st (qC s a)) oz)) ?_
  exact zN hc0 [2] [0] (hbk:=by exact oc rfl (oz))
 refine qW (zP h1)<|qF<|qA ?_
 have hc:=word_cut (s:=s) (a:=a) (i:=(Lib.indexAny (s.drop (qB s a)) sgn)) rfl (by omega)
 refine ZG qD [(14,.val (.av (.string (st (qC s a)))))] (bfr [(0,0),(0,1),(0,2),(0,3),(0,0),(4,1),(4,2),(4,3),(0,0),(8,1),(8,2),(8,3),(0,0),(8,5),(0,14),(0,15)]) [([54],[0]),([56],[54]),([58],[56]),([60],[1,58]),([62],[0]),([64],[62]),([66],[64]),([68],[1,66]),([70],[0]),([72],[70]),([74],[72]),([76],[1,74]),([78],[6]),([80],[76,78]),([82],[60,68,80]),([4],[82])] [.d,.n,.d,.d,.r] [ps 2 (sv (st (qC s a)))] (oi (((qB s a:Nat):Int)+(Lib.indexAny (s.drop (qB s a)) sgn)) (by omega) (oc (by first|omega|(simp <;> omega):(0:Int)≤(qB s a:Int)∧(qB s a:Int)≤(((qB s a:Nat):Int)+(Lib.indexAny (s.drop (qB s a)) sgn))∧(((qB s a:Nat):Int)+(Lib.indexAny (s.drop (qB s a)) sgn))≤(s.length:Int)) (oc (by rw [qdd,show (qB s a:Int).toNat=qB s a from rfl,show (((qB s a:Nat):Int)+(Lib.indexAny (s.drop (qB s a)) sgn)).toNat-qB s a=(Lib.indexAny (s.drop (qB s a)) sgn).toNat by omega,hc.2]:(st s).extract (((qB s a:Nat):Int):Int).toNat (((qB s a:Int)+(Lib.indexAny (s.drop (qB s a)) sgn)):Int).toNat=st (qC s a)) oz))) ?_
 exact zN hc0 [2] [0] (hbk:=by exact oc rfl (oz))
theorem qdq (s:qJ) (a:Nat) (k:Int) (hs:s.length≤65536) (hr:Rdy s) (ha:a≤s.length):PC Tryz.prog 73 [.opt 0 0] [some (98,[sv (st s),nv (qB s a),iv k])] (sv (st (qC s a))) [some (98,[sv (st s),nv (qB s a),iv k])]:=by
 have:=qai s (qB s a) k hs hr (yR ha)
 rwa [ZO,word_gap] at this
end Go.Proofs.YtmlnilkbolcknaaGreatDoor.Pm
set_option maxRecDepth 100000
set_option maxHeartbeats 4000000
namespace Go.Proofs.YtmlnilkbolcknaaGreatDoor.Pm
open Go Go.Proofs.YtmlnilkbolcknaaGreatDoor.Pi
theorem qcj (l:List It) (ih:∀ (l':List It),SizeOf.sizeOf l'<SizeOf.sizeOf l→WX l'→l'.length≤140737488351232→PC Tryz.prog 48 [.ssl (zT l') 0 l'.length,.ssl (zT l') 0 l'.length] [] (bv true) []) (hs:WX l) (hl:l.length≤140737488351232):PC Tryz.prog 48 [(.ssl (zT l) 0 l.length),(.ssl (zT l) 0 l.length)] [] (bv true) []:=by
 refine zZ Tryz.func48 rfl (by kernel_rfl) (Nat.le_of_ble_eq_true rfl) (by kernel_rfl) (l0:=[ps 0 (.ssl (zT l) 0 l.length),ps 1 (.ssl (zT l) 0 l.length)]) rfl (fun c0 Bor hc0=>?_)
 refine qA<|qL qD [.r] []<|qA<|qA<|qL qD [.k2,.n] [ps 13 (bv (!(decide (((l.length:Nat):Int)=(l.length:Int)))))] ?_
 have h1:(l.length:Int)=(l.length:Int):=rfl
 refine qW (bt h1)<|qF<|qA<|qA<|qL qD [.k2,.d,.n,.n] [ps 15 (nv l.length),ps 16 (iv 0)]<|zI<|vW (α:={x:Nat // x≤l.length}) (fun x=>[ps 0 (.ssl (zT l) 0 l.length),ps 1 (.ssl (zT l) 0 l.length),ps 15 (nv l.length),ps 16 (nv x.1)]) (fun x=>l.length-x.1) 0 ⟨0,Nat.zero_le _⟩ (Wk.ren2 _ 0 hc0 [] rfl rfl (by kernel_rfl) (by kernel_rfl)) ?_
 rintro ⟨i,hi⟩
 refine qA<|zU qD [] [ps 0 (.ssl (zT l) 0 l.length),ps 1 (.ssl (zT l) 0 l.length),ps 15 (nv l.length),ps 16 (nv i),ps 17 (bv (decide (((i:Nat):Int)<(l.length:Int))))] (oz)<|qA ?_
 by_cases h2:(i:Int)<(l.length:Int)
 ·refine qX (zR h2)<|qF<|qA<|zI<|qA<|qL qD [.k2,.n,.k2,.d] [ps 5 (nv i)]<|qA ?_
  have hz:=(WI (l.getD i qV)).1 (sz_at hs (by omega))
  refine ZG qD [(2,.nat (i*7)),(3,.cells [(iv (iK (l.getD i qV))),(iv (iS (l.getD i qV))),(.ssl (yI (iP (l.getD i qV))) 0 ((iP (l.getD i qV)).length)),(iv ((iB (l.getD i qV)).1)),(iv ((iB (l.getD i qV)).2)),(sv (st (iL (l.getD i qV)))),(.ssl (zT (iC (l.getD i qV))) 0 ((iC (l.getD i qV)).length))]),(6,.nat (i*7)),(7,.cells [(iv (iK (l.getD i qV))),(iv (iS (l.getD i qV))),(.ssl (yI (iP (l.getD i qV))) 0 ((iP (l.getD i qV)).length)),(iv ((iB (l.getD i qV)).1)),(iv ((iB (l.getD i qV)).2)),(sv (st (iL (l.getD i qV)))),(.ssl (zT (iC (l.getD i qV))) 0 ((iC (l.getD i qV)).length))])] (bfm [[],[],[(0,2)],[(0,3)],[],[],[(4,2)],[(4,3)],[],[],[(0,4),(8,2)],[(0,11)]]) [([38],[0]),([40],[10]),([42],[38,40]),([44],[42]),([46],[2]),([48],[10]),([50],[46,48]),([52],[50]),([12,177],[]),([14,193],[]),([177],[12,44,177]),([193],[14,52,193])] [.k2,.d,.n,.n,.k2,.n,.n] [ps 6 (.opt 88 0),ps 7 (.opt 96 0),pb 88 50 [(iv (iK (l.getD i qV))),(iv (iS (l.getD i qV))),(.ssl (yI (iP (l.getD i qV))) 0 ((iP (l.getD i qV)).length)),(iv ((iB (l.getD i qV)).1)),(iv ((iB (l.getD i qV)).2)),(sv (st (iL (l.getD i qV)))),(.ssl (zT (iC (l.getD i qV))) 0 ((iC (l.getD i qV)).length))],pb 96 50 [(iv (iK (l.getD i qV))),(iv (iS (l.getD i qV))),(.ssl (yI (iP (l.getD i qV))) 0 ((iP (l.getD i qV)).length)),(iv ((iB (l.getD i qV)).1)),(iv ((iB (l.getD i qV)).2)),(sv (st (iL (l.getD i qV)))),(.ssl (zT (iC (l.getD i qV))) 0 ((iC (l.getD i qV)).length))]] (oc (by omega:(0:Int)≤(i:Int)∧(i:Int)<(l.length:Int)) (oc (by omega:0+(((i:Nat):Int):Int).toNat*7=(i*7)) (oc (qhn l i 0 7 (by omega) (by decide):(i*7)+7≤((zT l)).length∧(((zT l)).drop (i*7)).take 7=[(iv (iK (l.getD i qV))),(iv (iS (l.getD i qV))),(.ssl (yI (iP (l.getD i qV))) 0 ((iP (l.getD i qV)).length)),(iv ((iB (l.getD i qV)).1)),(iv ((iB (l.getD i qV)).2)),(sv (st (iL (l.getD i qV)))),(.ssl (zT (iC (l.getD i qV))) 0 ((iC (l.getD i qV)).length))]) (oc (by omega:(0:Int)≤(i:Int)∧(i:Int)<(l.length:Int)) (oc (by omega:0+(((i:Nat):Int):Int).toNat*7=(i*7)) (oc (qhn l i 0 7 (by omega) (by decide):(i*7)+7≤((zT l)).length∧(((zT l)).drop (i*7)).take 7=[(iv (iK (l.getD i qV))),(iv (iS (l.getD i qV))),(.ssl (yI (iP (l.getD i qV))) 0 ((iP (l.getD i qV)).length)),(iv ((iB (l.getD i qV)).1)),(iv ((iB (l.getD i qV)).2)),(sv (st (iL (l.getD i qV)))),(.ssl (zT (iC (l.getD i qV))) 0 ((iC (l.getD i qV)).length))]) oz))))))<|qA<|qA ?_
  have h3:(iK (l.getD i qV))=(iK (l.getD i qV)):=rfl
  have h4:(iS (l.getD i qV))=(iS (l.getD i qV)):=rfl
  have h5:((decide (((iB (l.getD i qV)).1)=((iB (l.getD i qV)).1))) && (decide (((iB (l.getD i qV)).2)=((iB (l.getD i qV)).2))))=true:=(by simp)
  have h6:(iL (l.getD i qV))=(iL (l.getD i qV)):=rfl
  have h7:(((iP (l.getD i qV)).length:Nat):Int)=(((iP (l.getD i qV)).length:Nat):Int):=rfl
  refine zE qD (gn 6 5++[(11,.yes false)]++gn 13 5++[(18,.yes false)]++gn 20 4++[(24,.gd false (.val (.av (.bool (!decide ((iL (l.getD i qV))=(iL (l.getD i qV)))))))),(25,.yes false)]++gn 27 7++[(34,.yes false)]++gn 36 4++[(40,.gd false (.call [] [(.ssl (zT (iC (l.getD i qV))) 0 ((iC (l.getD i qV)).length)),(.ssl (zT (iC (l.getD i qV))) 0 ((iC (l.getD i qV)).length))] [] (bv true) [])),(41,.gd false .no),(42,.yes false)]) [.k6,.n,.r] [ps 69 (bv false)] (on 6 (bt h3) (on 6 (bt h4) (oc (congrArg Bool.not h5:(!((decide (((iB (l.getD i qV)).1)=((iB (l.getD i qV)).1))) && (decide (((iB (l.getD i qV)).2)=((iB (l.getD i qV)).2)))))=false) (oc (congrArg Bool.not h5:(!((decide (((iB (l.getD i qV)).1)=((iB (l.getD i qV)).1))) && (decide (((iB (l.getD i qV)).2)=((iB (l.getD i qV)).2)))))=false) (oc (congrArg Bool.not h5:(!((decide (((iB (l.getD i qV)).1)=((iB (l.getD i qV)).1))) && (decide (((iB (l.getD i qV)).2)=((iB (l.getD i qV)).2)))))=false) (oc (congrArg Bool.not h5:(!((decide (((iB (l.getD i qV)).1)=((iB (l.getD i qV)).1))) && (decide (((iB (l.getD i qV)).2)=((iB (l.getD i qV)).2)))))=false) (oc (congrArg Bool.not h5:(!((decide (((iB (l.getD i qV)).1)=((iB (l.getD i qV)).1))) && (decide (((iB (l.getD i qV)).2)=((iB (l.getD i qV)).2)))))=false) (oc (zw _ _:(!((st (iL (l.getD i qV))).toList == (st (iL (l.getD i qV))).toList)) = !decide ((iL (l.getD i qV))=(iL (l.getD i qV)))) (oc (congrArg Bool.not h5:(!((decide (((iB (l.getD i qV)).1)=((iB (l.getD i qV)).1))) && (decide (((iB (l.getD i qV)).2)=((iB (l.getD i qV)).2)))))=false) (on 8 (bt h6) (on 5 (bt h7) (zY 440 (ih (iC (l.getD i qV)) (Nat.lt_trans (VG _) (el_lt (by omega))) hz.2.2 hz.2.1:PC Tryz.prog 48 [(.ssl (zT (iC (l.getD i qV))) 0 ((iC (l.getD i qV)).length)),(.ssl (zT (iC (l.getD i qV))) 0 ((iC (l.getD i qV)).length))] [] (bv true) []) (on 2 (bt h7) oz)))))))))))))<|zD (b:=false) rfl rfl<|qF<|qA<|qL qD [.k6,.d,.n,.n,.r] [ps 72 (nv ((iP (l.getD i qV)).length)),ps 73 (iv 0)]<|zI<|vW (α:={x:Nat // x≤(iP (l.getD i qV)).length}) (fun x=>[ps 0 (.ssl (zT l) 0 l.length),ps 1 (.ssl (zT l) 0 l.length),ps 6 (.opt 0 0),ps 7 (.opt 1 0),ps 15 (nv l.length),ps 16 (nv i),ps 72 (nv ((iP (l.getD i qV)).length)),ps 73 (nv x.1),pb 0 50 [(iv (iK (l.getD i qV))),(iv (iS (l.getD i qV))),(.ssl (yI (iP (l.getD i qV))) 0 ((iP (l.getD i qV)).length)),(iv ((iB (l.getD i qV)).1)),(iv ((iB (l.getD i qV)).2)),(sv (st (iL (l.getD i qV)))),(.ssl (zT (iC (l.getD i qV))) 0 ((iC (l.getD i qV)).length))],pb 1 50 [(iv (iK (l.getD i qV))),(iv (iS (l.getD i qV))),(.ssl (yI (iP (l.getD i qV))) 0 ((iP (l.getD i qV)).length)),(iv ((iB (l.getD i qV)).1)),(iv ((iB (l.getD i qV)).2)),(sv (st (iL (l.getD i qV)))),(.ssl (zT (iC (l.getD i qV))) 0 ((iC (l.getD i qV)).length))]]) (fun x=>(iP (l.getD i qV)).length-x.1) 2 ⟨0,Nat.zero_le _⟩ (Wk.ren2 _ 0 hc0 [88,96] rfl rfl (by kernel_rfl) (by kernel_rfl)) ?_
  rintro ⟨j,hj⟩
  refine qA<|zU qD [] [ps 0 (.ssl (zT l) 0 l.length),ps 1 (.ssl (zT l) 0 l.length),ps 6 (.opt 0 0),ps 7 (.opt 1 0),ps 15 (nv l.length),ps 16 (nv i),ps 72 (nv ((iP (l.getD i qV)).length)),ps 73 (nv j),ps 74 (bv (decide (((j:Nat):Int)<(((iP (l.getD i qV)).length:Nat):Int)))),pb 0 50 [(iv (iK (l.getD i qV))),(iv (iS (l.getD i qV))),(.ssl (yI (iP (l.getD i qV))) 0 ((iP (l.getD i qV)).length)),(iv ((iB (l.getD i qV)).1)),(iv ((iB (l.getD i qV)).2)),(sv (st (iL (l.getD i qV)))),(.ssl (zT (iC (l.getD i qV))) 0 ((iC (l.getD i qV)).length))],pb 1 50 [(iv (iK (l.getD i qV))),(iv (iS (l.getD i qV))),(.ssl (yI (iP (l.getD i qV))) 0 ((iP (l.getD i qV)).length)),(iv ((iB (l.getD i qV)).1)),(iv ((iB (l.getD i qV)).2)),(sv (st (iL (l.getD i qV)))),(.ssl (zT (iC (l.getD i qV))) 0 ((iC (l.getD i qV)).length))]] (oz)<|qA ?_
  by_cases h8:(j:Int)<(((iP (l.getD i qV)).length:Nat):Int)
  ·refine qX (zR h8)<|qF<|qA<|zI<|qA<|qL qD [.k4,.n,.k4,.d,.r] [ps 8 (nv j)]<|qA<|ZG qD [(3,.nat (j*3)),(4,.cells [(iv (((iP (l.getD i qV)).getD j yO).1)),(iv (((iP (l.getD i qV)).getD j yO).2.1)),(iv (((iP (l.getD i qV)).getD j yO).2.2))]),(8,.nat (j*3)),(9,.cells [(iv (((iP (l.getD i qV)).getD j yO).1)),(iv (((iP (l.getD i qV)).getD j yO).2.1)),(iv (((iP (l.getD i qV)).getD j yO).2.2))])] (bfr [(0,0),(0,1),(0,0),(0,3),(0,4),(0,0),(5,1),(0,0),(5,3),(5,4),(0,10)]) [([152],[12]),([154],[1,152]),([156],[16]),([158],[154,156]),([160],[158]),([162],[14]),([164],[3,162]),([166],[16]),([168],[164,166]),([170],[168]),([172],[160,170])] [.k4,.d,.k4,.n,.r] [ps 86 (bv (!((decide ((((iP (l.getD i qV)).getD j yO).1)=(((iP (l.getD i qV)).getD j yO).1))) && ((decide ((((iP (l.getD i qV)).getD j yO).2.1)=(((iP (l.getD i qV)).getD j yO).2.1))) && (decide ((((iP (l.getD i qV)).getD j yO).2.2)=(((iP (l.getD i qV)).getD j yO).2.2)))))))] (oc (by omega:(0:Int)≤(j:Int)∧(j:Int)<(((iP (l.getD i qV)).length:Nat):Int)) (oc (by omega:0+(((j:Nat):Int):Int).toNat*3=(j*3)) (oc (vN ptC 3 (fun _=>rfl) yO (iP (l.getD i qV)) j 0 3 (by omega) (by decide):(j*3)+3≤((yI (iP (l.getD i qV)))).length∧(((yI (iP (l.getD i qV)))).drop (j*3)).take 3=[(iv (((iP (l.getD i qV)).getD j yO).1)),(iv (((iP (l.getD i qV)).getD j yO).2.1)),(iv (((iP (l.getD i qV)).getD j yO).2.2))]) (oc (by omega:(0:Int)≤(j:Int)∧(j:Int)<(((iP (l.getD i qV)).length:Nat):Int)) (oc (by omega:0+(((j:Nat):Int):Int).toNat*3=(j*3)) (oc (vN ptC 3 (fun _=>rfl) yO (iP (l.getD i qV)) j 0 3 (by omega) (by decide):(j*3)+3≤((yI (iP (l.getD i qV)))).length∧(((yI (iP (l.getD i qV)))).drop (j*3)).take 3=[(iv (((iP (l.getD i qV)).getD j yO).1)),(iv (((iP (l.getD i qV)).getD j yO).2.1)),(iv (((iP (l.getD i qV)).getD j yO).2.2))]) oz)))))) ?_
   have h9:((decide ((((iP (l.getD i qV)).getD j yO).1)=(((iP (l.getD i qV)).getD j yO).1))) && ((decide ((((iP (l.getD i qV)).getD j yO).2.1)=(((iP (l.getD i qV)).getD j yO).2.1))) && (decide ((((iP (l.getD i qV)).getD j yO).2.2)=(((iP (l.getD i qV)).getD j yO).2.2)))))=true:=(by simp)
   refine qW (congrArg Bool.not h9)<|qF<|zM<|zE qD [] [.k7,.d,.n,.d,.r] [ps 73 (iv (((j:Nat):Int)+1))] (oi (((j:Nat):Int)+1) (by omega) oz) ?_
   exact vH ⟨j+1,by show j+1≤(iP (l.getD i qV)).length;omega⟩ (Wk.trans (Wk.eq (show _=[ps 0 (.ssl (zT l) 0 l.length),ps 1 (.ssl (zT l) 0 l.length),ps 6 (.opt 0 0),ps 7 (.opt 1 0),ps 15 (nv l.length),ps 16 (nv i),ps 72 (nv ((iP (l.getD i qV)).length)),ps 73 (nv (j+1)),pb 0 50 [(iv (iK (l.getD i qV))),(iv (iS (l.getD i qV))),(.ssl (yI (iP (l.getD i qV))) 0 ((iP (l.getD i qV)).length)),(iv ((iB (l.getD i qV)).1)),(iv ((iB (l.getD i qV)).2)),(sv (st (iL (l.getD i qV)))),(.ssl (zT (iC (l.getD i qV))) 0 ((iC (l.getD i qV)).length))],pb 1 50 [(iv (iK (l.getD i qV))),(iv (iS (l.getD i qV))),(.ssl (yI (iP (l.getD i qV))) 0 ((iP (l.getD i qV)).length)),(iv ((iB (l.getD i qV)).1)),(iv ((iB (l.getD i qV)).2)),(sv (st (iL (l.getD i qV)))),(.ssl (zT (iC (l.getD i qV))) 0 ((iC (l.getD i qV)).length))]] from by rfl)) (Wk.ren2 _ 0 hc0 [0,1] rfl rfl (by kernel_rfl) (by kernel_rfl))) (show (iP (l.getD i qV)).length-(j+1)<(iP (l.getD i qV)).length-j from by show (iP (l.getD i qV)).length-(j+1)<(iP (l.getD i qV)).length-j;omega)
  refine qW (zP h8)<|vL rfl rfl<|zM<|zE qD [] [.k2,.d,.d,.k1,.d,.n,.d,.d,.d,.d,.d] [ps 16 (iv (((i:Nat):Int)+1))] (oi (((i:Nat):Int)+1) (by omega) oz) ?_
  exact vH ⟨i+1,by show i+1≤l.length;omega⟩ (Wk.trans (Wk.eq (show _=[ps 0 (.ssl (zT l) 0 l.length),ps 1 (.ssl (zT l) 0 l.length),ps 15 (nv l.length),ps 16 (nv (i+1))] from by rfl)) (Wk.ren2 _ 0 hc0 [] rfl rfl (by kernel_rfl) (by kernel_rfl))) (show l.length-(i+1)<l.length-i from by show l.length-(i+1)<l.length-i;omega)
 refine qW (zP h2)<|vL rfl rfl<|qA<|zU qD [] [ps 4 (bv true)] (oz) ?_
 exact zN hc0 [4] []
theorem Yy:∀ (m:Nat) (l:List It),SizeOf.sizeOf l<m→WX l→l.length≤140737488351232→PC Tryz.prog 48 [.ssl (zT l) 0 l.length,.ssl (zT l) 0 l.length] [] (bv true) []
 | 0,_,h,_,_=>absurd h (Nat.not_lt_zero _)
 | m+1,l,h,hs,hl=>qcj l (fun l' hl' hs' hb=>Yy m l' (by omega) hs' hb) hs hl
theorem qet (l:List It) (hs:WX l) (hl:l.length≤140737488351232):PC Tryz.prog 48 [.ssl (zT l) 0 l.length,.ssl (zT l) 0 l.length] [] (bv true) []:=Yy _ l (Nat.lt_succ_self _) hs hl
theorem Qq (l:List Vo) (hs:szVs l) (hl:l.length≤140737488351232):PC Tryz.prog 17 [(.ssl (yq l) 0 l.length),(.ssl (yq l) 0 l.length)] [] (bv true) []:=by
 refine zZ Tryz.func17 rfl (by kernel_rfl) (Nat.le_of_ble_eq_true rfl) (by kernel_rfl) (l0:=[ps 0 (.ssl (yq l) 0 l.length),ps 1 (.ssl (yq l) 0 l.length)]) rfl (fun c0 Bor hc0=>?_)
 refine qA<|qL qD [.r] []<|qA<|qA<|qL qD [.k2,.n] [ps 13 (bv (!(decide (((l.length:Nat):Int)=(l.length:Int)))))] ?_
 have h1:(l.length:Int)=(l.length:Int):=rfl
 refine qW (bt h1)<|qF<|qA<|qA<|qL qD [.k2,.d,.n,.n] [ps 15 (nv l.length),ps 16 (iv 0)]<|zI<|vW (α:={x:Nat // x≤l.length}) (fun x=>[ps 0 (.ssl (yq l) 0 l.length),ps 1 (.ssl (yq l) 0 l.length),ps 15 (nv l.length),ps 16 (nv x.1)]) (fun x=>l.length-x.1) 0 ⟨0,Nat.zero_le _⟩ (Wk.ren2 _ 0 hc0 [] rfl rfl (by kernel_rfl) (by kernel_rfl)) ?_
 rintro ⟨i,hi⟩
 refine qA<|zU qD [] [ps 0 (.ssl (yq l) 0 l.length),ps 1 (.ssl (yq l) 0 l.length),ps 15 (nv l.length),ps 16 (nv i),ps 17 (bv (decide (((i:Nat):Int)<(l.length:Int))))] (oz)<|qA ?_
 by_cases h2:(i:Int)<(l.length:Int)
 ·refine qX (zR h2)<|qF<|qA<|zI<|qA<|qL qD [.k2,.n,.k2,.d] [ps 5 (nv i)]<|qA<|qA ?_
  have hv:=hs.2 i (by omega)
  have hvl:=hv.1
  have h3:((l.getD i qO).1)=((l.getD i qO).1):=rfl
  refine ZG qD ([(2,.nat (i*2)),(4,.val (sv (st ((l.getD i qO).1)))),(7,.nat (i*2)),(9,.val (sv (st ((l.getD i qO).1)))),(10,.val (.av (.bool (!decide (((l.getD i qO).1)=((l.getD i qO).1))))))]++gn 12 2++[(14,.gd false (.nat (i*2))),(15,.gd false .no),(16,.gd false (.val (.ssl (jA ((l.getD i qO).2)) 0 (((l.getD i qO).2).length))))]++gn 17 3++[(20,.gd false (.nat (i*2))),(21,.gd false .no),(22,.gd false (.val (.ssl (jA ((l.getD i qO).2)) 0 (((l.getD i qO).2).length))))]++gn 23 2++[(25,.yes false)]) (bfm [[],[],[(0,2)],[(0,3)],[(0,4)],[],[],[(5,2)],[(5,3)],[(5,4)],[(0,10)],[(0,11)],[(0,12)],[(0,12)],[(0,14)],[(0,15)],[(0,16)],[(0,17)],[(0,12)],[(0,12)],[(0,12),(18,2)],[(0,12),(18,3)],[(0,12),(18,4)],[(0,12),(18,5)],[(0,24)],[(0,25)]]) [([38],[0]),([40],[10]),([42],[38,40]),([44],[42]),([46],[44]),([48],[2]),([50],[10]),([52],[48,50]),([54],[52]),([56],[54]),([58],[46,56]),([60],[58]),([62],[0,60]),([64],[10,60]),([66],[60,62,64]),([68],[60,66]),([70],[60,68]),([72],[60,70]),([74],[2,60]),([76],[10,60]),([78],[60,74,76]),([80],[60,78]),([82],[60,80]),([84],[60,82]),([86],[60,72,84]),([88],[60,86])] [.k5,.n] [ps 44 (bv (!(decide (((((l.getD i qO).2).length:Nat):Int)=((((l.getD i qO).2).length:Nat):Int)))))] (oc (by omega:(0:Int)≤(i:Int)∧(i:Int)<(l.length:Int)) (oc (by omega:0+(((i:Nat):Int):Int).toNat*2=(i*2)) (oc (vN voC 2 (fun _=>rfl) qO l i 0 1 (by omega) (by decide):(i*2)+1≤((yq l)).length∧(((yq l)).drop (i*2)).take 1=[(sv (st ((l.getD i qO).1)))]) (oc (by omega:(0:Int)≤(i:Int)∧(i:Int)<(l.length:Int)) (oc (by omega:0+(((i:Nat):Int):Int).toNat*2=(i*2)) (oc (vN voC 2 (fun _=>rfl) qO l i 0 1 (by omega) (by decide):(i*2)+1≤((yq l)).length∧(((yq l)).drop (i*2)).take 1=[(sv (st ((l.getD i qO).1)))]) (oc (zw _ _:(!((st ((l.getD i qO).1)).toList == (st ((l.getD i qO).1)).toList)) = !decide (((l.getD i qO).1)=((l.getD i qO).1))) (on 3 (bt h3) (oc (by omega:(0:Int)≤(i:Int)∧(i:Int)<(l.length:Int)) (oc (by omega:0+(((i:Nat):Int):Int).toNat*2=(i*2)) (on 2 (bt h3) (oc (vN voC 2 (fun _=>rfl) qO l i 1 1 (by omega) (by decide):(i*2+1)+1≤((yq l)).length∧(((yq l)).drop (i*2+1)).take 1=[(.ssl (jA ((l.getD i qO).2)) 0 (((l.getD i qO).2).length))]) (on 4 (bt h3) (oc (by omega:(0:Int)≤(i:Int)∧(i:Int)<(l.length:Int)) (oc (by omega:0+(((i:Nat):Int):Int).toNat*2=(i*2)) (on 2 (bt h3) (oc (vN voC 2 (fun _=>rfl) qO l i 1 1 (by omega) (by decide):(i*2+1)+1≤((yq l)).length∧(((yq l)).drop (i*2+1)).take 1=[(.ssl (jA ((l.getD i qO).2)) 0 (((l.getD i qO).2).length))]) (on 3 (bt h3) oz)))))))))))))))))) ?_
  have h4:((((l.getD i qO).2).length:Nat):Int)=((((l.getD i qO).2).length:Nat):Int):=rfl
  refine qW (bt h4)<|qF<|qA<|zE qD [(2,.nat (i*2)),(4,.val (.ssl (jA ((l.getD i qO).2)) 0 (((l.getD i qO).2).length)))] [.k5,.d,.n,.n] [ps 50 (nv (((l.getD i qO).2).length)),ps 51 (iv 0)] (oc (by omega:(0:Int)≤(i:Int)∧(i:Int)<(l.length:Int)) (oc (by omega:0+(((i:Nat):Int):Int).toNat*2=(i*2)) (oc (vN voC 2 (fun _=>rfl) qO l i 1 1 (by omega) (by decide):(i*2+1)+1≤((yq l)).length∧(((yq l)).drop (i*2+1)).take 1=[(.ssl (jA ((l.getD i qO).2)) 0 (((l.getD i qO).2).length))]) oz))) ?_
  refine zI<|vW (α:={x:Nat // x≤(l.getD i qO).2.length}) (fun x=>[ps 0 (.ssl (yq l) 0 l.length),ps 1 (.ssl (yq l) 0 l.length),ps 5 (nv i),ps 15 (nv l.length),ps 16 (nv i),ps 50 (nv (((l.getD i qO).2).length)),ps 51 (nv x.1)]) (fun x=>(l.getD i qO).2.length-x.1) 0 ⟨0,Nat.zero_le _⟩ (Wk.ren2 _ 0 hc0 [] rfl rfl (by kernel_rfl) (by kernel_rfl)) ?_
  rintro ⟨j,hj⟩
  refine qA<|zU qD [] [ps 0 (.ssl (yq l) 0 l.length),ps 1 (.ssl (yq l) 0 l.length),ps 5 (nv i),ps 15 (nv l.length),ps 16 (nv i),ps 50 (nv (((l.getD i qO).2).length)),ps 51 (nv j),ps 52 (bv (decide (((j:Nat):Int)<((((l.getD i qO).2).length:Nat):Int))))] (oz)<|qA ?_
  by_cases h5:(j:Int)<((((l.getD i qO).2).length:Nat):Int)
  ·refine qX (zR h5)<|qF<|qA<|zI<|qA<|qL qD [.k3,.n,.k4,.d] [ps 6 (nv j)]<|qA ?_
   have hb:=hv.2 j (by omega)
   refine ZG qD [(2,.nat (i*2)),(4,.val (.ssl (jA ((l.getD i qO).2)) 0 (((l.getD i qO).2).length))),(6,.nat (j*3)),(7,.cells [(iv ((((l.getD i qO).2).getD j zQ).1)),(iv ((((l.getD i qO).2).getD j zQ).2.1)),(.ssl (zT ((((l.getD i qO).2).getD j zQ).2.2)) 0 (((((l.getD i qO).2).getD j zQ).2.2).length))]),(10,.nat (i*2)),(12,.val (.ssl (jA ((l.getD i qO).2)) 0 (((l.getD i qO).2).length))),(14,.nat (j*3)),(15,.cells [(iv ((((l.getD i qO).2).getD j zQ).1)),(iv ((((l.getD i qO).2).getD j zQ).2.1)),(.ssl (zT ((((l.getD i qO).2).getD j zQ).2.2)) 0 (((((l.getD i qO).2).getD j zQ).2.2).length))])] (bfm [[],[],[(0,2)],[(0,3)],[(0,4)],[],[(0,6)],[(0,7)],[],[],[(8,2)],[(8,3)],[(8,4)],[],[(8,6)],[(8,7)],[],[],[(0,8),(16,2)],[(0,19)]]) [([108],[0]),([110],[10]),([112],[108,110]),([114],[112]),([116],[114]),([118],[12]),([120],[116,118]),([122],[120]),([124],[2]),([126],[10]),([128],[124,126]),([130],[128]),([132],[130]),([134],[12]),([136],[132,134]),([138],[136]),([14,305],[]),([16,321],[]),([305],[14,122,305]),([321],[16,138,321])] [.k3,.d,.n,.n,.k4,.n,.n] [ps 7 (.opt 152 0),ps 8 (.opt 160 0),pb 152 47 [(iv ((((l.getD i qO).2).getD j zQ).1)),(iv ((((l.getD i qO).2).getD j zQ).2.1)),(.ssl (zT ((((l.getD i qO).2).getD j zQ).2.2)) 0 (((((l.getD i qO).2).getD j zQ).2.2).length))],pb 160 47 [(iv ((((l.getD i qO).2).getD j zQ).1)),(iv ((((l.getD i qO).2).getD j zQ).2.1)),(.ssl (zT ((((l.getD i qO).2).getD j zQ).2.2)) 0 (((((l.getD i qO).2).getD j zQ).2.2).length))]] (oc (by omega:(0:Int)≤(i:Int)∧(i:Int)<(l.length:Int)) (oc (by omega:0+(((i:Nat):Int):Int).toNat*2=(i*2)) (oc (vN voC 2 (fun _=>rfl) qO l i 1 1 (by omega) (by decide):(i*2+1)+1≤((yq l)).length∧(((yq l)).drop (i*2+1)).take 1=[(.ssl (jA ((l.getD i qO).2)) 0 (((l.getD i qO).2).length))]) (oc (by omega:(0:Int)≤(j:Int)∧(j:Int)<((((l.getD i qO).2).length:Nat):Int)) (oc (by omega:0+(((j:Nat):Int):Int).toNat*3=(j*3)) (oc (vN brC 3 (fun _=>rfl) zQ ((l.getD i qO).2) j 0 3 (by omega) (by decide):(j*3)+3≤((jA ((l.getD i qO).2))).length∧(((jA ((l.getD i qO).2))).drop (j*3)).take 3=[(iv ((((l.getD i qO).2).getD j zQ).1)),(iv ((((l.getD i qO).2).getD j zQ).2.1)),(.ssl (zT ((((l.getD i qO).2).getD j zQ).2.2)) 0 (((((l.getD i qO).2).getD j zQ).2.2).length))]) (oc (by omega:(0:Int)≤(i:Int)∧(i:Int)<(l.length:Int)) (oc (by omega:0+(((i:Nat):Int):Int).toNat*2=(i*2)) (oc (vN voC 2 (fun _=>rfl) qO l i 1 1 (by omega) (by decide):(i*2+1)+1≤((yq l)).length∧(((yq l)).drop (i*2+1)).take 1=[(.ssl (jA ((l.getD i qO).2)) 0 (((l.getD i qO).2).length))]) (oc (by omega:(0:Int)≤(j:Int)∧(j:Int)<((((l.getD i qO).2).length:Nat):Int)) (oc (by omega:0+(((j:Nat):Int):Int).toNat*3=(j*3)) (oc (vN brC 3 (fun _=>rfl) zQ ((l.getD i qO).2) j 0 3 (by omega) (by decide):(j*3)+3≤((jA ((l.getD i qO).2))).length∧(((jA ((l.getD i qO).2))).drop (j*3)).take 3=[(iv ((((l.getD i qO).2).getD j zQ).1)),(iv ((((l.getD i qO).2).getD j zQ).2.1)),(.ssl (zT ((((l.getD i qO).2).getD j zQ).2.2)) 0 (((((l.getD i qO).2).getD j zQ).2.2).length))]) oz)))))))))))) ?_
   refine qA ?_
   have h6:((((l.getD i qO).2).getD j zQ).1)=((((l.getD i qO).2).getD j zQ).1):=rfl
   have h7:((((l.getD i qO).2).getD j zQ).2.1)=((((l.getD i qO).2).getD j zQ).2.1):=rfl
   refine zE qD (gn 6 5++[(11,.yes false)]++gn 13 4++[(17,.gd false (.call [] [(.ssl (zT ((((l.getD i qO).2).getD j zQ).2.2)) 0 (((((l.getD i qO).2).getD j zQ).2.2).length)),(.ssl (zT ((((l.getD i qO).2).getD j zQ).2.2)) 0 (((((l.getD i qO).2).getD j zQ).2.2).length))] [] (bv true) [])),(18,.gd false .no),(19,.yes false)]) [.k3,.d,.d,.k4,.n,.d,.d] [ps 89 (bv false)] (on 6 (bt h6) (on 5 (bt h7) (zY 320 (qet ((((l.getD i qO).2).getD j zQ).2.2) hb.2 hb.1) (on 2 (bt h7) oz))))<|zD (b:=false) rfl rfl<|qF<|zM<|zE qD [] [.k6,.d,.n,.d] [ps 51 (iv (((j:Nat):Int)+1))] (oi (((j:Nat):Int)+1) (by omega) oz) ?_
   exact vH ⟨j+1,by show j+1≤(l.getD i qO).2.length;omega⟩ (Wk.trans (Wk.eq (show _=[ps 0 (.ssl (yq l) 0 l.length),ps 1 (.ssl (yq l) 0 l.length),ps 5 (nv i),ps 15 (nv l.length),ps 16 (nv i),ps 50 (nv (((l.getD i qO).2).length)),ps 51 (nv (j+1))] from by rfl)) (Wk.ren2 _ 0 hc0 [] rfl rfl (by kernel_rfl) (by kernel_rfl))) (show (l.getD i qO).2.length-(j+1)<(l.getD i qO).2.length-j from by show (l.getD i qO).2.length-(j+1)<(l.getD i qO).2.length-j;omega)
  refine qW (zP h5)<|vL rfl rfl<|zM<|zE qD [] [.k2,.d,.k1,.d,.n,.d,.d,.d] [ps 16 (iv (((i:Nat):Int)+1))] (oi (((i:Nat):Int)+1) (by omega) oz) ?_
  exact vH ⟨i+1,by show i+1≤l.length;omega⟩ (Wk.trans (Wk.eq (show _=[ps 0 (.ssl (yq l) 0 l.length),ps 1 (.ssl (yq l) 0 l.length),ps 15 (nv l.length),ps 16 (nv (i+1))] from by rfl)) (Wk.ren2 _ 0 hc0 [] rfl rfl (by kernel_rfl) (by kernel_rfl))) (show l.length-(i+1)<l.length-i from by show l.length-(i+1)<l.length-i;omega)
 refine qW (zP h2)<|vL rfl rfl<|qA<|zU qD [] [ps 4 (bv true)] (oz) ?_
 exact zN hc0 [4] []
end Go.Proofs.YtmlnilkbolcknaaGreatDoor.Pm
namespace Go.Proofs.YtmlnilkbolcknaaGreatDoor
open Go Go.Shelf Go.RowKit Go.Lib
variable {P:Program} {ρ:Ren}

theorem qjs:∀ (l:List UInt8) (c:UInt8),(∀ b∈l,b.toNat<128)→128≤c.toNat→Lib.indexByte l c = -1
 | [],_,_,_=>rfl
 | b :: l,c,h,hc=>by
  have ih:=qjs l c (fun x hx=>h x (List.mem_cons_of_mem _ hx)) hc
  have hb:=h b List.mem_cons_self
  unfold Lib.indexByte
  have hbc:¬ (b == c)=true:=fun e=>absurd (show b=c by simpa using e) (fun e'=>by rw [e'] at hb;omega)
  rw [ih,if_neg hbc]
  rfl
set_option maxHeartbeats 8000000 in
set_option maxRecDepth 1000000 in
theorem rune_high (L:Lays.n152 P ρ) (s:ByteArray) (hs:∀ (j:Nat) b,s.data.toList[j]? = some b→b.toNat<128) (hz:4<s.size) (r:Int) (w:World) (h1:128≤r) :
  Calls P (ρ.f 152) #[.string s,.int .i32 r] w fun e w'=>e = .returned (.int .i64 (-1))∧Below w.heap.size w w':=by
 have HA:Aside (∀ (j:Nat) b,s.data.toList[j]? = some b→b.toNat<128):=hs
 clear hs
 have t3:=L.t3;have a3:=L.a3;have z3:=L.z3;have v3:=L.v3;have u3:=run_underlying L.t3
 have t4:=L.t4;have a4:=L.a4;have z4:=L.z4;have v4:=L.v4;have u4:=run_underlying L.t4
 have t5:=L.t5;have a5:=L.a5;have z5:=L.z5;have v5:=L.v5;have u5:=run_underlying L.t5
 have t9:=L.t9;have a9:=L.a9;have z9:=L.z9;have v9:=L.v9;have u9:=run_underlying L.t9
 have t21:=L.t21;have a21:=L.a21;have z21:=L.z21;have v21:=L.v21;have u21:=run_underlying L.t21
 have e137:∀ args w,(callFunc (ρ.f 137) args).run P w = .ok (.enter (ρ.f 137) args) w:=enters_of L.f137 (by kernel_rfl) rfl
 have e119:∀ args w,(callFunc (ρ.f 119) args).run P w = .ok (.enter (ρ.f 119) args) w:=enters_of L.f119 (by kernel_rfl) rfl
 have hr1:¬ r<128:=by omega
 have hr0:0≤r:=by omega
 by_cases hE:r=65533
 ·subst hE
  go_enter L.f152,Body.n152_ntmps ρ
  go_wp2
  go_loopg [5,6] s.size (fun g _ _ wx=>∃ i:Nat,i+g=s.size∧wx=w.iter s i)
  case atStart=>exact ⟨0,by omega,rfl⟩
  case round =>
   obtain ⟨i,hig,rfl⟩:=hrel
   cases gk with
   | zero =>
    obtain rfl:i=s.size:=by omega
    have hnx:=run_next_end (P:=P) w s s.size
    go_wp2
    go_ret
    exact ⟨rfl,(Below.refl _ _).alloc (Nat.le_refl _) _⟩
   | succ g =>
    have hi:i<s.size:=by omega
    obtain ⟨x,hx⟩:∃ x:UInt8,s[i]'hi=x:=⟨_,rfl⟩
    have hx128:x.toNat<128:=HA.out i x (by rw [← hx];exact Lib.data_getElem? s i hi)
    have hnx:=fun ty=>run_next_ascii (P:=P) w s i ty hi (by rw [hx];exact hx128)
    rw [hx] at hnx
    have hx3:((x.toNat:Int) == 65533)=false:=beq_eq_false_iff_ne.2 (by omega)
    go_wp2
    go_roundg g
    case measure=>omega
    case rel=>exact ⟨i+1,by omega,rfl⟩
 have hE':(r == 65533)=false:=beq_eq_false_iff_ne.2 hE
 by_cases hv:Lib.validRune r=true
 ·have hv':Utf8.valid r=true:=by
   rw [validRune_eq];exact hv
  obtain ⟨g1,g2,g3⟩:=encode_facts r hv' h1
  obtain ⟨es,hes⟩:∃ es,Utf8.encode r=es:=⟨_,rfl⟩
  rw [hes] at g1 g2 g3
  have g3':=g3 (by omega)
  obtain ⟨y,hy⟩:∃ y:UInt8,es[es.size-1]'(by omega)=y:=⟨_,rfl⟩
  rw [hy] at g3'
  clear g3
  have hsl:es.size-1<s.size:=by omega
  obtain ⟨x,hx⟩:∃ x:UInt8,s[es.size-1]'hsl=x:=⟨_,rfl⟩
  have hx128:x.toNat<128:=HA.out _ x (by rw [← hx];exact Lib.data_getElem? s _ hsl)
  have hxy:((x.toNat:Int) == (y.toNat:Int))=false:=beq_eq_false_iff_ne.2 (by omega)
  have hne:x≠y:=fun e=>by rw [e] at hx128;omega
  have hio:∀ a b,Lib.indexByte (s.extract a b).data.toList y = -1:=fun a b=>qjs _ _ (fun c hc=>by
   obtain ⟨j,hj⟩:=List.getElem?_of_mem (mem_extract hc)
   exact HA.out j c hj) g3'
  have hback:((y.toNat:Int)).toNat.toUInt8=y:=by simp
  rcases (show es.size=2∨es.size=3∨es.size=4 by omega) with hq|hq|hq
  ·simp only [hq] at hx hy
   have d1:(1:Int)<(s.size:Int):=by omega
   have d2:(1:Int)<(es.size:Int):=by omega
   have d3:1<s.size:=by omega
   have d5:(2:Int)≤(s.size:Int):=by omega
   have d4:1<es.size:=by omega
   have hwr:IntKind.i64.wrap 2=2:=by decide
   have hx':s[1]'d3=x:=hx
   have hy':es[1]'d4=y:=hy
   clear hx hy
   have mixed:=L.mixed
   go_enter L.f152,Body.n152_ntmps ρ
   go_wp2_with (first
    | (go_at_fn (ρ.f 119);refine (Any.utf8_ValidRune { L with } _ _).mono ?_;rintro e w' ⟨rfl,hw⟩;rw [hw,hv])
    | (go_at_fn (ρ.f 137);refine (Any.strings_IndexByte { L with } _ _ _).mono ?_;rintro e w' ⟨rfl,hw⟩;rw [hw,hback,hio]))
   go_step3
   go_wp2
   go_loopg [9,10] 1 (fun g s9 s10 wx=>s9 = .int .i64 1∧s10 = .int .i64 0∧wx=w)
   case atStart=>exact ⟨rfl,rfl,rfl⟩
   case round =>
    obtain ⟨rfl,rfl,rfl⟩:=hrel
    go_wp2
    go_step3
    go_wp2
    go_region_o
    go_wp2
    go_region_with_o (go_at_fn (ρ.f 137);refine (Any.strings_IndexByte { L with } _ _ _).mono ?_;rintro e w' ⟨rfl,hw⟩;rw [hw,hback,hio])
    go_wp2
    rw [Exit.noGoto_ret]
    go_wp2
    try rw [Exit.noGoto_ret]
    try go_wp2
    go_ret
    exact ⟨rfl,((Below.refl _ _).drew).drew⟩
  ·simp only [hq] at hx hy
   have d1:(2:Int)<(s.size:Int):=by omega
   have d2:(2:Int)<(es.size:Int):=by omega
   have d3:2<s.size:=by omega
   have d5:(3:Int)≤(s.size:Int):=by omega
   have d4:2<es.size:=by omega
   have hwr:IntKind.i64.wrap 3=3:=by decide
   have hx':s[2]'d3=x:=hx
   have hy':es[2]'d4=y:=hy
   clear hx hy
   have mixed:=L.mixed
   go_enter L.f152,Body.n152_ntmps ρ
   go_wp2_with (first
    | (go_at_fn (ρ.f 119);refine (Any.utf8_ValidRune { L with } _ _).mono ?_;rintro e w' ⟨rfl,hw⟩;rw [hw,hv])
    | (go_at_fn (ρ.f 137);refine (Any.strings_IndexByte { L with } _ _ _).mono ?_;rintro e w' ⟨rfl,hw⟩;rw [hw,hback,hio]))
   go_step3
   go_wp2
   go_loopg [9,10] 1 (fun g s9 s10 wx=>s9 = .int .i64 2∧s10 = .int .i64 0∧wx=w)
   case atStart=>exact ⟨rfl,rfl,rfl⟩
   case round =>
    obtain ⟨rfl,rfl,rfl⟩:=hrel
    go_wp2
    go_step3
    go_wp2
    go_region_o
    go_wp2
    go_region_with_o (go_at_fn (ρ.f 137);refine (Any.strings_IndexByte { L with } _ _ _).mono ?_;rintro e w' ⟨rfl,hw⟩;rw [hw,hback,hio])
    go_wp2
    rw [Exit.noGoto_ret]
    go_wp2
    try rw [Exit.noGoto_ret]
    try go_wp2
    go_ret
    exact ⟨rfl,((Below.refl _ _).drew).drew⟩
  ·simp only [hq] at hx hy
   have d1:(3:Int)<(s.size:Int):=by omega
   have d2:(3:Int)<(es.size:Int):=by omega
   have d3:3<s.size:=by omega
   have d5:(4:Int)≤(s.size:Int):=by omega
   have d4:3<es.size:=by omega
   have hwr:IntKind.i64.wrap 4=4:=by decide
   have hx':s[3]'d3=x:=hx
   have hy':es[3]'d4=y:=hy
   clear hx hy
   have mixed:=L.mixed
   go_enter L.f152,Body.n152_ntmps ρ
   go_wp2_with (first
    | (go_at_fn (ρ.f 119);refine (Any.utf8_ValidRune { L with } _ _).mono ?_;rintro e w' ⟨rfl,hw⟩;rw [hw,hv])
    | (go_at_fn (ρ.f 137);refine (Any.strings_IndexByte { L with } _ _ _).mono ?_;rintro e w' ⟨rfl,hw⟩;rw [hw,hback,hio]))
   go_step3
   go_wp2
   go_loopg [9,10] 1 (fun g s9 s10 wx=>s9 = .int .i64 3∧s10 = .int .i64 0∧wx=w)
   case atStart=>exact ⟨rfl,rfl,rfl⟩
   case round =>
    obtain ⟨rfl,rfl,rfl⟩:=hrel
    go_wp2
    go_step3
    go_wp2
    go_region_o
    go_wp2
    go_region_with_o (go_at_fn (ρ.f 137);refine (Any.strings_IndexByte { L with } _ _ _).mono ?_;rintro e w' ⟨rfl,hw⟩;rw [hw,hback,hio])
    go_wp2
    rw [Exit.noGoto_ret]
    go_wp2
    try rw [Exit.noGoto_ret]
    try go_wp2
    go_ret
    exact ⟨rfl,((Below.refl _ _).drew).drew⟩
 ·have hv':Lib.validRune r=false:=by simpa using hv
  go_enter L.f152,Body.n152_ntmps ρ
  go_wp2_with (go_at_fn (ρ.f 119);refine (Any.utf8_ValidRune { L with } _ _).mono ?_;rintro e w' ⟨rfl,hw⟩;rw [hw,hv'])
  go_ret
  exact ⟨rfl,Below.refl _ _⟩
end Go.Proofs.YtmlnilkbolcknaaGreatDoor
namespace Go.Proofs.YtmlnilkbolcknaaGreatDoor
open Go
variable {P:Program}

theorem QA {a b:Bool} (h:(a && b)=true):a=true∧b=true:=by simpa using h
theorem dec_w (s:ByteArray) (i:Nat) (h0:¬ (s.get! (i+0)).toNat<128):(Utf8.decode s i).2=1∨((Utf8.decode s i).2=2∧128≤(s.get! (i+1)).toNat)∨((Utf8.decode s i).2=3∧128≤(s.get! (i+1)).toNat∧128≤(s.get! (i+2)).toNat) ∨
  ((Utf8.decode s i).2=4∧128≤(s.get! (i+1)).toNat∧128≤(s.get! (i+2)).toNat∧128≤(s.get! (i+3)).toNat):=by
 have hc:∀ k,(decide (i+k<s.size) && (s.get! (i+k)).toNat / 64 == 2)=true→128≤(s.get! (i+k)).toNat:=fun k hk=>by
  simp only [Bool.and_eq_true,beq_iff_eq] at hk
  omega
 unfold Utf8.decode
 dsimp only
 rw [if_neg h0]
 by_cases h1:((s.get! (i+0)).toNat / 32 == 6 && (decide (i+1<s.size) && (s.get! (i+1)).toNat / 64 == 2))=true
 ·rw [if_pos h1]
  split
  ·exact .inr (.inl ⟨rfl,hc 1 (QA h1).2⟩)
  ·exact .inl rfl
 rw [if_neg h1]
 by_cases h2:((s.get! (i+0)).toNat / 16 == 14 && (decide (i+1<s.size) && (s.get! (i+1)).toNat / 64 == 2) && (decide (i+2<s.size) && (s.get! (i+2)).toNat / 64 == 2))=true
 ·rw [if_pos h2]
  split
  ·exact .inr (.inr (.inl ⟨rfl,hc 1 (QA (QA h2).1).2,hc 2 (QA h2).2⟩))
  ·exact .inl rfl
 rw [if_neg h2]
 by_cases h3:((s.get! (i+0)).toNat / 8 == 30 && (decide (i+1<s.size) && (s.get! (i+1)).toNat / 64 == 2) && (decide (i+2<s.size) && (s.get! (i+2)).toNat / 64 == 2) && (decide (i+3<s.size) && (s.get! (i+3)).toNat / 64 == 2))=true
 ·rw [if_pos h3]
  split
  ·exact .inr (.inr (.inr ⟨rfl,hc 1 (QA (QA (QA h3).1).1).2,hc 2 (QA (QA h3).1).2,hc 3 (QA h3).2⟩))
  ·exact .inl rfl
 rw [if_neg h3]
 exact .inl rfl
theorem dec_wide (s:ByteArray) (pos:Nat) (h:pos<s.size) (ha:128≤(s[pos]'h).toNat):∀ (j:Nat) b,j<(Utf8.decode s pos).2→s.data.toList[pos+j]? = some b→128≤b.toNat:=by
 intro j b hj hb
 have hz:s.get! (pos+0)=s[pos]'h:=get_at s pos h
 have h0:pos+j<s.size:=by
  have:=(List.getElem?_eq_some_iff.1 hb).1
  rwa [← Lib.size_eq] at this
 have hb':s.get! (pos+j)=b:=by
  have e:s.get! (pos+j)=s[pos+j]'h0:=by simp [ByteArray.get!,getElem!_pos,h0];rfl
  rw [e]
  have:=Lib.data_getElem? s (pos+j) h0
  rw [this] at hb
  exact Option.some.inj hb
 rw [← hb']
 have c0:128≤(s.get! (pos+0)).toNat:=by rw [hz];exact ha
 have hw:=dec_w s pos (by omega)
 rcases hw with e|⟨e,c1⟩|⟨e,c1,c2⟩|⟨e,c1,c2,c3⟩ <;> rw [e] at hj
 ·obtain rfl:j=0:=by omega
  exact c0
 ·rcases (show j=0∨j=1 by omega) with rfl|rfl <;> assumption
 ·rcases (show j=0∨j=1∨j=2 by omega) with rfl|rfl|rfl <;> assumption
 ·rcases (show j=0∨j=1∨j=2∨j=3 by omega) with rfl|rfl|rfl|rfl <;> assumption
theorem next_at {w:World} {p:Nat} {s:ByteArray} {pos:Nat} (hh:w.heap[p]? = some (.stringIter s pos)) (ty:TypeId) (h:pos<s.size) :
  (Instr.next (.pointer (some ⟨p,0,none⟩)) true ty).run P w = .ok (.tuple #[.bool true,.int .i64 pos,.int .i32 (Utf8.decode s pos).1]) { w with heap:=w.heap.setIfInBounds p (.stringIter s (pos+(Utf8.decode s pos).2)) }:=by
 simp only [Instr.next,getObj,setObj,Sem.run_bind,Sem.run,hh,Result.andThen,h,if_true]
 simp [goInt]
theorem next_over {w:World} {p:Nat} {s:ByteArray} {pos:Nat} (hh:w.heap[p]? = some (.stringIter s pos)) (ty:TypeId) (h:¬ pos<s.size) :
  (Instr.next (.pointer (some ⟨p,0,none⟩)) true ty).run P w = .ok (.tuple #[.bool false]) w:=by
 simp [Instr.next,getObj,Sem.run,hh,h]
end Go.Proofs.YtmlnilkbolcknaaGreatDoor
namespace Go.Proofs.YtmlnilkbolcknaaGreatDoor
open Go Go.Shelf Go.RowKit Go.Lib
variable {P:Program} {ρ:Ren}

theorem fit_dec (s:ByteArray) (pos:Nat) (h:pos<s.size):pos+(Utf8.decode s pos).2≤s.size:=by
 simp only [Utf8.decode]
 repeat' split
 all_goals simp_all
 all_goals omega
theorem qev {w wx:World} {s:ByteArray} {i j:Nat} (h:Below w.heap.size w wx) (hh:wx.heap[w.heap.size]? = some (.stringIter s i)):Below w.heap.size w { wx with heap:=wx.heap.setIfInBounds w.heap.size (.stringIter s j) } ∧
  ({ wx with heap:=wx.heap.setIfInBounds w.heap.size (.stringIter s j) }:World).heap[w.heap.size]? = some (.stringIter s j)∧w.heap.size<({ wx with heap:=wx.heap.setIfInBounds w.heap.size (.stringIter s j) }:World).heap.size:=by
 have hl:w.heap.size<wx.heap.size:=by
  rcases Nat.lt_or_ge w.heap.size wx.heap.size with h'|h'
  ·exact h'
  ·rw [Array.getElem?_eq_none h'] at hh;cases hh
 refine ⟨⟨h.os,h.tape,h.output,by simpa using h.size,fun k hk=>?_⟩,by simp [hl],by simpa using hl⟩
 rw [← h.block k hk]
 exact Array.getElem?_setIfInBounds_ne (by omega)
theorem noany_wide {s chars:List UInt8} {i n:Nat} (h:NoAny s chars i) (hc:∀ (j:Nat) b,chars[j]? = some b→b.toNat<128) (hb:∀ (j:Nat) b,j<n→s[i+j]? = some b→128≤b.toNat):NoAny s chars (i+n):=fun j b hj hq=>by
 rcases Nat.lt_or_ge j i with h'|h'
 ·exact h j b h' hq
 ·have h1:=hb (j-i) b (by omega) (by rw [show i+(j-i)=j by omega];exact hq)
  cases e:chars.contains b
  ·rfl
  ·have hm:b∈chars:=by simpa using e
   obtain ⟨q,hq⟩:=List.getElem?_of_mem hm
   have:=hc q b hq
   omega
set_option maxHeartbeats 8000000 in
set_option maxRecDepth 1000000 in
theorem any_short (L:Lays.n153 P ρ) (s chars:ByteArray) (w:World) (h2:4<chars.size) (h8:s.size≤8) (hascii:∀ (j:Nat) b,chars.data.toList[j]? = some b→b.toNat<128) :
  Calls P (ρ.f 153) #[.string s,.string chars] w fun e w'=>e = .returned (.int .i64 (Lib.indexAny s.data.toList chars.data.toList))∧Below w.heap.size w w':=by
 have HA:Aside (∀ (j:Nat) b,chars.data.toList[j]? = some b→b.toNat<128):=hascii
 have hhigh:=fun r (hr:128≤r) W=>rune_high { L with } chars hascii h2 r W hr
 have HH:Aside (∀ r (_:128≤r) (W:World),Calls P (ρ.f 152) #[.string chars,.int .i32 r] W fun e w'=>e = .returned (.int .i64 (-1))∧Below W.heap.size W w'):=hhigh
 clear hascii hhigh
 have hemp:chars.toList.isEmpty=false:=by
  rw [Lib.toList_data]
  cases h:chars.data.toList with
  | nil=>have:=Lib.size_eq chars;rw [h,List.length_nil] at this;omega
  | cons _ _=>rfl
 have hn1:((chars.size:Int) == 1)=false:=beq_eq_false_iff_ne.2 (by omega)
 have h8z:decide ((8:Int)<(s.size:Int))=false:=decide_eq_false (by omega)
 have t3:=L.t3;have a3:=L.a3;have z3:=L.z3;have v3:=L.v3
 have t4:=L.t4;have a4:=L.a4;have z4:=L.z4;have v4:=L.v4
 have t5:=L.t5;have a5:=L.a5;have z5:=L.z5;have v5:=L.v5
 have t9:=L.t9;have a9:=L.a9;have z9:=L.z9;have v9:=L.v9
 have t21:=L.t21;have a21:=L.a21;have z21:=L.z21;have v21:=L.v21
 have e152:∀ args w,(callFunc (ρ.f 152) args).run P w = .ok (.enter (ρ.f 152) args) w:=enters_of L.f152 (by kernel_rfl) rfl
 have e226:∀ args w,(callFunc (ρ.f 226) args).run P w = .ok (.enter (ρ.f 226) args) w:=enters_of L.f226 (by kernel_rfl) rfl
 go_enter L.f153,Body.n153_ntmps ρ
 go_wp2_with (go_at_fn (ρ.f 226);refine (Any.strings_shouldUseASCIISet { L with } _ _).mono ?_;rintro e w' ⟨rfl,hw⟩;rw [hw,h8z])
 go_loopg [9,10] s.size (fun g _ _ wx=>∃ i:Nat,i+g=s.size∧wx.heap[w.heap.size]? = some (.stringIter s i)∧Below w.heap.size w wx∧Lib.NoAny s.data.toList chars.data.toList i)
 case atStart=>exact ⟨0,by omega,World.iter_heap w s 0,(Below.refl _ _).alloc (Nat.le_refl _) _,Lib.NoAny.zero _ _⟩
 case round =>
  obtain ⟨i,hig,hh,hbw,hno⟩:=hrel
  have HN:Aside (Lib.NoAny s.data.toList chars.data.toList i):=hno
  have HB:Aside (Below w.heap.size w wr):=hbw
  clear hno
  by_cases hi:i<s.size
  ·obtain ⟨x,hx⟩:∃ x:UInt8,s[i]'hi=x:=⟨_,rfl⟩
   have hxl:s.data.toList[i]? = some x:=by rw [← hx];exact Lib.data_getElem? s i hi
   have Hx:Aside (s.data.toList[i]? = some x):=hxl
   have HS:Aside (wr.heap[w.heap.size]? = some (.stringIter s i)):=hh
   have hnx:=fun ty=>next_at (P:=P) hh ty hi
   have hsets:=qev (j:=i+(Utf8.decode s i).2) hbw hh
   have hfit:=fit_dec s i hi
   obtain ⟨W2,hW2⟩:∃ W2,({ wr with heap:=wr.heap.setIfInBounds w.heap.size (.stringIter s (i+(Utf8.decode s i).2)) }:World)=W2:=⟨_,rfl⟩
   rw [hW2] at hsets
   simp only [hW2] at hnx
   obtain ⟨k1,k2,k3⟩:=hsets
   have K1:Aside (Below w.heap.size w W2):=k1
   clear hbw hh hW2 hxl k1
   by_cases ha:x.toNat<128
   ·have hd:=decode_ascii s i hi (by rw [hx];exact ha)
    rw [hd] at hnx k2 hfit
    rw [hx] at hnx
    have K2:Aside (W2.heap[w.heap.size]? = some (.stringIter s (i+1))):=k2
    clear hd k2 hx
    dsimp only at hnx
    have hcon:=Lib.contains_iff_indexByte chars.data.toList x
    have hback:((x.toNat:Int)).toNat.toUInt8=x:=by simp
    cases hin:chars.data.toList.contains x
    ·rw [hin] at hcon
     have hlt:¬ ((0:Int)≤Lib.indexByte chars.data.toList x):=of_decide_eq_false hcon.symm
     clear hcon
     go_wp2_with (go_at_fn (ρ.f 152);refine (Any.strings_IndexRune_ascii { L with } _ _ _ (by omega) (by omega)).mono ?_;rintro e w' ⟨rfl,hw⟩;rw [hw,hback])
     go_roundg (s.size-(i+1))
     case measure=>omega
     case rel=>exact ⟨i+1,by omega,K2.out,K1.out,HN.out.succ Hx.out hin⟩
    ·rw [hin] at hcon
     have hge:(0:Int)≤Lib.indexByte chars.data.toList x:=of_decide_eq_true hcon.symm
     clear hcon
     go_wp2_with (go_at_fn (ρ.f 152);refine (Any.strings_IndexRune_ascii { L with } _ _ _ (by omega) (by omega)).mono ?_;rintro e w' ⟨rfl,hw⟩;rw [hw,hback])
     go_ret
     exact ⟨by rw [Lib.indexAny_hit HN.out Hx.out hin];rfl,K1.out⟩
   ·obtain ⟨hd1,hd2⟩:=decode_high s i hi (by rw [hx];omega)
    have hwide:=dec_wide s i hi (by rw [hx];omega)
    obtain ⟨c,hc⟩:∃ c,(Utf8.decode s i).1=c:=⟨_,rfl⟩
    obtain ⟨wd,hwd⟩:∃ wd,(Utf8.decode s i).2=wd:=⟨_,rfl⟩
    rw [hc] at hd1
    rw [hwd] at hd2 hwide k2 hfit
    simp only [hc] at hnx
    have K2:Aside (W2.heap[w.heap.size]? = some (.stringIter s (i+wd))):=k2
    have HW:Aside (∀ (j:Nat) b,j<wd→s.data.toList[i+j]? = some b→128≤b.toNat):=hwide
    clear hx hc hwd k2 hwide
    go_wp2_with (go_at_fn (ρ.f 152);refine (HH.out _ (by omega) _).mono ?_;rintro e w' ⟨rfl,hw⟩)
    go_roundg (s.size-(i+wd))
    case measure=>omega
    case rel=>exact ⟨i+wd,by omega,(hw.block _ k3).trans K2.out,K1.out.trans (hw.mono (by omega)),noany_wide HN.out HA.out HW.out⟩
  ·have hie:i=s.size:=by omega
   have hnx:=fun ty=>next_over (P:=P) hh ty hi
   clear hh
   go_wp2
   go_ret
   exact ⟨by rw [Lib.indexAny_none (by rw [← Lib.size_eq,← hie];exact HN.out)];rfl,HB.out⟩
end Go.Proofs.YtmlnilkbolcknaaGreatDoor
namespace Go.Proofs
open Go.Shelf
def Tryz.layr153_ren:Go.Shelf.Ren:=⟨fun|153=>106|152=>135|226=>136|227=>84|228=>115|137=>156|119=>157|224=>158|225=>159|217=>172|266=>184|n=>n,fun|9=>9|3=>3|4=>4|5=>5|21=>21|117=>145|116=>144|0=>0|46=>191|124=>148|n=>n,fun|n=>n⟩
theorem Tryz.layr153:Go.Proofs.Lays.n153 Tryz.prog Tryz.layr153_ren:={
  mixed:=by kernel_rfl,
  f119:=Tryz.func157.trans (congrArg some (by kernel_rfl)),
  f137:=Tryz.func156.trans (congrArg some (by kernel_rfl)),
  f152:=Tryz.func135.trans (congrArg some (by kernel_rfl)),
  f153:=Tryz.func106.trans (congrArg some (by kernel_rfl)),
  f217:=Tryz.func172.trans (congrArg some (by kernel_rfl)),
  f224:=Tryz.func158.trans (congrArg some (by kernel_rfl)),
  f225:=Tryz.func159.trans (congrArg some (by kernel_rfl)),
  f226:=Tryz.func136.trans (congrArg some (by kernel_rfl)),
  f227:=Tryz.func84.trans (congrArg some (by kernel_rfl)),
  f228:=Tryz.func115.trans (congrArg some (by kernel_rfl)),
  f266:=Tryz.func184.trans (congrArg some (by kernel_rfl)),
  t0:=Tryz.underlying0,
  a0:=Tryz.isAgg0,
  z0:=Tryz.sizeOf0,
  v0:=Tryz.zeroValue0,
  t3:=Tryz.underlying3,
  a3:=Tryz.isAgg3,
  z3:=Tryz.sizeOf3,
  v3:=Tryz.zeroValue3,
  t4:=Tryz.underlying4,
  a4:=Tryz.isAgg4,
  z4:=Tryz.sizeOf4,
  v4:=Tryz.zeroValue4,
  t5:=Tryz.underlying5,
  a5:=Tryz.isAgg5,
  z5:=Tryz.sizeOf5,
  v5:=Tryz.zeroValue5,
  t9:=Tryz.underlying9,
  a9:=Tryz.isAgg9,
  z9:=Tryz.sizeOf9,
  v9:=Tryz.zeroValue9,
  t21:=Tryz.underlying21,
  a21:=Tryz.isAgg21,
  z21:=Tryz.sizeOf21,
  v21:=Tryz.zeroValue21,
  t46:=Tryz.underlying191,
  a46:=Tryz.isAgg191,
  z46:=Tryz.sizeOf191,
  v46:=Tryz.zeroValue191,
  t116:=Tryz.underlying144,
  a116:=Tryz.isAgg144,
  z116:=Tryz.sizeOf144,
  t117:=Tryz.underlying145,
  a117:=Tryz.isAgg145,
  z117:=Tryz.sizeOf145,
  v117:=Tryz.zeroValue145,
  t124:=Tryz.underlying148,
  a124:=Tryz.isAgg148,
  z124:=Tryz.sizeOf148,
  v124:=Tryz.zeroValue148 }
def Tryz.layc172_ren:Go.Shelf.Ren:=⟨fun|172=>137|244=>160|245=>161|247=>173|279=>174|280=>175|281=>176|282=>177|287=>185|316=>186|171=>28|205=>187|321=>189|322=>190|243=>61|246=>94|283=>126|284=>127|285=>128|286=>129|129=>150|317=>149|318=>151|319=>152|320=>153|337=>170|338=>171|n=>n,fun|9=>9|3=>3|75=>79|76=>80|4=>4|5=>5|167=>214|37=>73|0=>0|85=>215|2=>2|168=>217|53=>178|175=>225|46=>191|210=>229|127=>120|145=>234|143=>232|21=>21|171=>177|173=>181|212=>197|51=>198|20=>20|213=>199|232=>223|233=>224|80=>86|n=>n,fun|15=>6|16=>7|17=>0|18=>4|19=>5|n=>n⟩
theorem Tryz.layc172:Go.Proofs.LaysC.n172 Tryz.prog Tryz.layc172_ren:={
  mixed:=by kernel_rfl,
  f129:=Tryz.func150.trans (congrArg some (by kernel_rfl)),
  f171:=Tryz.func28.trans (congrArg some (by kernel_rfl)),
  f172:=Tryz.func137.trans (congrArg some (by kernel_rfl)),
  f205:=Tryz.func187.trans (congrArg some (by kernel_rfl)),
  f243:=Tryz.func61.trans (congrArg some (by kernel_rfl)),
  f244:=Tryz.func160.trans (congrArg some (by kernel_rfl)),
  f245:=Tryz.func161.trans (congrArg some (by kernel_rfl)),
  f246:=Tryz.func94.trans (congrArg some (by kernel_rfl)),
  f247:=Tryz.func173.trans (congrArg some (by kernel_rfl)),
  f279:=Tryz.func174.trans (congrArg some (by kernel_rfl)),
  f280:=Tryz.func175.trans (congrArg some (by kernel_rfl)),
  f281:=Tryz.func176.trans (congrArg some (by kernel_rfl)),
  f282:=Tryz.func177.trans (congrArg some (by kernel_rfl)),
  f283:=Tryz.func126.trans (congrArg some (by kernel_rfl)),
  f284:=Tryz.func127.trans (congrArg some (by kernel_rfl)),
  f285:=Tryz.func128.trans (congrArg some (by kernel_rfl)),
  f286:=Tryz.func129.trans (congrArg some (by kernel_rfl)),
  f287:=Tryz.func185.trans (congrArg some (by kernel_rfl)),
  f316:=Tryz.func186.trans (congrArg some (by kernel_rfl)),
  f317:=Tryz.func149.trans (congrArg some (by kernel_rfl)),
  f318:=Tryz.func151.trans (congrArg some (by kernel_rfl)),
  f319:=Tryz.func152.trans (congrArg some (by kernel_rfl)),
  f320:=Tryz.func153.trans (congrArg some (by kernel_rfl)),
  f321:=Tryz.func189.trans (congrArg some (by kernel_rfl)),
  f322:=Tryz.func190.trans (congrArg some (by kernel_rfl)),
  f337:=Tryz.func170.trans (congrArg some (by kernel_rfl)),
  f338:=Tryz.func171.trans (congrArg some (by kernel_rfl)),
  t0:=Tryz.underlying0,
  a0:=Tryz.isAgg0,
  z0:=Tryz.sizeOf0,
  v0:=Tryz.zeroValue0,
  t2:=Tryz.underlying2,
  a2:=Tryz.isAgg2,
  z2:=Tryz.sizeOf2,
  v2:=Tryz.zeroValue2,
  t3:=Tryz.underlying3,
  a3:=Tryz.isAgg3,
  z3:=Tryz.sizeOf3,
  v3:=Tryz.zeroValue3,
  t4:=Tryz.underlying4,
  a4:=Tryz.isAgg4,
  z4:=Tryz.sizeOf4,
  v4:=Tryz.zeroValue4,
  t5:=Tryz.underlying5,
  a5:=Tryz.isAgg5,
  z5:=Tryz.sizeOf5,
  v5:=Tryz.zeroValue5,
  t9:=Tryz.underlying9,
  a9:=Tryz.isAgg9,
  z9:=Tryz.sizeOf9,
  v9:=Tryz.zeroValue9,
  t20:=Tryz.underlying20,
  a20:=Tryz.isAgg20,
  z20:=Tryz.sizeOf20,
  v20:=Tryz.zeroValue20,
  t21:=Tryz.underlying21,
  a21:=Tryz.isAgg21,
  z21:=Tryz.sizeOf21,
  v21:=Tryz.zeroValue21,
  t37:=Tryz.underlying73,
  a37:=Tryz.isAgg73,
  z37:=Tryz.sizeOf73,
  v37:=Tryz.zeroValue73,
  t46:=Tryz.underlying191,
  a46:=Tryz.isAgg191,
  z46:=Tryz.sizeOf191,
  v46:=Tryz.zeroValue191,
  t51:=Tryz.underlying198,
  a51:=Tryz.isAgg198,
  z51:=Tryz.sizeOf198,
  v51:=Tryz.zeroValue198,
  t53:=Tryz.underlying178,
  a53:=Tryz.isAgg178,
  z53:=Tryz.sizeOf178,
  v53:=Tryz.zeroValue178,
  t75:=Tryz.underlying79,
  a75:=Tryz.isAgg79,
  z75:=Tryz.sizeOf79,
  v75:=Tryz.zeroValue79,
  t76:=Tryz.underlying80,
  a76:=Tryz.isAgg80,
  z76:=Tryz.sizeOf80,
  v76:=Tryz.zeroValue80,
  t85:=Tryz.underlying215,
  a85:=Tryz.isAgg215,
  z85:=Tryz.sizeOf215,
  v85:=Tryz.zeroValue215,
  t127:=Tryz.underlying120,
  a127:=Tryz.isAgg120,
  z127:=Tryz.sizeOf120,
  v127:=Tryz.zeroValue120,
  t143:=Tryz.underlying232,
  a143:=Tryz.isAgg232,
  z143:=Tryz.sizeOf232,
  v143:=Tryz.zeroValue232,
  t145:=Tryz.underlying234,
  a145:=Tryz.isAgg234,
  z145:=Tryz.sizeOf234,
  v145:=Tryz.zeroValue234,
  t167:=Tryz.underlying214,
  a167:=Tryz.isAgg214,
  z167:=Tryz.sizeOf214,
  v167:=Tryz.zeroValue214,
  t168:=Tryz.underlying217,
  a168:=Tryz.isAgg217,
  z168:=Tryz.sizeOf217,
  v168:=Tryz.zeroValue217,
  t171:=Tryz.underlying177,
  a171:=Tryz.isAgg177,
  z171:=Tryz.sizeOf177,
  v171:=Tryz.zeroValue177,
  t173:=Tryz.underlying181,
  a173:=Tryz.isAgg181,
  z173:=Tryz.sizeOf181,
  v173:=Tryz.zeroValue181,
  t175:=Tryz.underlying225,
  a175:=Tryz.isAgg225,
  z175:=Tryz.sizeOf225,
  v175:=Tryz.zeroValue225,
  t210:=Tryz.underlying229,
  a210:=Tryz.isAgg229,
  z210:=Tryz.sizeOf229,
  v210:=Tryz.zeroValue229,
  t212:=Tryz.underlying197,
  a212:=Tryz.isAgg197,
  z212:=Tryz.sizeOf197,
  v212:=Tryz.zeroValue197,
  t213:=Tryz.underlying199,
  a213:=Tryz.isAgg199,
  z213:=Tryz.sizeOf199,
  t232:=Tryz.underlying223,
  a232:=Tryz.isAgg223,
  z232:=Tryz.sizeOf223,
  v232:=Tryz.zeroValue223,
  t233:=Tryz.underlying224,
  a233:=Tryz.isAgg224,
  z233:=Tryz.sizeOf224,
  v233:=Tryz.zeroValue224,
  g15:=by kernel_rfl,
  g16:=by kernel_rfl,
  g17:=by kernel_rfl,
  g18:=by kernel_rfl,
  g19:=by kernel_rfl,
  t80:=Tryz.underlying86,
  a80:=Tryz.isAgg86,
  z80:=Tryz.sizeOf86,
  v80:=Tryz.zeroValue86,
  i0:=by kernel_rfl,
  i2:=by kernel_rfl,
  i3:=by kernel_rfl,
  i4:=by kernel_rfl,
  i5:=by kernel_rfl,
  i9:=by kernel_rfl,
  i20:=by kernel_rfl,
  i21:=by kernel_rfl,
  i37:=by kernel_rfl,
  i46:=by kernel_rfl,
  i51:=by kernel_rfl,
  i53:=by kernel_rfl,
  i75:=by kernel_rfl,
  i76:=by kernel_rfl,
  i80:=by kernel_rfl,
  i85:=by kernel_rfl,
  i127:=by kernel_rfl,
  i143:=by kernel_rfl,
  i145:=by kernel_rfl,
  i167:=by kernel_rfl,
  i168:=by kernel_rfl,
  i171:=by kernel_rfl,
  i173:=by kernel_rfl,
  i175:=by kernel_rfl,
  i210:=by kernel_rfl,
  i212:=by kernel_rfl,
  i232:=by kernel_rfl,
  i233:=by kernel_rfl,
  m15:=by kernel_rfl,
  m16:=by kernel_rfl,
  m17:=by kernel_rfl,
  m18:=by kernel_rfl,
  m19:=by kernel_rfl,
  c0:=by kernel_rfl,
  c2:=by kernel_rfl,
  c3:=by kernel_rfl,
  c4:=by kernel_rfl,
  c5:=by kernel_rfl,
  c9:=by kernel_rfl,
  c20:=by kernel_rfl,
  c21:=by kernel_rfl,
  c37:=by kernel_rfl,
  c46:=by kernel_rfl,
  c51:=by kernel_rfl,
  c53:=by kernel_rfl,
  c75:=by kernel_rfl,
  c76:=by kernel_rfl,
  c80:=by kernel_rfl,
  c85:=by kernel_rfl,
  c127:=by kernel_rfl,
  c143:=by kernel_rfl,
  c145:=by kernel_rfl,
  c167:=by kernel_rfl,
  c168:=by kernel_rfl,
  c171:=by kernel_rfl,
  c173:=by kernel_rfl,
  c175:=by kernel_rfl,
  c210:=by kernel_rfl,
  c212:=by kernel_rfl,
  c213:=by kernel_rfl,
  c232:=by kernel_rfl,
  c233:=by kernel_rfl }
end Go.Proofs
namespace Go.Proofs.YtmlnilkbolcknaaGreatDoor.Pm
open Go Go.RowKit Go.Proofs.YtmlnilkbolcknaaGreatDoor.Pi

theorem any_all (s cs:List UInt8) (hs:s.length≤4294967280) (hc:cs.length≤1000) (h4:4<cs.length) (h2:∀ (j:Nat) b,cs[j]? = some b→b.toNat<128):PC Tryz.prog 106 [sv (st s),sv (st cs)] [] (iv (Lib.indexAny s cs)) [] :=
 wF (ww Tryz.func106 (by kernel_rfl) (by kernel_rfl)) rfl rfl fun w=>by
  have h116:(Tryz.prog.info? (Tryz.layr153_ren.t 116)).map (fun i=>(i.zero,i.size))=some (some (.agg (Array.replicate 256 (.bool false))),256):=by kernel_rfl
  by_cases h8:s.length≤8
  ·exact any_short Tryz.layr153 (st s) (st cs) w h4 h8 h2
  ·refine (Any.strings_IndexAny_long Tryz.layr153 (zero_of_info h116).1 (zero_of_info h116).2 (st s) (st cs) w (by show 2≤cs.length;omega) (by show 8<s.length;omega) (by show s.length<_;omega) (by show cs.length<_;omega) h2).mono fun e w' ⟨h1,h3⟩=>⟨h1,?_⟩
   rw [h3]
   exact ((Below.refl _ _).alloc (Nat.le_refl _) _).alloc (by simp) _
theorem atoi_okL (w:qJ) (v:Int) (hw:w.length≤65536) (h:Lib.atoiAll w = .ok v):PC Tryz.prog 137 [sv (st w)] [] (.tup [iv v,.av .nilIface]) [] :=
 wF (ww Tryz.func137 (by kernel_rfl) (by kernel_rfl)) rfl rfl fun W=>(Any.strconv_Atoi_ok Tryz.layc172 (st w) (by show w.length≤_;omega) v h W).mono fun e w' ⟨h1,h2⟩=>⟨h1,by
  rcases h2 with rfl|⟨t,rfl⟩
  ·exact Below.refl _ _
  ·exact Lib.bytesWorld_below _ _ _⟩
theorem qkm (w:qJ) (hw:w.length≤65536) (h:Lib.atoiAll w = .range):PC Tryz.prog 137 [sv (st w)] [] (.tup [iv (Lib.atoiSat w),.err]) []:=by
 have ha:jY [sv (st w)]=some [.string (st w)]:=rfl
 refine pc_ofL (ww Tryz.func137 (by kernel_rfl) (by kernel_rfl)) (fun W vs hL hrl=>?_) fun c vs hrl=>?_
 ·rw [ZB (f:=ZD) (fs:=jY) rfl (fun _ _=>rfl) (fun _ _ _ h k=>ZC h k) ha hrl]
  obtain ⟨tp,p,hv⟩:=hL.2.2.2
  refine (Any.strconv_Atoi_range Tryz.layc172 (st w) (by show w.length≤_;omega) h (.iface tp p) W (by have h0:=World.var?_cell Tryz.layc172.m16 hv 0;simpa using h0) (.inr ⟨tp,p,rfl⟩)).mono ?_
  rintro e w' ⟨N,rfl,_,_,hb⟩
  refine ⟨_,rfl,hb,fun c=>.tup rfl fun i hi=>?_⟩
  have:i=0∨i=1:=by simp at hi;omega
  rcases this with rfl|rfl
  ·exact .sh (qeh (p:=iv (Lib.atoiSat w)) rfl)
  ·exact .sh (.err _ _)
 ·rw [ZB (f:=ZD) (fs:=jY) rfl (fun _ _=>rfl) (fun _ _ _ h k=>ZC h k) ha hrl]
  obtain ⟨h1,h2⟩:=VI (w:=c.w) (S:=fun b=>b<c.w.heap.size) (f:=ZD) (fs:=jY) rfl (fun _ _=>rfl) (fun _ _ h=>qau h) ha
  exact ⟨by simp [h1],fun i hi=>by rw [qbd];exact .sh (h2 i hi)⟩
theorem rdy_all {s:qJ} (hl:s.length≤65536):Rdy s where
 any:=fun a _=>any_all _ _ (by rw [List.length_drop];omega) (by decide) (by decide) (by
  intro j b hb
  have hm:b∈sgn:=List.mem_of_getElem? hb
  revert hm
  unfold sgn
  intro hm
  simp only [List.mem_cons,List.not_mem_nil,or_false] at hm
  rcases hm with rfl|rfl|rfl|rfl|rfl|rfl|rfl|rfl|rfl|rfl|rfl <;> decide)
 ato:=fun w h1 h2 h3=>atoi_okL w _ (by omega) h3
 atr:=fun w h1 h2 h3=>qkm w (by omega) h3
end Go.Proofs.YtmlnilkbolcknaaGreatDoor.Pm
set_option maxRecDepth 100000
set_option maxHeartbeats 4000000
namespace Go.Proofs.YtmlnilkbolcknaaGreatDoor.Pm
open Go Go.Proofs.YtmlnilkbolcknaaGreatDoor.Pi
theorem vG (s:qJ) (a:Nat) (k:Int) (hs:s.length≤65536) (hr:Rdy s) (ha:a≤s.length):PO Tryz.prog 107 [(.opt 0 0)] [some (98,(r3 s a k))] (if (qN s a).1=0 then .ret (iv ((qN s a).2.1)) [some (98,(r3 s ((qN s a).2.2) k))] else .pan (yz (qN s a).1 (((qN s a).2.2:Nat):Int)) [none]):=by
 refine jJ Tryz.func107 rfl (by kernel_rfl) (QT (Nat.le_of_ble_eq_true rfl) (Nat.le_of_ble_eq_true rfl)) (by kernel_rfl) (l0:=[ps 0 (.opt 0 0),pb 0 98 (r3 s a k)]) rfl (fun c0 Bor hc0=>?_)
 refine qA<|qL qD [.r] []<|qA<|T_r1 qD 1 [ps 0 (.opt 0 0),ps 3 (sv (st (qC s a))),pb 0 98 (r3 s (qB s a) k)] (wM [0] 17 (qai s a k hs hr (by omega)) oz)<|qA<|qA ?_
 have hwl:=vO ha
 have hga:=yR ha
 by_cases h1:(qC s a)=([]:TX)
 ·refine zE qD ([(1,.val (.av (.bool (decide ((qC s a)=([]:TX))))))]++gy 3 3++[(6,.yes true)]++gy 8 4++[(15,.gd true .no)]) [.k2,.n,.r] [ps 24 (bv true)] (oc (zj _ _:((st (qC s a)).toList == (st ([]:TX)).toList)=decide ((qC s a)=([]:TX))) (on 4 (zR h1) (on 5 tt oz)))<|qU (b:=true) rfl rfl ?_
  rw [show qN s a=(2,0,qB s a) from by unfold qN;rw [if_pos h1],if_neg (by show ¬ ((2:Int)=0);decide)]
  exact vM qD [(1,.call [0] [(.opt 0 0),(iv 2)] [some (98,(r3 s (qB s a) k))] (.av (yz 2 (qB s a:Int))) [none])] [] 1 [] (QK [0] 177 (yV s (qB s a) k 2) oz) (fun cx_ a_ hI_=>zW hc0 hI_)
 by_cases h2:(Lib.trimS (qC s a) digs)=([]:TX)
 ·by_cases h3:1<(((qC s a).length:Nat):Int)
  ·refine zE qD ([(1,.val (.av (.bool (decide ((qC s a)=([]:TX)))))),(3,.gd false .no),(4,.gd false (.call [] [(sv (st (qC s a))),(sv (st digs))] [] (sv (st (Lib.trimS (qC s a) digs))) [])),(5,.gd false (.val (.av (.bool (!decide ((Lib.trimS (qC s a) digs)=([]:TX))))))),(6,.yes false)]++gn 8 4++gy 12 3++[(15,.gd false (.yes true)),(16,.yes false)]) [.k2,.n,.r] [ps 24 (bv (decide (((((qC s a).getD 0 0).toNat:Nat):Int)=48)))] (oc (zj _ _:((st (qC s a)).toList == (st ([]:TX)).toList)=decide ((qC s a)=([]:TX))) (on 2 (zP h1) (zY 65 (yT (qC s a) digs (by omega) (by decide) jZ) (oc (zP h1) (oc (zw _ _:(!((st (Lib.trimS (qC s a) digs)).toList == (st ([]:TX)).toList)) = !decide ((Lib.trimS (qC s a) digs)=([]:TX))) (oc (zP h1) (on 4 (bt h2) (on 2 (zR h3) (oc (by have:=List.length_pos_iff.2 h1;omega:(0:Int)≤0∧0<(((qC s a).length:Nat):Int)) (oc (zR h3) (oc (bt h2) (oc (zR h3) (oc (bt h2) oz))))))))))))) ?_
   by_cases h4:((((qC s a).getD 0 0).toNat:Nat):Int)=48
   ·refine qX (zR h4) ?_
    rw [show qN s a=(2,0,qB s a) from by unfold qN;rw [if_neg h1,if_pos h2,if_pos (by omega)],if_neg (by show ¬ ((2:Int)=0);decide)]
    exact vM qD [(1,.call [0] [(.opt 0 0),(iv 2)] [some (98,(r3 s (qB s a) k))] (.av (yz 2 (qB s a:Int))) [none])] [] 1 [] (QK [0] 177 (yV s (qB s a) k 2) oz) (fun cx_ a_ hI_=>zW hc0 hI_)
   refine qW (zP h4)<|qF<|qA ?_
   have hdg:=qfa h2
   have hno:¬ (1<(qC s a).length∧((qC s a).getD 0 0).toNat=48):=by omega
   have hv0:¬ 18<(qC s a).length→Lib.atoi (qC s a)=some (yE (qC s a))∧0≤yE (qC s a)∧yE (qC s a)≤1000000000000000000:=fun hl=>qdg hdg h1 hl
   have hw0:18<(qC s a).length→¬ Lib.atoiAll (qC s a) = .range→Lib.atoiAll (qC s a) = .ok (okV (qC s a))∧65536<okV (qC s a)∧okV (qC s a)≤9223372036854775807:=fun hl hq=>(qfn hdg hl (by omega)).resolve_left hq
   by_cases h5:18<(qC s a).length
   ·by_cases h6:Lib.atoiAll (qC s a) = .range
    ·refine yJ qD 1 [.k2,.n,.n,.d,.r] [ps 4 (iv (Lib.atoiSat (qC s a))),ps 5 .err] (zY 177 (hr.atr (qC s a) (by omega) (by omega) h6) oz)<|qA<|qA<|zE qD (gy 3 2++gy 7 2) [.k3,.d,.n,.r] [ps 41 (bv true)] (on 4 tt oz)<|qU (b:=true) rfl rfl ?_
     rw [show qN s a=(3,0,qB s a) from by unfold qN;rw [if_neg h1,if_pos h2,if_neg hno,if_pos h5],if_neg (by show ¬ ((3:Int)=0);decide)]
     exact vM qD [(1,.call [0] [(.opt 0 0),(iv 3)] [some (98,(r3 s (qB s a) k))] (.av (yz 3 (qB s a:Int))) [none])] [] 1 [] (QK [0] 313 (yV s (qB s a) k 3) oz) (fun cx_ a_ hI_=>zW hc0 hI_)
    have hw:=hw0 h5 h6
    refine yJ qD 1 [.k2,.n,.n,.d,.r] [ps 4 (iv (okV (qC s a))),ps 5 (.av .nilIface)] (zY 177 (hr.ato (qC s a) (by omega) (by omega) hw.1) oz)<|qA<|qA ?_
    by_cases h7:(okV (qC s a))<1
    ·refine zE qD (gn 3 2++gy 7 2++[(9,.yes true)]) [.k3,.d,.n,.r] [ps 41 (bv true)] (on 2 ff (on 3 (zR h7) oz))<|qU (b:=true) rfl rfl ?_
     rw [show qN s a=(3,0,qB s a) from by unfold qN;rw [if_neg h1,if_pos h2,if_neg hno,if_pos h5],if_neg (by show ¬ ((3:Int)=0);decide)]
     exact vM qD [(1,.call [0] [(.opt 0 0),(iv 3)] [some (98,(r3 s (qB s a) k))] (.av (yz 3 (qB s a:Int))) [none])] [] 1 [] (QK [0] 313 (yV s (qB s a) k 3) oz) (fun cx_ a_ hI_=>zW hc0 hI_)
    refine zE qD (gn 3 2++gn 7 2++[(9,.yes false)]) [.k3,.d,.n,.r] [ps 41 (bv (decide (65536<(okV (qC s a)))))] (on 2 ff (on 3 (zP h7) oz)) ?_
    by_cases h8:65536<(okV (qC s a))
    ·refine qX (zR h8) ?_
     rw [show qN s a=(3,0,qB s a) from by unfold qN;rw [if_neg h1,if_pos h2,if_neg hno,if_pos h5],if_neg (by show ¬ ((3:Int)=0);decide)]
     exact vM qD [(1,.call [0] [(.opt 0 0),(iv 3)] [some (98,(r3 s (qB s a) k))] (.av (yz 3 (qB s a:Int))) [none])] [] 1 [] (QK [0] 313 (yV s (qB s a) k 3) oz) (fun cx_ a_ hI_=>zW hc0 hI_)
    refine qW (zP h8)<|qF<|qA<|zE qD [] [.d,.d,.k1,.d,.d,.n] [pb 0 98 [(sv (st s)),(iv (((qB s a:Nat):Int)+(((qC s a).length:Nat):Int))),(iv k)]] (oi (((qB s a:Nat):Int)+(((qC s a).length:Nat):Int)) (by omega) oz)<|qx (Wk.eq (show _=[ps 4 (iv (okV (qC s a))),pb 0 98 (r3 s (qB s a+(qC s a).length) k)] from by rfl)) ?_
    refine qA<|qL qD [.n,.d,.r] [ps 2 (iv (okV (qC s a)))] ?_
    exfalso;omega
   have hv:=hv0 h5
   refine yJ qD 1 [.k2,.n,.n,.d,.r] [ps 4 (iv (yE (qC s a))),ps 5 (.av .nilIface)] (zY 177 (qbc (qC s a) _ (by omega) hv.1:PC Tryz.prog 137 [(sv (st (qC s a)))] [] (.tup [(iv (yE (qC s a))),(.av .nilIface)]) []) oz)<|qA<|qA ?_
   by_cases h9:(yE (qC s a))<1
   ·refine zE qD (gn 3 2++gy 7 2++[(9,.yes true)]) [.k3,.d,.n,.r] [ps 41 (bv true)] (on 2 ff (on 3 (zR h9) oz))<|qU (b:=true) rfl rfl ?_
    rw [show qN s a=(3,0,qB s a) from by unfold qN;rw [if_neg h1,if_pos h2,if_neg hno,if_neg h5,if_pos (by omega)],if_neg (by show ¬ ((3:Int)=0);decide)]
    exact vM qD [(1,.call [0] [(.opt 0 0),(iv 3)] [some (98,(r3 s (qB s a) k))] (.av (yz 3 (qB s a:Int))) [none])] [] 1 [] (QK [0] 313 (yV s (qB s a) k 3) oz) (fun cx_ a_ hI_=>zW hc0 hI_)
   refine zE qD (gn 3 2++gn 7 2++[(9,.yes false)]) [.k3,.d,.n,.r] [ps 41 (bv (decide (65536<(yE (qC s a)))))] (on 2 ff (on 3 (zP h9) oz)) ?_
   by_cases h10:65536<(yE (qC s a))
   ·refine qX (zR h10) ?_
    rw [show qN s a=(3,0,qB s a) from by unfold qN;rw [if_neg h1,if_pos h2,if_neg hno,if_neg h5,if_pos (by omega)],if_neg (by show ¬ ((3:Int)=0);decide)]
    exact vM qD [(1,.call [0] [(.opt 0 0),(iv 3)] [some (98,(r3 s (qB s a) k))] (.av (yz 3 (qB s a:Int))) [none])] [] 1 [] (QK [0] 313 (yV s (qB s a) k 3) oz) (fun cx_ a_ hI_=>zW hc0 hI_)
   refine qW (zP h10)<|qF<|qA<|zE qD [] [.d,.d,.k1,.d,.d,.n] [pb 0 98 [(sv (st s)),(iv (((qB s a:Nat):Int)+(((qC s a).length:Nat):Int))),(iv k)]] (oi (((qB s a:Nat):Int)+(((qC s a).length:Nat):Int)) (by omega) oz)<|qx (Wk.eq (show _=[ps 4 (iv (yE (qC s a))),pb 0 98 (r3 s (qB s a+(qC s a).length) k)] from by rfl)) ?_
   refine qA<|qL qD [.n,.d,.r] [ps 2 (iv (yE (qC s a)))] ?_
   have hR:qN s a=(0,yE (qC s a),qB s a+(qC s a).length):=by unfold qN;rw [if_neg h1,if_pos h2,if_neg hno,if_neg h5,if_neg (by omega)]
   rw [hR,if_pos rfl]
   exact zN hc0 [2] [0] (hbk:=by exact oc rfl (oz))
  refine zE qD ([(1,.val (.av (.bool (decide ((qC s a)=([]:TX)))))),(3,.gd false .no),(4,.gd false (.call [] [(sv (st (qC s a))),(sv (st digs))] [] (sv (st (Lib.trimS (qC s a) digs))) [])),(5,.gd false (.val (.av (.bool (!decide ((Lib.trimS (qC s a) digs)=([]:TX))))))),(6,.yes false)]++gn 8 7++[(15,.gd false (.yes false)),(16,.yes false)]) [.k2,.n,.r] [ps 24 (bv false)] (oc (zj _ _:((st (qC s a)).toList == (st ([]:TX)).toList)=decide ((qC s a)=([]:TX))) (on 2 (zP h1) (zY 65 (yT (qC s a) digs (by omega) (by decide) jZ) (oc (zP h1) (oc (zw _ _:(!((st (Lib.trimS (qC s a) digs)).toList == (st ([]:TX)).toList)) = !decide ((Lib.trimS (qC s a) digs)=([]:TX))) (oc (zP h1) (on 4 (bt h2) (on 3 (zP h3) (oc (bt h2) (oc (zP h3) (oc (bt h2) oz)))))))))))<|zD (b:=false) rfl rfl<|qF<|qA ?_
  have hdg:=qfa h2
  have hno:¬ (1<(qC s a).length∧((qC s a).getD 0 0).toNat=48):=by omega
  have hv0:¬ 18<(qC s a).length→Lib.atoi (qC s a)=some (yE (qC s a))∧0≤yE (qC s a)∧yE (qC s a)≤1000000000000000000:=fun hl=>qdg hdg h1 hl
  have hw0:18<(qC s a).length→¬ Lib.atoiAll (qC s a) = .range→Lib.atoiAll (qC s a) = .ok (okV (qC s a))∧65536<okV (qC s a)∧okV (qC s a)≤9223372036854775807:=fun hl hq=>(qfn hdg hl (by omega)).resolve_left hq
  by_cases h11:18<(qC s a).length
  ·by_cases h12:Lib.atoiAll (qC s a) = .range
   ·refine yJ qD 1 [.k2,.n,.n,.d,.r] [ps 4 (iv (Lib.atoiSat (qC s a))),ps 5 .err] (zY 177 (hr.atr (qC s a) (by omega) (by omega) h12) oz)<|qA<|qA<|zE qD (gy 3 2++gy 7 2) [.k3,.d,.n,.r] [ps 41 (bv true)] (on 4 tt oz)<|qU (b:=true) rfl rfl ?_
    rw [show qN s a=(3,0,qB s a) from by unfold qN;rw [if_neg h1,if_pos h2,if_neg hno,if_pos h11],if_neg (by show ¬ ((3:Int)=0);decide)]
    exact vM qD [(1,.call [0] [(.opt 0 0),(iv 3)] [some (98,(r3 s (qB s a) k))] (.av (yz 3 (qB s a:Int))) [none])] [] 1 [] (QK [0] 313 (yV s (qB s a) k 3) oz) (fun cx_ a_ hI_=>zW hc0 hI_)
   have hw:=hw0 h11 h12
   refine yJ qD 1 [.k2,.n,.n,.d,.r] [ps 4 (iv (okV (qC s a))),ps 5 (.av .nilIface)] (zY 177 (hr.ato (qC s a) (by omega) (by omega) hw.1) oz)<|qA<|qA ?_
   by_cases h13:(okV (qC s a))<1
   ·refine zE qD (gn 3 2++gy 7 2++[(9,.yes true)]) [.k3,.d,.n,.r] [ps 41 (bv true)] (on 2 ff (on 3 (zR h13) oz))<|qU (b:=true) rfl rfl ?_
    rw [show qN s a=(3,0,qB s a) from by unfold qN;rw [if_neg h1,if_pos h2,if_neg hno,if_pos h11],if_neg (by show ¬ ((3:Int)=0);decide)]
    exact vM qD [(1,.call [0] [(.opt 0 0),(iv 3)] [some (98,(r3 s (qB s a) k))] (.av (yz 3 (qB s a:Int))) [none])] [] 1 [] (QK [0] 313 (yV s (qB s a) k 3) oz) (fun cx_ a_ hI_=>zW hc0 hI_)
   refine zE qD (gn 3 2++gn 7 2++[(9,.yes false)]) [.k3,.d,.n,.r] [ps 41 (bv (decide (65536<(okV (qC s a)))))] (on 2 ff (on 3 (zP h13) oz)) ?_
   by_cases h14:65536<(okV (qC s a))
   ·refine qX (zR h14) ?_
    rw [show qN s a=(3,0,qB s a) from by unfold qN;rw [if_neg h1,if_pos h2,if_neg hno,if_pos h11],if_neg (by show ¬ ((3:Int)=0);decide)]
    exact vM qD [(1,.call [0] [(.opt 0 0),(iv 3)] [some (98,(r3 s (qB s a) k))] (.av (yz 3 (qB s a:Int))) [none])] [] 1 [] (QK [0] 313 (yV s (qB s a) k 3) oz) (fun cx_ a_ hI_=>zW hc0 hI_)
   refine qW (zP h14)<|qF<|qA<|zE qD [] [.d,.d,.k1,.d,.d,.n] [pb 0 98 [(sv (st s)),(iv (((qB s a:Nat):Int)+(((qC s a).length:Nat):Int))),(iv k)]] (oi (((qB s a:Nat):Int)+(((qC s a).length:Nat):Int)) (by omega) oz)<|qx (Wk.eq (show _=[ps 4 (iv (okV (qC s a))),pb 0 98 (r3 s (qB s a+(qC s a).length) k)] from by rfl)) ?_
   refine qA<|qL qD [.n,.d,.r] [ps 2 (iv (okV (qC s a)))] ?_
   exfalso;omega
  have hv:=hv0 h11
  refine yJ qD 1 [.k2,.n,.n,.d,.r] [ps 4 (iv (yE (qC s a))),ps 5 (.av .nilIface)] (zY 177 (qbc (qC s a) _ (by omega) hv.1:PC Tryz.prog 137 [(sv (st (qC s a)))] [] (.tup [(iv (yE (qC s a))),(.av .nilIface)]) []) oz)<|qA<|qA ?_
  by_cases h15:(yE (qC s a))<1
  ·refine zE qD (gn 3 2++gy 7 2++[(9,.yes true)]) [.k3,.d,.n,.r] [ps 41 (bv true)] (on 2 ff (on 3 (zR h15) oz))<|qU (b:=true) rfl rfl ?_
   rw [show qN s a=(3,0,qB s a) from by unfold qN;rw [if_neg h1,if_pos h2,if_neg hno,if_neg h11,if_pos (by omega)],if_neg (by show ¬ ((3:Int)=0);decide)]
   exact vM qD [(1,.call [0] [(.opt 0 0),(iv 3)] [some (98,(r3 s (qB s a) k))] (.av (yz 3 (qB s a:Int))) [none])] [] 1 [] (QK [0] 313 (yV s (qB s a) k 3) oz) (fun cx_ a_ hI_=>zW hc0 hI_)
  refine zE qD (gn 3 2++gn 7 2++[(9,.yes false)]) [.k3,.d,.n,.r] [ps 41 (bv (decide (65536<(yE (qC s a)))))] (on 2 ff (on 3 (zP h15) oz)) ?_
  by_cases h16:65536<(yE (qC s a))
  ·refine qX (zR h16) ?_
   rw [show qN s a=(3,0,qB s a) from by unfold qN;rw [if_neg h1,if_pos h2,if_neg hno,if_neg h11,if_pos (by omega)],if_neg (by show ¬ ((3:Int)=0);decide)]
   exact vM qD [(1,.call [0] [(.opt 0 0),(iv 3)] [some (98,(r3 s (qB s a) k))] (.av (yz 3 (qB s a:Int))) [none])] [] 1 [] (QK [0] 313 (yV s (qB s a) k 3) oz) (fun cx_ a_ hI_=>zW hc0 hI_)
  refine qW (zP h16)<|qF<|qA<|zE qD [] [.d,.d,.k1,.d,.d,.n] [pb 0 98 [(sv (st s)),(iv (((qB s a:Nat):Int)+(((qC s a).length:Nat):Int))),(iv k)]] (oi (((qB s a:Nat):Int)+(((qC s a).length:Nat):Int)) (by omega) oz)<|qx (Wk.eq (show _=[ps 4 (iv (yE (qC s a))),pb 0 98 (r3 s (qB s a+(qC s a).length) k)] from by rfl)) ?_
  refine qA<|qL qD [.n,.d,.r] [ps 2 (iv (yE (qC s a)))] ?_
  have hR:qN s a=(0,yE (qC s a),qB s a+(qC s a).length):=by unfold qN;rw [if_neg h1,if_pos h2,if_neg hno,if_neg h11,if_neg (by omega)]
  rw [hR,if_pos rfl]
  exact zN hc0 [2] [0] (hbk:=by exact oc rfl (oz))
 refine zE qD ([(1,.val (.av (.bool (decide ((qC s a)=([]:TX)))))),(3,.gd false .no),(4,.gd false (.call [] [(sv (st (qC s a))),(sv (st digs))] [] (sv (st (Lib.trimS (qC s a) digs))) [])),(5,.gd false (.val (.av (.bool (!decide ((Lib.trimS (qC s a) digs)=([]:TX))))))),(6,.yes false)]++gy 8 4++[(15,.gd true .no),(16,.yes true)]) [.k2,.n,.r] [ps 24 (bv true)] (oc (zj _ _:((st (qC s a)).toList == (st ([]:TX)).toList)=decide ((qC s a)=([]:TX))) (on 2 (zP h1) (zY 65 (yT (qC s a) digs (by omega) (by decide) jZ) (oc (zP h1) (oc (zw _ _:(!((st (Lib.trimS (qC s a) digs)).toList == (st ([]:TX)).toList)) = !decide ((Lib.trimS (qC s a) digs)=([]:TX))) (oc (zP h1) (on 6 (bf h2) oz)))))))<|qU (b:=true) rfl rfl ?_
 rw [show qN s a=(2,0,qB s a) from by unfold qN;rw [if_neg h1,if_neg h2],if_neg (by show ¬ ((2:Int)=0);decide)]
 exact vM qD [(1,.call [0] [(.opt 0 0),(iv 2)] [some (98,(r3 s (qB s a) k))] (.av (yz 2 (qB s a:Int))) [none])] [] 1 [] (QK [0] 177 (yV s (qB s a) k 2) oz) (fun cx_ a_ hI_=>zW hc0 hI_)
theorem VT (s:qJ) (a:Nat) (k:Int) (hs:s.length≤65536) (hr:Rdy s) (ha:a≤s.length):PO Tryz.prog 141 [(.opt 0 0)] [some (98,(r3 s a k))] (if (qS s a).1=0 then .ret (.agg [(iv ((qS s a).2.1.1)),(iv ((qS s a).2.1.2.1)),(iv ((qS s a).2.1.2.2))]) [some (98,(r3 s ((qS s a).2.2) k)),none] else .pan (yz (qS s a).1 (((qS s a).2.2:Nat):Int)) [none]):=by
 refine jJ Tryz.func141 rfl (by kernel_rfl) (QT (Nat.le_of_ble_eq_true rfl) (Nat.le_of_ble_eq_true rfl)) (by kernel_rfl) (l0:=[ps 0 (.opt 0 0),pb 0 98 (r3 s a k)]) rfl (fun c0 Bor hc0=>?_)
 refine qA<|qL qD [.k1,.n,.k1,.n] [ps 2 (.opt 1 0),pb 1 52 [(iv 0),(iv 0),(iv 0)]]<|qA<|vX qD 1 [.k2,.n,.d,.n,.r] [ps 3 (sv (st (qC s a))),pb 0 98 (r3 s (qB s a) k)] (wM [0] 17 (qai s a k hs hr (by omega)) oz)<|qA ?_
 have hwl:=vO ha
 have hga:=yR ha
 have hat:=readS_at (qC s a)
 refine yJ qD 1 [.k3,.n,.n,.k2,.n,.n] [ps 4 (.opt 73 0),ps 5 (.opt 81 0),pb 73 52 [(iv ((zq (qC s a)).1.1)),(iv ((zq (qC s a)).1.2.1)),(iv ((zq (qC s a)).1.2.2))],pb 81 33 [(iv ((zq (qC s a)).2.1)),(iv ((zq (qC s a)).2.2))]] (zY 41 (read_pc (qC s a) (by omega)) oz)<|qA<|qA<|qL qD [.k5,.n,.r] [ps 15 (bv (!(decide (((zq (qC s a)).2.1)=0))))] ?_
 by_cases h1:((zq (qC s a)).2.1)=0
 ·refine qW (bt h1)<|qF<|qA<|zE qD [] [.d,.k1,.d,.k1,.d,.d,.d,.n,.k2,.d] [pb 0 98 [(sv (st s)),(iv (((qB s a:Nat):Int)+(((qC s a).length:Nat):Int))),(iv k)]] (oi (((qB s a:Nat):Int)+(((qC s a).length:Nat):Int)) (by omega) oz)<|qx (Wk.eq (show _=[ps 2 (.opt 1 0),ps 4 (.opt 73 0),pb 0 98 (r3 s (qB s a+(qC s a).length) k),pb 1 52 [(iv 0),(iv 0),(iv 0)],pb 73 52 [(iv ((zq (qC s a)).1.1)),(iv ((zq (qC s a)).1.2.1)),(iv ((zq (qC s a)).1.2.2))]] from by rfl)) ?_
  refine qA<|qL qD [.k1,.d,.k1,.d,.n,.d] [pb 1 52 [(iv ((zq (qC s a)).1.1)),(iv ((zq (qC s a)).1.2.1)),(iv ((zq (qC s a)).1.2.2))]] ?_
  rw [show qS s a=(0,(zq (qC s a)).1,qB s a+(qC s a).length) from if_pos h1,if_pos rfl]
  exact zN hc0 [2] [0,1] (hbk:=by exact oc rfl (oz))
 refine qX (bf h1)<|qA<|ZG qD [] (bfr [(0,0),(0,1),(0,2),(0,3),(0,0),(4,1),(0,6),(0,7),(0,8),(0,9)]) [([32],[0]),([34],[32]),([36],[34]),([38],[1,36]),([40],[10]),([42],[40,163]),([44],[38,42]),([46],[32]),([48],[46]),([1],[1,44,48])] [.k5,.d,.d,.n,.r] [pb 0 98 [(sv (st s)),(iv (((qB s a:Nat):Int)+((zq (qC s a)).2.2))),(iv k)]] (oi (((qB s a:Nat):Int)+((zq (qC s a)).2.2)) (by omega) oz) ?_
 have hcs:(qB s a:Int)+(zq (qC s a)).2.2=((qB s a+(zq (qC s a)).2.2.toNat:Nat):Int):=by omega
 refine qx (Wk.eq (show _=[ps 0 (.opt 0 0),ps 2 (.opt 1 0),ps 3 (sv (st (qC s a))),ps 4 (.opt 73 0),ps 5 (.opt 81 0),pb 0 98 (r3 s (qB s a+(zq (qC s a)).2.2.toNat) k),pb 1 52 [(iv 0),(iv 0),(iv 0)],pb 73 52 [(iv ((zq (qC s a)).1.1)),(iv ((zq (qC s a)).1.2.1)),(iv ((zq (qC s a)).1.2.2))],pb 81 33 [(iv ((zq (qC s a)).2.1)),(iv ((zq (qC s a)).2.2))]] from by rw [hcs])) ?_
 rw [show qS s a=((zq (qC s a)).2.1,(0,0,0),qB s a+(zq (qC s a)).2.2.toNat) from if_neg h1,if_neg h1]
 exact vM qD [(3,.call [0] [(.opt 0 0),(iv ((zq (qC s a)).2.1))] [some (98,(r3 s (qB s a+(zq (qC s a)).2.2.toNat) k))] (.av (yz ((zq (qC s a)).2.1) ((qB s a+(zq (qC s a)).2.2.toNat:Nat):Int))) [none])] [] 3 [] (QK [0] 233 (yV s (qB s a+(zq (qC s a)).2.2.toNat) k ((zq (qC s a)).2.1)) oz) (fun cx_ a_ hI_=>zW hc0 hI_)
theorem duo {α:Type} {x:α} {m n:Nat} (h:m=n):(x,m)=(x,n):=by rw [h]
theorem tri {α β:Type} {x:α} {y:β} {m n:Nat} (h:m=n):(x,y,m)=(x,y,n):=by rw [h]
theorem QC (s:qJ) (a:Nat) (k:Int) (hs:s.length≤65536) (hr:Rdy s) (ha:a≤s.length):PO Tryz.prog 142 [(.opt 0 0)] [some (98,(r3 s a k))] (if (zv s a).1=0 then .ret (sv (st ((zv s a).2.1))) [some (98,(r3 s ((zv s a).2.2) k))] else .pan (yz (zv s a).1 (((zv s a).2.2:Nat):Int)) [none]):=by
 refine jJ Tryz.func142 rfl (by kernel_rfl) (QT (Nat.le_of_ble_eq_true rfl) (Nat.le_of_ble_eq_true rfl)) (by kernel_rfl) (l0:=[ps 0 (.opt 0 0),pb 0 98 (r3 s a k)]) rfl (fun c0 Bor hc0=>?_)
 refine qA<|qL qD [.r] []<|qA<|qA ?_
 by_cases h1:(qv s a 34)=true
 ·refine T_r1 qD 1 [ps 0 (.opt 0 0),ps 9 (bv false),pb 0 98 (r3 s (qB s a+1) k)] (wM [0] 17 (ZS (jG s a k 34 hs (by omega)) h1) oz)<|zD (b:=false) rfl rfl<|qF<|qA ?_
  have hlt:=yA h1
  refine qL qD [.k1,.n,.d,.r] [ps 3 (nv (qB s a+1))]<|qA<|qL qD [.k2,.n,.r] [ps 4 (iv 0)]<|zI<|vW (α:={x:Nat × Nat // (qB s a+1)≤x.1∧x.1≤s.length∧x.2≤100∧(wq (s.drop (qB s a+1)) 0)=((wq (s.drop x.1) x.2).1,x.1-(qB s a+1)+(wq (s.drop x.1) x.2).2)}) (fun x=>[ps 0 (.opt 0 0),ps 3 (nv (qB s a+1)),ps 4 (nv x.1.2),pb 0 98 (r3 s x.1.1 k)]) (fun x=>s.length-x.1.1) 1 ⟨((qB s a+1),0),⟨Nat.le_refl _,hlt,Nat.zero_le _,Prod.ext rfl (by dsimp only;omega)⟩⟩ (Wk.ren2 _ 1 hc0 [0] rfl rfl (by kernel_rfl) (by kernel_rfl)) ?_
  rintro ⟨⟨b,n⟩,⟨hb0,hb1,hn,hl⟩⟩
  dsimp only at hb0 hb1 hn hl
  refine qA<|zI<|qA ?_
  have hdl:=jy (s.drop b)
  rw [List.length_drop] at hdl
  refine jQ qD [(8,.val (.av (.string (st (s.drop b))))),(9,.call [] [(sv (st (s.drop b)))] [] (.tup [(.av (.int .i32 (zS (s.drop b):Int))),(nv (zB (s.drop b)))]) [])] (bfr [(0,0),(0,1),(0,2),(0,3),(0,0),(4,1),(4,2),(4,3),(0,8),(0,9),(0,10),(0,11),(0,11),(0,12),(0,14)]) [([34],[0]),([36],[34]),([38],[36]),([40],[1,38]),([42],[0]),([44],[42]),([46],[44]),([48],[1,46]),([50],[40,48]),([52],[50]),([32],[52]),([54],[32]),([56],[32]),([10],[54]),([12],[56])] [ps 0 (.opt 0 0),ps 3 (nv (qB s a+1)),ps 4 (nv n),ps 5 (.av (.int .i32 (zS (s.drop b):Int))),ps 6 (nv (zB (s.drop b))),pb 0 98 (r3 s b k)] (oc (by first|omega|(simp <;> omega):(0:Int)≤(b:Int)∧(b:Int)≤(s.length:Int)∧(s.length:Int)≤(s.length:Int)) (oc (QQ _ _ _ rfl:(st s).extract (((b:Nat):Int):Int).toNat (((s.length:Nat):Int):Int).toNat=st (s.drop b)) (zY 73 (qbv (s.drop b)) oz)))<|qA<|qA ?_
  by_cases h2:(zB (s.drop b):Int)=1
  ·by_cases h3:(zS (s.drop b):Int)=34
   ·refine zE qD (gy 3 2++[(5,.yes true)]++gy 7 2++[(9,.yes true)]) [.k5,.n,.r] [ps 38 (bv (decide (0<(n:Int))))] (oc (decide_eq_true h2) (oc (decide_eq_true h2) (oc (decide_eq_true h2) (oc (decide_eq_true h3) (oc (decide_eq_true h3) (oc (decide_eq_true h3) oz)))))) ?_
    by_cases h4:0<(n:Int)
    ·refine qX (decide_eq_true h4)<|qA<|zE qD [] [.k2,.d,.d,.d,.d,.d,.n] [pb 0 98 [(sv (st s)),(iv (((b:Nat):Int)+1)),(iv k)]] (oi (((b:Nat):Int)+1) (by omega) oz)<|qx (Wk.eq (show _=[ps 0 (.opt 0 0),ps 3 (nv (qB s a+1)),pb 0 98 (r3 s (b+1) k)] from by rfl)) ?_
     refine qA<|ZG qD [(10,.val (.av (.string (st ((s.drop (qB s a+1)).take (b-(qB s a+1)))))))] (bfr [(0,0),(0,1),(0,2),(0,3),(0,0),(0,0),(5,1),(5,2),(5,3),(5,4),(0,10),(0,11)]) [([92],[0]),([94],[92]),([96],[94]),([98],[1,96]),([100],[6]),([102],[0]),([104],[102]),([106],[104]),([108],[1,106]),([110],[108]),([112],[98,100,110]),([4],[112])] [.d,.n,.d,.r] [ps 2 (sv (st ((s.drop (qB s a+1)).take (b-(qB s a+1)))))] (oi (((b+1:Nat):Int)-1) (by omega) (oc (by first|omega|(simp <;> omega):(0:Int)≤(((qB s a+1):Nat):Int)∧(((qB s a+1):Nat):Int)≤(((b+1:Nat):Int)-1)∧(((b+1:Nat):Int)-1)≤(s.length:Int)) (oc (by rw [qdd,show (((qB s a+1):Nat):Int).toNat=(qB s a+1) from rfl,show (((b+1:Nat):Int)-1).toNat-(qB s a+1)=b-(qB s a+1) by omega]:(st s).extract ((((qB s a+1):Nat):Int):Int).toNat ((((b+1:Nat):Int)-1):Int).toNat=st ((s.drop (qB s a+1)).take (b-(qB s a+1)))) oz))) ?_
     have hen:=qal (l:=(s.drop b)) (n:=n) (by omega)
     rw [hen] at hl
     have hR:zv s a=(0,(s.drop (qB s a+1)).take (b-(qB s a+1)),b+1):=by unfold zv;rw [if_pos h1,hl,if_pos rfl];exact tri (by dsimp only;omega)
     rw [hR,if_pos rfl]
     exact wV fun cx_ a_ hI_=>yv (rt hc0 [ps 2 (sv (st ((s.drop (qB s a+1)).take (b-(qB s a+1))))),pb 0 98 (r3 s (b+1) k)] [0] hI_ (hbk:=by exact oc rfl (oz)))
    refine qW (decide_eq_false h4)<|qF<|qA<|qA<|yJ qD 2 [.k3,.d,.k1,.d,.n,.r] [ps 60 (bv (!(vK (zS (s.drop b):Int) (zB (s.drop b):Int))))] (zY 217 (qct _ _:PC Tryz.prog 120 [(.av (.int .i32 (zS (s.drop b):Int))),(nv (zB (s.drop b)))] [] (bv (vK (zS (s.drop b):Int) (zB (s.drop b):Int))) []) oz) ?_
    by_cases h5:(vK (zS (s.drop b):Int) (zB (s.drop b):Int))=true
    ·refine qW (congrArg Bool.not h5)<|qF<|qA<|qA<|qL qD [.k4,.d,.n,.r] [ps 64 (bv (decide (((n:Nat):Int)=100)))] ?_
     by_cases h6:(n:Int)=100
     ·refine qX (decide_eq_true h6) ?_
      have hne:¬ (zB (s.drop b)=1∧zS (s.drop b)=34∧0<n):=by omega
      have hbd:=ZY (l:=(s.drop b)) (n:=n) hne h5 (by omega)
      rw [hbd] at hl
      have hR:zv s a=(4,[],b):=by unfold zv;rw [if_pos h1,hl,if_neg (by show ¬ ((4:Int)=0);decide)];exact tri (by dsimp only;omega)
      rw [hR,if_neg (by show ¬ ((4:Int)=0);decide)]
      exact vM qD [(1,.call [0] [(.opt 0 0),(iv 4)] [some (98,(r3 s b k))] (.av (yz 4 (b:Int))) [none])] [] 1 [] (QK [0] 257 (yV s b k 4) oz) (fun cx_ a_ hI_=>vk (zW hc0 hI_))
     refine qW (decide_eq_false h6)<|qF<|zE qD [] [.k3,.d,.d,.d,.n] [pb 0 98 [(sv (st s)),(iv (((b:Nat):Int)+(zB (s.drop b):Int))),(iv k)]] (oi (((b:Nat):Int)+(zB (s.drop b):Int)) (by omega) oz)<|zM<|zE qD [] [.k2,.d,.n,.r] [ps 4 (iv (((n:Nat):Int)+1))] (oi (((n:Nat):Int)+1) (by omega) oz) ?_
     have hne:¬ (zB (s.drop b)=1∧zS (s.drop b)=34∧0<n):=by omega
     have hnx:=QZ (l:=(s.drop b)) (n:=n) hne h5 (by omega)
     rw [List.drop_drop] at hnx
     have hps:=Vk (l:=(s.drop b)) h5
     exact vH ⟨(b+zB (s.drop b),n+1),⟨by show (qB s a+1)≤b+_;omega,by show b+_≤s.length;omega,by show n+1≤100;omega,by rw [hl,hnx];exact duo (by dsimp only;omega)⟩⟩ (Wk.trans (Wk.eq (show _=[ps 0 (.opt 0 0),ps 3 (nv (qB s a+1)),ps 4 (nv (n+1)),pb 0 98 (r3 s (b+zB (s.drop b)) k)] from by rfl)) (Wk.ren2 _ 1 hc0 [0] rfl rfl (by kernel_rfl) (by kernel_rfl))) (show s.length-(b+zB (s.drop b))<s.length-b from by show s.length-(b+zB (s.drop b))<s.length-b;omega)
    refine qX (congrArg Bool.not (Bool.eq_false_iff.2 h5)) ?_
    have hne:¬ (zB (s.drop b)=1∧zS (s.drop b)=34∧0<n):=by omega
    have hbd:=ZZ (l:=(s.drop b)) (n:=n) hne h5
    rw [hbd] at hl
    have hR:zv s a=(2,[],b):=by unfold zv;rw [if_pos h1,hl,if_neg (by show ¬ ((2:Int)=0);decide)];exact tri (by dsimp only;omega)
    rw [hR,if_neg (by show ¬ ((2:Int)=0);decide)]
    exact vM qD [(1,.call [0] [(.opt 0 0),(iv 2)] [some (98,(r3 s b k))] (.av (yz 2 (b:Int))) [none])] [] 1 [] (QK [0] 241 (yV s b k 2) oz) (fun cx_ a_ hI_=>vk (zW hc0 hI_))
   refine zE qD (gy 3 2++[(5,.yes true)]++gn 7 2++[(9,.yes false)]) [.k5,.n,.r] [ps 38 (bv false)] (oc (decide_eq_true h2) (oc (decide_eq_true h2) (oc (decide_eq_true h2) (oc (decide_eq_false h3) (oc (decide_eq_false h3) (oc (decide_eq_false h3) oz))))))<|zD (b:=false) rfl rfl<|qF<|qA<|qA<|yJ qD 2 [.k3,.d,.k1,.d,.n,.r] [ps 60 (bv (!(vK (zS (s.drop b):Int) (zB (s.drop b):Int))))] (zY 217 (qct _ _:PC Tryz.prog 120 [(.av (.int .i32 (zS (s.drop b):Int))),(nv (zB (s.drop b)))] [] (bv (vK (zS (s.drop b):Int) (zB (s.drop b):Int))) []) oz) ?_
   by_cases h7:(vK (zS (s.drop b):Int) (zB (s.drop b):Int))=true
   ·refine qW (congrArg Bool.not h7)<|qF<|qA<|qA<|qL qD [.k4,.d,.n,.r] [ps 64 (bv (decide (((n:Nat):Int)=100)))] ?_
    by_cases h8:(n:Int)=100
    ·refine qX (decide_eq_true h8) ?_
     have hne:¬ (zB (s.drop b)=1∧zS (s.drop b)=34∧0<n):=by omega
     have hbd:=ZY (l:=(s.drop b)) (n:=n) hne h7 (by omega)
     rw [hbd] at hl
     have hR:zv s a=(4,[],b):=by unfold zv;rw [if_pos h1,hl,if_neg (by show ¬ ((4:Int)=0);decide)];exact tri (by dsimp only;omega)
     rw [hR,if_neg (by show ¬ ((4:Int)=0);decide)]
     exact vM qD [(1,.call [0] [(.opt 0 0),(iv 4)] [some (98,(r3 s b k))] (.av (yz 4 (b:Int))) [none])] [] 1 [] (QK [0] 257 (yV s b k 4) oz) (fun cx_ a_ hI_=>vk (zW hc0 hI_))
    refine qW (decide_eq_false h8)<|qF<|zE qD [] [.k3,.d,.d,.d,.n] [pb 0 98 [(sv (st s)),(iv (((b:Nat):Int)+(zB (s.drop b):Int))),(iv k)]] (oi (((b:Nat):Int)+(zB (s.drop b):Int)) (by omega) oz)<|zM<|zE qD [] [.k2,.d,.n,.r] [ps 4 (iv (((n:Nat):Int)+1))] (oi (((n:Nat):Int)+1) (by omega) oz) ?_
    have hne:¬ (zB (s.drop b)=1∧zS (s.drop b)=34∧0<n):=by omega
    have hnx:=QZ (l:=(s.drop b)) (n:=n) hne h7 (by omega)
    rw [List.drop_drop] at hnx
    have hps:=Vk (l:=(s.drop b)) h7
    exact vH ⟨(b+zB (s.drop b),n+1),⟨by show (qB s a+1)≤b+_;omega,by show b+_≤s.length;omega,by show n+1≤100;omega,by rw [hl,hnx];exact duo (by dsimp only;omega)⟩⟩ (Wk.trans (Wk.eq (show _=[ps 0 (.opt 0 0),ps 3 (nv (qB s a+1)),ps 4 (nv (n+1)),pb 0 98 (r3 s (b+zB (s.drop b)) k)] from by rfl)) (Wk.ren2 _ 1 hc0 [0] rfl rfl (by kernel_rfl) (by kernel_rfl))) (show s.length-(b+zB (s.drop b))<s.length-b from by show s.length-(b+zB (s.drop b))<s.length-b;omega)
   refine qX (congrArg Bool.not (Bool.eq_false_iff.2 h7)) ?_
   have hne:¬ (zB (s.drop b)=1∧zS (s.drop b)=34∧0<n):=by omega
   have hbd:=ZZ (l:=(s.drop b)) (n:=n) hne h7
   rw [hbd] at hl
   have hR:zv s a=(2,[],b):=by unfold zv;rw [if_pos h1,hl,if_neg (by show ¬ ((2:Int)=0);decide)];exact tri (by dsimp only;omega)
   rw [hR,if_neg (by show ¬ ((2:Int)=0);decide)]
   exact vM qD [(1,.call [0] [(.opt 0 0),(iv 2)] [some (98,(r3 s b k))] (.av (yz 2 (b:Int))) [none])] [] 1 [] (QK [0] 241 (yV s b k 2) oz) (fun cx_ a_ hI_=>vk (zW hc0 hI_))
  refine zE qD (gn 3 2++[(5,.yes false)]++gn 7 2) [.k5,.n,.r] [ps 38 (bv false)] (oc (decide_eq_false h2) (oc (decide_eq_false h2) (oc (decide_eq_false h2) (on 2 ff oz))))<|zD (b:=false) rfl rfl<|qF<|qA<|qA<|yJ qD 2 [.k3,.d,.k1,.d,.n,.r] [ps 60 (bv (!(vK (zS (s.drop b):Int) (zB (s.drop b):Int))))] (zY 217 (qct _ _:PC Tryz.prog 120 [(.av (.int .i32 (zS (s.drop b):Int))),(nv (zB (s.drop b)))] [] (bv (vK (zS (s.drop b):Int) (zB (s.drop b):Int))) []) oz) ?_
  by_cases h9:(vK (zS (s.drop b):Int) (zB (s.drop b):Int))=true
  ·refine qW (congrArg Bool.not h9)<|qF<|qA<|qA<|qL qD [.k4,.d,.n,.r] [ps 64 (bv (decide (((n:Nat):Int)=100)))] ?_
   by_cases h10:(n:Int)=100
   ·refine qX (decide_eq_true h10) ?_
    have hne:¬ (zB (s.drop b)=1∧zS (s.drop b)=34∧0<n):=by omega
    have hbd:=ZY (l:=(s.drop b)) (n:=n) hne h9 (by omega)
    rw [hbd] at hl
    have hR:zv s a=(4,[],b):=by unfold zv;rw [if_pos h1,hl,if_neg (by show ¬ ((4:Int)=0);decide)];exact tri (by dsimp only;omega)
    rw [hR,if_neg (by show ¬ ((4:Int)=0);decide)]
    exact vM qD [(1,.call [0] [(.opt 0 0),(iv 4)] [some (98,(r3 s b k))] (.av (yz 4 (b:Int))) [none])] [] 1 [] (QK [0] 257 (yV s b k 4) oz) (fun cx_ a_ hI_=>vk (zW hc0 hI_))
   refine qW (decide_eq_false h10)<|qF<|zE qD [] [.k3,.d,.d,.d,.n] [pb 0 98 [(sv (st s)),(iv (((b:Nat):Int)+(zB (s.drop b):Int))),(iv k)]] (oi (((b:Nat):Int)+(zB (s.drop b):Int)) (by omega) oz)<|zM<|zE qD [] [.k2,.d,.n,.r] [ps 4 (iv (((n:Nat):Int)+1))] (oi (((n:Nat):Int)+1) (by omega) oz) ?_
   have hne:¬ (zB (s.drop b)=1∧zS (s.drop b)=34∧0<n):=by omega
   have hnx:=QZ (l:=(s.drop b)) (n:=n) hne h9 (by omega)
   rw [List.drop_drop] at hnx
   have hps:=Vk (l:=(s.drop b)) h9
   exact vH ⟨(b+zB (s.drop b),n+1),⟨by show (qB s a+1)≤b+_;omega,by show b+_≤s.length;omega,by show n+1≤100;omega,by rw [hl,hnx];exact duo (by dsimp only;omega)⟩⟩ (Wk.trans (Wk.eq (show _=[ps 0 (.opt 0 0),ps 3 (nv (qB s a+1)),ps 4 (nv (n+1)),pb 0 98 (r3 s (b+zB (s.drop b)) k)] from by rfl)) (Wk.ren2 _ 1 hc0 [0] rfl rfl (by kernel_rfl) (by kernel_rfl))) (show s.length-(b+zB (s.drop b))<s.length-b from by show s.length-(b+zB (s.drop b))<s.length-b;omega)
  refine qX (congrArg Bool.not (Bool.eq_false_iff.2 h9)) ?_
  have hne:¬ (zB (s.drop b)=1∧zS (s.drop b)=34∧0<n):=by omega
  have hbd:=ZZ (l:=(s.drop b)) (n:=n) hne h9
  rw [hbd] at hl
  have hR:zv s a=(2,[],b):=by unfold zv;rw [if_pos h1,hl,if_neg (by show ¬ ((2:Int)=0);decide)];exact tri (by dsimp only;omega)
  rw [hR,if_neg (by show ¬ ((2:Int)=0);decide)]
  exact vM qD [(1,.call [0] [(.opt 0 0),(iv 2)] [some (98,(r3 s b k))] (.av (yz 2 (b:Int))) [none])] [] 1 [] (QK [0] 241 (yV s b k 2) oz) (fun cx_ a_ hI_=>vk (zW hc0 hI_))
 refine T_r1 qD 1 [ps 0 (.opt 0 0),ps 9 (bv true),pb 0 98 (r3 s (qB s a) k)] (wM [0] 17 (WF (jG s a k 34 hs (by omega)) h1) oz)<|qU (b:=true) rfl rfl<|qA<|qL qD [.d,.n,.d,.r] [ps 2 se] ?_
 rw [show zv s a=(0,[],qB s a) from if_neg h1,if_pos rfl]
 exact zN hc0 [2] [0] (hbk:=by exact oc rfl (oz))
theorem group_step (s:qJ) (hs:s.length≤65536) (hr:Rdy s) (lv:Int) (hlv:0≤lv∧lv≤31) (a k:Nat) (ha:a≤s.length) (hk:k≤4095) (ihi:∀ (b q:Nat),q≤k→b≤s.length→PO Tryz.prog 109 [.opt 0 0,iv (lv+1)] [some (98,[sv (st s),nv b,nv q])] (if (qZ s (lv+1) b q).1=0 then .ret (.agg (gI (qZ s (lv+1) b q).2.1)) [some (98,[sv (st s),nv (qZ s (lv+1) b q).2.2.1,nv (qZ s (lv+1) b q).2.2.2]),none] else .pan (yz (qZ s (lv+1) b q).1 (((qZ s (lv+1) b q).2.2.1:Nat):Int)) [none])):PO Tryz.prog 140 [(.opt 0 0),(iv lv)] [some (98,(vC s a k))] (if (yP s lv a k).1=0 then .ret (.ssl (zT ((yP s lv a k).2.1)) 0 ((yP s lv a k).2.1.length)) [some (98,(vC s ((yP s lv a k).2.2.1) ((yP s lv a k).2.2.2)))] else .pan (yz ((yP s lv a k).1) (((yP s lv a k).2.2.1:Nat):Int)) [none]):=by
 refine jJ Tryz.func140 rfl (by kernel_rfl) (QT (Nat.le_of_ble_eq_true rfl) (Nat.le_of_ble_eq_true rfl)) (by kernel_rfl) (l0:=[ps 0 (.opt 0 0),ps 1 (iv lv),pb 0 98 (vC s a k)]) rfl (fun c0 Bor hc0=>?_)
 refine qA<|qL qD [.r] []<|qA ?_
 by_cases h1:(qv s a 91)=true
 ·refine vX qD 1 [.k2,.d,.n] [pb 0 98 (vC s (qB s a+1) k)] (wM [0] 17 (wv (qco s a (k:Int) 91 hs (by omega)) h1) oz)<|qA<|qL qD [.k2,.n,.r] [ps 5 sn]<|zI<|qx (Wk.nil (s:=5) 50 (by kernel_rfl))<|qx (Wk.less (l':=[ps 0 (.opt 0 0),ps 1 (iv lv),ps 5 (.osl 33 0 0),pb 0 98 (vC s (qB s a+1) k),pb 33 50 []]) 34 (by kernel_rfl) (by kernel_rfl)) ?_
  have hlt:=yA h1
  refine qx (Wk.eq (show _=[ps 0 (.opt 0 0),ps 1 (iv lv),ps 5 (.osl 33 0 (([]:List It).length)),pb 0 98 (vC s (qB s a+1) k),pb 33 50 (zT ([]:List It))] from by rfl)) ?_
  refine vW (α:={x:List It × Nat × Nat // x.2.1≤s.length∧x.1.length+x.2.2≤k∧grL s lv x.1 x.2.1 x.2.2=grL s lv [] (qB s a+1) k}) (fun x=>[ps 0 (.opt 0 0),ps 1 (iv lv),ps 5 (.osl 1 0 x.1.1.length),pb 0 98 (vC s x.1.2.1 x.1.2.2),pb 1 50 (zT x.1.1)]) (fun x=>x.1.2.2) 2 ⟨([],qB s a+1,k),⟨hlt,Nat.le_of_eq (Nat.zero_add _),rfl⟩⟩ (Wk.ren3 _ 1 hc0 [0,33] [(kb 1,(zT ([]:List It)))] (oc (ZN _) (oz)) (by kernel_rfl) rfl rfl (by kernel_rfl) (by kernel_rfl)) ?_
  rintro ⟨⟨l,b,q⟩,⟨hb,hq,hg⟩⟩
  dsimp only at hb hq hg
  refine zI<|qA ?_
  by_cases h2:(qZ s (lv+1) b q).1=0
  ·refine zU qD [(4,.call [0] [(.opt 0 0),(iv (lv+1))] [some (98,(vC s b q))] (.agg [(iv (iK ((qZ s (lv+1) b q).2.1))),(iv (iS ((qZ s (lv+1) b q).2.1))),(.ssl (yI (iP ((qZ s (lv+1) b q).2.1))) 0 ((iP ((qZ s (lv+1) b q).2.1)).length)),(iv ((iB ((qZ s (lv+1) b q).2.1)).1)),(iv ((iB ((qZ s (lv+1) b q).2.1)).2)),(sv (st (iL ((qZ s (lv+1) b q).2.1)))),(.ssl (zT (iC ((qZ s (lv+1) b q).2.1))) 0 ((iC ((qZ s (lv+1) b q).2.1)).length))]) [some (98,(vC s ((qZ s (lv+1) b q).2.2.1) ((qZ s (lv+1) b q).2.2.2))),none]),(6,.app none (some (zT (l++[(qZ s (lv+1) b q).2.1]))))] [ps 0 (.opt 0 0),ps 1 (iv lv),ps 5 (.osl 50 0 (l.length+1)),pb 0 98 (vC s ((qZ s (lv+1) b q).2.2.1) ((qZ s (lv+1) b q).2.2.2)),pb 50 50 (zT (l++[(qZ s (lv+1) b q).2.1]))] (oi (lv+1) (by omega) (wM [0] 34 (wv (ihi b q (by omega) (by omega)) h2) (oc (ics_len _:((zT l)).length=l.length*7) (oc (by omega:(l.length+1)*96≤140737488355328∧l.length+1≤9223372036854775807) (oc (qjt l _:(zT l)++[(iv (iK ((qZ s (lv+1) b q).2.1))),(iv (iS ((qZ s (lv+1) b q).2.1))),(.ssl (yI (iP ((qZ s (lv+1) b q).2.1))) 0 ((iP ((qZ s (lv+1) b q).2.1)).length)),(iv ((iB ((qZ s (lv+1) b q).2.1)).1)),(iv ((iB ((qZ s (lv+1) b q).2.1)).2)),(sv (st (iL ((qZ s (lv+1) b q).2.1)))),(.ssl (zT (iC ((qZ s (lv+1) b q).2.1))) 0 ((iC ((qZ s (lv+1) b q).2.1)).length))]=(zT (l++[(qZ s (lv+1) b q).2.1]))) oz)))))<|qA ?_
   have hie:=Vz (lv:=lv+1) (k:=q) hb h2
   by_cases h3:(qv s ((qZ s (lv+1) b q).2.2.1) 93)=true
   ·refine vX qD 1 [.k3,.n,.d,.n,.r] [ps 16 (bv true),pb 0 98 (vC s (qB s ((qZ s (lv+1) b q).2.2.1)+1) ((qZ s (lv+1) b q).2.2.2))] (wM [0] 74 (ZS (jG s ((qZ s (lv+1) b q).2.2.1) (((qZ s (lv+1) b q).2.2.2:Nat):Int) 93 hs (by omega)) h3) oz)<|qU (b:=true) rfl rfl<|qA<|qL qD [.d,.d,.n,.d,.d,.r] [ps 4 (.osl 50 0 (l.length+1))] ?_
    rw [show yP s lv a k=(0,l++[(qZ s (lv+1) b q).2.1],qB s (qZ s (lv+1) b q).2.2.1+1,(qZ s (lv+1) b q).2.2.2) from by rw [VH,if_pos h1,← hg,grL_ok h2 h3],if_pos rfl]
    refine qx (Wk.eq (show _=[ps 4 (.osl 50 0 ((l++[(qZ s (lv+1) b q).2.1]).length)),pb 0 98 (vC s (qB s ((qZ s (lv+1) b q).2.2.1)+1) ((qZ s (lv+1) b q).2.2.2)),pb 50 50 (zT (l++[(qZ s (lv+1) b q).2.1]))] from by rw [List.length_append];rfl)) ?_
    refine qx (Wk.frz (l':=[ps 4 (.ssl (zT (l++[(qZ s (lv+1) b q).2.1])) 0 ((l++[(qZ s (lv+1) b q).2.1]).length)),pb 0 98 (vC s (qB s ((qZ s (lv+1) b q).2.2.1)+1) ((qZ s (lv+1) b q).2.2.2)),(kb 50,none)]) 50 (T:=50) (cs:=(zT (l++[(qZ s (lv+1) b q).2.1]))) (by kernel_rfl) (ZN _) (by kernel_rfl))<|qx (Wk.less (l':=[ps 4 (.ssl (zT (l++[(qZ s (lv+1) b q).2.1])) 0 ((l++[(qZ s (lv+1) b q).2.1]).length)),pb 0 98 (vC s (qB s ((qZ s (lv+1) b q).2.2.1)+1) ((qZ s (lv+1) b q).2.2.2))]) 98 (by kernel_rfl) (by kernel_rfl)) ?_
    exact wV fun cx_ a_ hI_=>yv (rt hc0 [ps 4 (.ssl (zT (l++[(qZ s (lv+1) b q).2.1])) 0 ((l++[(qZ s (lv+1) b q).2.1]).length)),pb 0 98 (vC s (qB s ((qZ s (lv+1) b q).2.2.1)+1) ((qZ s (lv+1) b q).2.2.2))] [0] hI_ (hbk:=by exact oc rfl (oz)))
   refine vX qD 1 [.k3,.n,.d,.n,.r] [ps 16 (bv false),pb 0 98 (vC s (qB s ((qZ s (lv+1) b q).2.2.1)) ((qZ s (lv+1) b q).2.2.2))] (wM [0] 74 (WF (jG s ((qZ s (lv+1) b q).2.2.1) (((qZ s (lv+1) b q).2.2.2:Nat):Int) 93 hs (by omega)) h3) oz)<|zD (b:=false) rfl rfl<|qF<|zM ?_
   exact vH ⟨(l++[(qZ s (lv+1) b q).2.1],qB s (qZ s (lv+1) b q).2.2.1,(qZ s (lv+1) b q).2.2.2),⟨yR hie.1.2,by have:=hie.2;simp only [List.length_append,List.length_singleton];omega,by rw [qjx (by omega) h2 h3] at hg;exact hg⟩⟩ (Wk.trans (Wk.eq (show _=[ps 0 (.opt 0 0),ps 1 (iv lv),ps 5 (.osl 50 0 ((l++[(qZ s (lv+1) b q).2.1]).length)),ps 16 (bv false),pb 0 98 (vC s (qB s ((qZ s (lv+1) b q).2.2.1)) ((qZ s (lv+1) b q).2.2.2)),pb 50 50 (zT (l++[(qZ s (lv+1) b q).2.1]))] from by rw [List.length_append];rfl)) (Wk.ren3 _ 1 hc0 [0,50] [(kb 1,(zT (l++[(qZ s (lv+1) b q).2.1])))] (oc (ZN _) (oz)) (by kernel_rfl) rfl rfl (by kernel_rfl) (by kernel_rfl))) (show ((qZ s (lv+1) b q).2.2.2)<q from hie.2)
  rw [show yP s lv a k=((qZ s (lv+1) b q).1,[],(qZ s (lv+1) b q).2.2.1,0) from by rw [VH,if_pos h1,← hg,grL_no h2],if_neg h2]
  exact vM qD [(4,.call [0] [(.opt 0 0),(iv (lv+1))] [some (98,(vC s b q))] (.av (yz ((qZ s (lv+1) b q).1) (((qZ s (lv+1) b q).2.2.1:Nat):Int))) [none])] [5,6,7] 4 [] (oi (lv+1) (by omega) (QK [0] 34 (wQ (ihi b q (by omega) (by omega)) h2) oz)) (fun cx_ a_ hI_=>vk (zW hc0 hI_))
 rw [show yP s lv a k=(2,[],qB s a,0) from by rw [VH,if_neg h1],if_neg (by show ¬ ((2:Int)=0);decide)]
 exact vM qD [(1,.call [0] [(.opt 0 0),(.av (.int .u8 91))] [some (98,(vC s a k))] (.av (yz 2 (qB s a:Int))) [none])] [] 1 [] (QK [0] 17 (wQ (qco s a (k:Int) 91 hs (by omega)) h1) oz) (fun cx_ a_ hI_=>zW hc0 hI_)
end Go.Proofs.YtmlnilkbolcknaaGreatDoor.Pm
