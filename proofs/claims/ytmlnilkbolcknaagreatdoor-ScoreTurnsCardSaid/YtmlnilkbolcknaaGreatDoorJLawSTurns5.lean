/-
  INTERVALS AS TEXTS: read: walk. (Printed by wip/pm.) | CHORDS: plain,for the walks of their notes. No program in sight. | SCORE: a text read: items: walk. (Printed by wip/pm.) | SCORE: a text read: bars and voices: walks. (Printed by wip/pm.) | THE VALUE MACHINE (DF): a function that puts off one call of a literal that recovers,with its two result cells lent to it. No program in sight. | SCORE: a text read: the literal,the voices: walks. (Printed by wip/pm.) | SCORE: plain: what is read ends in no place,or in no piece;endings that hand on what is known. No program in sight. | SCORE: a text read: the whole. (Printed by wip/pm.) | SCORE: the law: what is written is read. (Printed by wip/pm.) | THE VALUE MACHINE (Open): whatever came in,by its type: numbers,truth values,floats,strings,slices and structs of such,as deep as they are. | What came in,at its types: lists of numbers,lists of such;how much they hold. | SCORE: items,bars,voices that came in. | TEXTS: pitches and intervals that came in.
-/
import Derived.Test.YtmlnilkbolcknaaGreatDoorJLawSTurns3
import Derived.Test.YtmlnilkbolcknaaGreatDoorJLawSTurns2
import Derived.Test.YtmlnilkbolcknaaGreatDoorJLawSTurns4
import Derived.Recover
set_option linter.unusedVariables false
set_option linter.unusedSimpArgs false
set_option linter.deprecated false
set_option maxRecDepth 100000
set_option maxHeartbeats 4000000
namespace Go.Proofs.YtmlnilkbolcknaaGreatDoor.Pm
open Go Go.Proofs.YtmlnilkbolcknaaGreatDoor.Pi
theorem named_pc0 (s:List UInt8) (hs:s.length≤9223372036854775807):PC Tryz.prog 139 [(sv (st s))] [] (.tup [(.agg [(iv ((zX s).1.1)),(iv ((zX s).1.2))]),(iv ((zX s).2))]) [none]:=by
 refine zZ Tryz.func139 rfl (by kernel_rfl) (Nat.le_of_ble_eq_true rfl) (by kernel_rfl) (l0:=[ps 0 (sv (st s))]) rfl (fun c0 Bor hc0=>?_)
 refine qA<|qL qD [.k1,.n,.n] [ps 2 (.opt 0 0),pb 0 41 [(iv 0),(iv 0)]]<|qA ?_
 have hnn:=num_bd (qk s)
 have ht1:=tOf_le s
 have ht2:=dOf_le s
 have ht3:=qOf_le s
 have hnb:=Pi.nat7_range (((qG (qk s)).1-1) % 7)
 refine yJ qD 1 [.k2,.n,.r] [ps 4 (sv (st (wO s)))] (zY 24 (qes s [45]) oz)<|qA<|yJ qD 1 [.k3,.n,.r] [ps 5 (sv (st (qk s)))] (zY 48 (qid (wO s) quals (by decide) qit) oz)<|qA<|zE qD [(6,.val (.av (.string (st (zJ s)))))] [.k4,.n,.r] [ps 6 (sv (st (zJ s)))] (oi ((((wO s).length:Nat):Int)-(((qk s).length:Nat):Int)) (by omega) (oc (by omega:(0:Int)≤(0:Int)∧(0:Int)≤((((wO s).length:Nat):Int)-(((qk s).length:Nat):Int))∧((((wO s).length:Nat):Int)-(((qk s).length:Nat):Int))≤(((wO s).length:Nat):Int)) (oc (q_cut s:(st (wO s)).extract ((0:Int):Int).toNat (((((wO s).length:Nat):Int)-(((qk s).length:Nat):Int)):Int).toNat=st (zJ s)) oz)))<|qA<|yJ qD 1 [.k3,.d,.k1,.n,.n,.r] [ps 7 (iv ((qG (qk s)).1)),ps 8 (bv ((qG (qk s)).2))] (zY 136 (qbp (qk s) (by omega)) oz)<|qA<|qA ?_
 by_cases h1:((qG (qk s)).2)=true
 ·by_cases h2:((qG (qk s)).1)<1
  ·refine zE qD (gn 3 2++[(5,.yes false)]++gy 7 2++[(9,.yes true)]) [.k5,.d,.n,.r] [ps 40 (bv true)] (oc (congrArg Bool.not h1:(!((qG (qk s)).2))=false) (oc (congrArg Bool.not h1:(!((qG (qk s)).2))=false) (oc (congrArg Bool.not h1:(!((qG (qk s)).2))=false) (on 3 (zR h2) oz))))<|qU (b:=true) rfl rfl<|qA<|qL qD [.d,.k1,.n,.d,.d,.d,.d,.r] [ps 3 (iv 2)] ?_
   rw [WO (s:=s) (.inr (.inl h2))]
   exact zN hc0 [2,3] [0]
  refine zE qD (gn 3 2++[(5,.yes false),(7,.gd false .no),(8,.gd false (.val (.av (.bool (decide ((zJ s)=([]:TX))))))),(9,.yes false)]) [.k5,.d,.n,.r] [ps 40 (bv (decide ((zJ s)=([]:TX))))] (oc (congrArg Bool.not h1:(!((qG (qk s)).2))=false) (oc (congrArg Bool.not h1:(!((qG (qk s)).2))=false) (oc (congrArg Bool.not h1:(!((qG (qk s)).2))=false) (on 2 (zP h2) (oc (zj _ _:((st (zJ s)).toList == (st ([]:TX)).toList)=decide ((zJ s)=([]:TX))) (oc (zP h2) oz)))))) ?_
  by_cases h3:(zJ s)=([]:TX)
  ·refine qX (zR h3)<|qA<|qL qD [.d,.k1,.n,.d,.d,.d,.d,.r] [ps 3 (iv 2)] ?_
   rw [WO (s:=s) (.inr (.inr h3))]
   exact zN hc0 [2,3] [0]
  refine qW (zP h3)<|qF<|qA<|qA ?_
  by_cases h4:200<(((qG (qk s)).1)-1)
  ·refine zE qD (gy 4 3++[(7,.yes true)]) [.k5,.d,.n,.r] [ps 49 (bv true)] (oi (((qG (qk s)).1)-1) (by omega) (on 4 (zR h4) oz))<|qU (b:=true) rfl rfl<|qA<|qL qD [.d,.k1,.n,.d,.d,.d,.d,.r] [ps 3 (iv 3)] ?_
   rw [qfm (s:=s) h1 h2 h3 (.inl h4)]
   exact zN hc0 [2,3] [0]
  refine zE qD (gn 4 3++[(7,.yes false)]) [.k5,.d,.n,.r] [ps 49 (bv (decide (6<(((zJ s).length:Nat):Int))))] (oi (((qG (qk s)).1)-1) (by omega) (on 4 (zP h4) oz)) ?_
  by_cases h5:6<(((zJ s).length:Nat):Int)
  ·refine qX (zR h5)<|qA<|qL qD [.d,.k1,.n,.d,.d,.d,.d,.r] [ps 3 (iv 3)] ?_
   rw [qfm (s:=s) h1 h2 h3 (.inr h5)]
   exact zN hc0 [2,3] [0]
  refine qW (zP h5)<|qF<|qA<|zE qD [(2,.call [] [(iv (((qG (qk s)).1)-1)),(iv 7)] [] (.tup [(iv ((((qG (qk s)).1)-1) / 7)),(iv ((((qG (qk s)).1)-1) % 7))]) [])] [.k5,.n,.n,.d,.r] [ps 9 (iv ((((qG (qk s)).1)-1) / 7)),ps 10 (iv ((((qG (qk s)).1)-1) % 7))] (oi (((qG (qk s)).1)-1) (by omega) (zY 344 (ZX (((qG (qk s)).1)-1) (by omega) (by omega)) oz))<|qA<|zE qD [(5,.call [] [(iv ((((qG (qk s)).1)-1) % 7))] [] (iv (Pi.nat7 ((((qG (qk s)).1)-1) % 7))) [])] [.k5,.d,.d,.n,.k1,.n] [ps 11 (.opt 456 0),pb 456 41 [(iv (((qG (qk s)).1)-1)),(iv ((12*((((qG (qk s)).1)-1) / 7))+(Pi.nat7 ((((qG (qk s)).1)-1) % 7))))]] (oi (((qG (qk s)).1)-1) (by omega) (oi (12*((((qG (qk s)).1)-1) / 7)) (by omega) (zY 432 (Qj ((((qG (qk s)).1)-1) % 7)) (oi ((12*((((qG (qk s)).1)-1) / 7))+(Pi.nat7 ((((qG (qk s)).1)-1) % 7))) (by omega) oz))))<|qA<|qL qD [.k6,.n,.r] [ps 12 (nv ((zJ s).length))]<|qA<|zI<|qA<|qA ?_
  by_cases h6:(zJ s)=([80]:TX)
  ·refine zE qD ([(1,.val (.av (.bool (decide ((zJ s)=([80]:TX))))))]++gy 3 2++[(5,.gd true (.call [] [(iv (((qG (qk s)).1)-1))] [] (bv (zL (((qG (qk s)).1)-1))) [])),(6,.yes true)]) [.k7,.n,.r] [ps 68 (bv (zL (((qG (qk s)).1)-1)))] (oc (zj _ _:((st (zJ s)).toList == (st ([80]:TX)).toList)=decide ((zJ s)=([80]:TX))) (on 2 (zR h6) (oi (((qG (qk s)).1)-1) (by omega) (oc (zR h6) (zY 536 (yN (((qG (qk s)).1)-1) (by omega)) (oc (zR h6) oz)))))) ?_
   by_cases h7:(zL (((qG (qk s)).1)-1))=true
   ·refine qU (b:=(zL (((qG (qk s)).1)-1))) rfl h7<|qF<|qU (b:=(zL (((qG (qk s)).1)-1))) rfl h7<|qF<|zM<|qA<|qA<|qL qD [.k2,.d,.d,.d,.k1,.d,.d,.n,.r] [ps 134 (bv (decide ((((wO s).length:Nat):Int)<(s.length:Int))))] ?_
    by_cases h8:(((wO s).length:Nat):Int)<(s.length:Int)
    ·refine qX (zR h8)<|zE qD [] [.k3,.d,.k1,.d,.n] [pb 456 41 [(iv (0-(((qG (qk s)).1)-1))),(iv (0-((12*((((qG (qk s)).1)-1) / 7))+(Pi.nat7 ((((qG (qk s)).1)-1) % 7)))))]] (oi (0-(((qG (qk s)).1)-1)) (by omega) (oi (0-((12*((((qG (qk s)).1)-1) / 7))+(Pi.nat7 ((((qG (qk s)).1)-1) % 7)))) (by omega) oz))<|qA<|qA ?_
     obtain ⟨x,hx⟩:∃ x,x=0-(((qG (qk s)).1)-1):=⟨_,rfl⟩
     obtain ⟨y,hy⟩:∃ y,y=0-((12*((((qG (qk s)).1)-1) / 7))+(Pi.nat7 ((((qG (qk s)).1)-1) % 7))):=⟨_,rfl⟩
     refine qx (Wk.eq (show _=[ps 0 (sv (st s)),ps 2 (.opt 0 0),ps 11 (.opt 456 0),pb 0 41 [(iv 0),(iv 0)],pb 456 41 [(iv x),(iv y)]] from by rw [hx,hy])) ?_
     refine yJ qD 1 [.k3,.n,.n,.r] [ps 13 (sv (st ((qE x y).1))),ps 14 (iv ((qE x y).2))] (zY 688 (zx x y (by unfold Pi.I64;omega) (by unfold Pi.I64;omega)) oz)<|qA ?_
     by_cases h9:((qE x y).2)=0
     ·refine zE qD (gn 3 2++[(5,.gd false (.val (.av (.bool (!decide (((qE x y).1)=s)))))),(6,.yes false)]) [.d,.k2,.d,.d,.n,.r] [ps 154 (bv (!(decide (((qE x y).1)=s))))] (on 3 (bt h9) (oc (zw _ _:(!((st ((qE x y).1)).toList == (st s).toList)) = !decide (((qE x y).1)=s)) (oc (bt h9) oz))) ?_
      by_cases h10:((qE x y).1)=s
      ·refine qW (bt h10)<|qF<|qA<|zU qD [] [ps 2 (.opt 0 0),ps 3 (iv 0),pb 0 41 [(iv x),(iv y)]] (oz) ?_
       rw [(qI (s:=s) h1 h2 h3 h4 h5 (qez h6 h7) (j:=(x,y)) (by unfold vQ qP;rw [if_pos (by omega)];exact Prod.ext (by show _=x;omega) (by show _=y;omega))).trans (zF h9 h10)]
       exact zN hc0 [2,3] [0]
      refine qX (bf h10)<|qA<|qL qD [.k1,.n,.d,.d,.k1,.d] [ps 3 (iv 2)] ?_
      rw [(qI (s:=s) h1 h2 h3 h4 h5 (qez h6 h7) (j:=(x,y)) (by unfold vQ qP;rw [if_pos (by omega)];exact Prod.ext (by show _=x;omega) (by show _=y;omega))).trans (zG h10)]
      exact zN hc0 [2,3] [0]
     refine zE qD (gy 3 3++[(6,.yes true)]) [.d,.k2,.d,.d,.n,.r] [ps 154 (bv true)] (on 4 (bf h9) oz)<|qU (b:=true) rfl rfl<|qA<|qL qD [.k1,.n,.d,.d,.k1,.d] [ps 3 (iv 2)] ?_
     rw [(qI (s:=s) h1 h2 h3 h4 h5 (qez h6 h7) (j:=(x,y)) (by unfold vQ qP;rw [if_pos (by omega)];exact Prod.ext (by show _=x;omega) (by show _=y;omega))).trans (zH h9)]
     exact zN hc0 [2,3] [0]
    refine qW (zP h8)<|qF<|qA<|qA ?_
    obtain ⟨x,hx⟩:∃ x,x=((qG (qk s)).1)-1:=⟨_,rfl⟩
    obtain ⟨y,hy⟩:∃ y,y=(12*((((qG (qk s)).1)-1) / 7))+(Pi.nat7 ((((qG (qk s)).1)-1) % 7)):=⟨_,rfl⟩
    refine qx (Wk.eq (show _=[ps 0 (sv (st s)),ps 2 (.opt 0 0),ps 11 (.opt 456 0),ps 134 (bv (decide ((((wO s).length:Nat):Int)<(s.length:Int)))),pb 0 41 [(iv 0),(iv 0)],pb 456 41 [(iv x),(iv y)]] from by rw [hx,hy])) ?_
    refine yJ qD 1 [.k3,.n,.n,.d,.r] [ps 13 (sv (st ((qE x y).1))),ps 14 (iv ((qE x y).2))] (zY 608 (zx x y (by unfold Pi.I64;omega) (by unfold Pi.I64;omega)) oz)<|qA ?_
    by_cases h11:((qE x y).2)=0
    ·refine zE qD (gn 3 2++[(5,.gd false (.val (.av (.bool (!decide (((qE x y).1)=s)))))),(6,.yes false)]) [.d,.k2,.d,.d,.n,.r] [ps 154 (bv (!(decide (((qE x y).1)=s))))] (on 3 (bt h11) (oc (zw _ _:(!((st ((qE x y).1)).toList == (st s).toList)) = !decide (((qE x y).1)=s)) (oc (bt h11) oz))) ?_
     by_cases h12:((qE x y).1)=s
     ·refine qW (bt h12)<|qF<|qA<|zU qD [] [ps 2 (.opt 0 0),ps 3 (iv 0),pb 0 41 [(iv x),(iv y)]] (oz) ?_
      rw [(qI (s:=s) h1 h2 h3 h4 h5 (qez h6 h7) (j:=(x,y)) (by unfold vQ qP;rw [if_neg (by omega)];exact Prod.ext (by show _=x;omega) (by show _=y;omega))).trans (zF h11 h12)]
      exact zN hc0 [2,3] [0]
     refine qX (bf h12)<|qA<|qL qD [.k1,.n,.d,.d,.k1,.d] [ps 3 (iv 2)] ?_
     rw [(qI (s:=s) h1 h2 h3 h4 h5 (qez h6 h7) (j:=(x,y)) (by unfold vQ qP;rw [if_neg (by omega)];exact Prod.ext (by show _=x;omega) (by show _=y;omega))).trans (zG h12)]
     exact zN hc0 [2,3] [0]
    refine zE qD (gy 3 3++[(6,.yes true)]) [.d,.k2,.d,.d,.n,.r] [ps 154 (bv true)] (on 4 (bf h11) oz)<|qU (b:=true) rfl rfl<|qA<|qL qD [.k1,.n,.d,.d,.k1,.d] [ps 3 (iv 2)] ?_
    rw [(qI (s:=s) h1 h2 h3 h4 h5 (qez h6 h7) (j:=(x,y)) (by unfold vQ qP;rw [if_neg (by omega)];exact Prod.ext (by show _=x;omega) (by show _=y;omega))).trans (zH h11)]
    exact zN hc0 [2,3] [0]
   refine zD (b:=(zL (((qG (qk s)).1)-1))) rfl (Bool.eq_false_iff.2 h7) ?_
   by_cases h13:(zJ s)=([77]:TX)
   ·refine zE qD ([(1,.val (.av (.bool (decide ((zJ s)=([77]:TX))))))]++gy 3 2++[(5,.gd true (.call [] [(iv (((qG (qk s)).1)-1))] [] (bv (zL (((qG (qk s)).1)-1))) [])),(6,.gd true .no),(7,.yes true)]) [.k7,.d,.n,.r] [ps 68 (bv (!(zL (((qG (qk s)).1)-1))))] (oc (zj _ _:((st (zJ s)).toList == (st ([77]:TX)).toList)=decide ((zJ s)=([77]:TX))) (on 2 (zR h13) (oi (((qG (qk s)).1)-1) (by omega) (oc (zR h13) (zY 600 (yN (((qG (qk s)).1)-1) (by omega)) (on 2 (zR h13) oz))))))<|qX (congrArg Bool.not (Bool.eq_false_iff.2 h7))<|qF<|zM<|qA<|qA<|qL qD [.k2,.d,.d,.d,.k1,.d,.d,.n,.r] [ps 134 (bv (decide ((((wO s).length:Nat):Int)<(s.length:Int))))] ?_
    by_cases h14:(((wO s).length:Nat):Int)<(s.length:Int)
    ·refine qX (zR h14)<|zE qD [] [.k3,.d,.k1,.d,.n] [pb 456 41 [(iv (0-(((qG (qk s)).1)-1))),(iv (0-((12*((((qG (qk s)).1)-1) / 7))+(Pi.nat7 ((((qG (qk s)).1)-1) % 7)))))]] (oi (0-(((qG (qk s)).1)-1)) (by omega) (oi (0-((12*((((qG (qk s)).1)-1) / 7))+(Pi.nat7 ((((qG (qk s)).1)-1) % 7)))) (by omega) oz))<|qA<|qA ?_
     obtain ⟨x,hx⟩:∃ x,x=0-(((qG (qk s)).1)-1):=⟨_,rfl⟩
     obtain ⟨y,hy⟩:∃ y,y=0-((12*((((qG (qk s)).1)-1) / 7))+(Pi.nat7 ((((qG (qk s)).1)-1) % 7))):=⟨_,rfl⟩
     refine qx (Wk.eq (show _=[ps 0 (sv (st s)),ps 2 (.opt 0 0),ps 11 (.opt 456 0),pb 0 41 [(iv 0),(iv 0)],pb 456 41 [(iv x),(iv y)]] from by rw [hx,hy])) ?_
     refine yJ qD 1 [.k3,.n,.n,.r] [ps 13 (sv (st ((qE x y).1))),ps 14 (iv ((qE x y).2))] (zY 760 (zx x y (by unfold Pi.I64;omega) (by unfold Pi.I64;omega)) oz)<|qA ?_
     by_cases h15:((qE x y).2)=0
     ·refine zE qD (gn 3 2++[(5,.gd false (.val (.av (.bool (!decide (((qE x y).1)=s)))))),(6,.yes false)]) [.d,.k2,.d,.d,.n,.r] [ps 154 (bv (!(decide (((qE x y).1)=s))))] (on 3 (bt h15) (oc (zw _ _:(!((st ((qE x y).1)).toList == (st s).toList)) = !decide (((qE x y).1)=s)) (oc (bt h15) oz))) ?_
      by_cases h16:((qE x y).1)=s
      ·refine qW (bt h16)<|qF<|qA<|zU qD [] [ps 2 (.opt 0 0),ps 3 (iv 0),pb 0 41 [(iv x),(iv y)]] (oz) ?_
       rw [(qI (s:=s) h1 h2 h3 h4 h5 (YU h13 h7) (j:=(x,y)) (by unfold vQ qP;rw [if_pos (by omega)];exact Prod.ext (by show _=x;omega) (by show _=y;omega))).trans (zF h15 h16)]
       exact zN hc0 [2,3] [0]
      refine qX (bf h16)<|qA<|qL qD [.k1,.n,.d,.d,.k1,.d] [ps 3 (iv 2)] ?_
      rw [(qI (s:=s) h1 h2 h3 h4 h5 (YU h13 h7) (j:=(x,y)) (by unfold vQ qP;rw [if_pos (by omega)];exact Prod.ext (by show _=x;omega) (by show _=y;omega))).trans (zG h16)]
      exact zN hc0 [2,3] [0]
     refine zE qD (gy 3 3++[(6,.yes true)]) [.d,.k2,.d,.d,.n,.r] [ps 154 (bv true)] (on 4 (bf h15) oz)<|qU (b:=true) rfl rfl<|qA<|qL qD [.k1,.n,.d,.d,.k1,.d] [ps 3 (iv 2)] ?_
     rw [(qI (s:=s) h1 h2 h3 h4 h5 (YU h13 h7) (j:=(x,y)) (by unfold vQ qP;rw [if_pos (by omega)];exact Prod.ext (by show _=x;omega) (by show _=y;omega))).trans (zH h15)]
     exact zN hc0 [2,3] [0]
    refine qW (zP h14)<|qF<|qA<|qA ?_
    obtain ⟨x,hx⟩:∃ x,x=((qG (qk s)).1)-1:=⟨_,rfl⟩
    obtain ⟨y,hy⟩:∃ y,y=(12*((((qG (qk s)).1)-1) / 7))+(Pi.nat7 ((((qG (qk s)).1)-1) % 7)):=⟨_,rfl⟩
    refine qx (Wk.eq (show _=[ps 0 (sv (st s)),ps 2 (.opt 0 0),ps 11 (.opt 456 0),ps 134 (bv (decide ((((wO s).length:Nat):Int)<(s.length:Int)))),pb 0 41 [(iv 0),(iv 0)],pb 456 41 [(iv x),(iv y)]] from by rw [hx,hy])) ?_
    refine yJ qD 1 [.k3,.n,.n,.d,.r] [ps 13 (sv (st ((qE x y).1))),ps 14 (iv ((qE x y).2))] (zY 680 (zx x y (by unfold Pi.I64;omega) (by unfold Pi.I64;omega)) oz)<|qA ?_
    by_cases h17:((qE x y).2)=0
    ·refine zE qD (gn 3 2++[(5,.gd false (.val (.av (.bool (!decide (((qE x y).1)=s)))))),(6,.yes false)]) [.d,.k2,.d,.d,.n,.r] [ps 154 (bv (!(decide (((qE x y).1)=s))))] (on 3 (bt h17) (oc (zw _ _:(!((st ((qE x y).1)).toList == (st s).toList)) = !decide (((qE x y).1)=s)) (oc (bt h17) oz))) ?_
     by_cases h18:((qE x y).1)=s
     ·refine qW (bt h18)<|qF<|qA<|zU qD [] [ps 2 (.opt 0 0),ps 3 (iv 0),pb 0 41 [(iv x),(iv y)]] (oz) ?_
      rw [(qI (s:=s) h1 h2 h3 h4 h5 (YU h13 h7) (j:=(x,y)) (by unfold vQ qP;rw [if_neg (by omega)];exact Prod.ext (by show _=x;omega) (by show _=y;omega))).trans (zF h17 h18)]
      exact zN hc0 [2,3] [0]
     refine qX (bf h18)<|qA<|qL qD [.k1,.n,.d,.d,.k1,.d] [ps 3 (iv 2)] ?_
     rw [(qI (s:=s) h1 h2 h3 h4 h5 (YU h13 h7) (j:=(x,y)) (by unfold vQ qP;rw [if_neg (by omega)];exact Prod.ext (by show _=x;omega) (by show _=y;omega))).trans (zG h18)]
     exact zN hc0 [2,3] [0]
    refine zE qD (gy 3 3++[(6,.yes true)]) [.d,.k2,.d,.d,.n,.r] [ps 154 (bv true)] (on 4 (bf h17) oz)<|qU (b:=true) rfl rfl<|qA<|qL qD [.k1,.n,.d,.d,.k1,.d] [ps 3 (iv 2)] ?_
    rw [(qI (s:=s) h1 h2 h3 h4 h5 (YU h13 h7) (j:=(x,y)) (by unfold vQ qP;rw [if_neg (by omega)];exact Prod.ext (by show _=x;omega) (by show _=y;omega))).trans (zH h17)]
    exact zN hc0 [2,3] [0]
   refine zE qD ([(1,.val (.av (.bool (decide ((zJ s)=([77]:TX))))))]++gn 3 4++[(7,.yes false)]) [.k7,.d,.n,.r] [ps 68 (bv false)] (oc (zj _ _:((st (zJ s)).toList == (st ([77]:TX)).toList)=decide ((zJ s)=([77]:TX))) (on 5 (zP h13) oz))<|zD (b:=false) rfl rfl<|qA ?_
   by_cases h19:(zJ s)=([109]:TX)
   ·refine zE qD ([(1,.val (.av (.bool (decide ((zJ s)=([109]:TX))))))]++gy 3 2++[(5,.gd true (.call [] [(iv (((qG (qk s)).1)-1))] [] (bv (zL (((qG (qk s)).1)-1))) [])),(6,.gd true .no),(7,.yes true)]) [.k7,.d,.n,.r] [ps 84 (bv (!(zL (((qG (qk s)).1)-1))))] (oc (zj _ _:((st (zJ s)).toList == (st ([109]:TX)).toList)=decide ((zJ s)=([109]:TX))) (on 2 (zR h19) (oi (((qG (qk s)).1)-1) (by omega) (oc (zR h19) (zY 672 (yN (((qG (qk s)).1)-1) (by omega)) (on 2 (zR h19) oz))))))<|qX (congrArg Bool.not (Bool.eq_false_iff.2 h7))<|zE qD [] [.k3,.d,.d,.k1,.d,.d,.k1,.d,.n] [pb 456 41 [(iv (((qG (qk s)).1)-1)),(iv (((12*((((qG (qk s)).1)-1) / 7))+(Pi.nat7 ((((qG (qk s)).1)-1) % 7)))-1))]] (oi (((12*((((qG (qk s)).1)-1) / 7))+(Pi.nat7 ((((qG (qk s)).1)-1) % 7)))-1) (by omega) oz)<|zM<|qA<|qA<|qL qD [.k2,.d,.k1,.n,.r] [ps 134 (bv (decide ((((wO s).length:Nat):Int)<(s.length:Int))))] ?_
    by_cases h20:(((wO s).length:Nat):Int)<(s.length:Int)
    ·refine qX (zR h20)<|zE qD [] [.k3,.d,.k1,.d,.n] [pb 456 41 [(iv (0-(((qG (qk s)).1)-1))),(iv (0-(((12*((((qG (qk s)).1)-1) / 7))+(Pi.nat7 ((((qG (qk s)).1)-1) % 7)))-1)))]] (oi (0-(((qG (qk s)).1)-1)) (by omega) (oi (0-(((12*((((qG (qk s)).1)-1) / 7))+(Pi.nat7 ((((qG (qk s)).1)-1) % 7)))-1)) (by omega) oz))<|qA<|qA ?_
     obtain ⟨x,hx⟩:∃ x,x=0-(((qG (qk s)).1)-1):=⟨_,rfl⟩
     obtain ⟨y,hy⟩:∃ y,y=0-(((12*((((qG (qk s)).1)-1) / 7))+(Pi.nat7 ((((qG (qk s)).1)-1) % 7)))-1):=⟨_,rfl⟩
     refine qx (Wk.eq (show _=[ps 0 (sv (st s)),ps 2 (.opt 0 0),ps 11 (.opt 456 0),pb 0 41 [(iv 0),(iv 0)],pb 456 41 [(iv x),(iv y)]] from by rw [hx,hy])) ?_
     refine yJ qD 1 [.k3,.n,.n,.r] [ps 13 (sv (st ((qE x y).1))),ps 14 (iv ((qE x y).2))] (zY 872 (zx x y (by unfold Pi.I64;omega) (by unfold Pi.I64;omega)) oz)<|qA ?_
     by_cases h21:((qE x y).2)=0
     ·refine zE qD (gn 3 2++[(5,.gd false (.val (.av (.bool (!decide (((qE x y).1)=s)))))),(6,.yes false)]) [.d,.k2,.d,.d,.n,.r] [ps 154 (bv (!(decide (((qE x y).1)=s))))] (on 3 (bt h21) (oc (zw _ _:(!((st ((qE x y).1)).toList == (st s).toList)) = !decide (((qE x y).1)=s)) (oc (bt h21) oz))) ?_
      by_cases h22:((qE x y).1)=s
      ·refine qW (bt h22)<|qF<|qA<|zU qD [] [ps 2 (.opt 0 0),ps 3 (iv 0),pb 0 41 [(iv x),(iv y)]] (oz) ?_
       rw [(qI (s:=s) h1 h2 h3 h4 h5 (YT (fun c=>h7 c.2) (fun c=>h13 c.1) h19 h7) (j:=(x,y)) (by unfold vQ qP;rw [if_pos (by omega)];exact Prod.ext (by show _=x;omega) (by show _=y;omega))).trans (zF h21 h22)]
       exact zN hc0 [2,3] [0]
      refine qX (bf h22)<|qA<|qL qD [.k1,.n,.d,.d,.k1,.d] [ps 3 (iv 2)] ?_
      rw [(qI (s:=s) h1 h2 h3 h4 h5 (YT (fun c=>h7 c.2) (fun c=>h13 c.1) h19 h7) (j:=(x,y)) (by unfold vQ qP;rw [if_pos (by omega)];exact Prod.ext (by show _=x;omega) (by show _=y;omega))).trans (zG h22)]
      exact zN hc0 [2,3] [0]
     refine zE qD (gy 3 3++[(6,.yes true)]) [.d,.k2,.d,.d,.n,.r] [ps 154 (bv true)] (on 4 (bf h21) oz)<|qU (b:=true) rfl rfl<|qA<|qL qD [.k1,.n,.d,.d,.k1,.d] [ps 3 (iv 2)] ?_
     rw [(qI (s:=s) h1 h2 h3 h4 h5 (YT (fun c=>h7 c.2) (fun c=>h13 c.1) h19 h7) (j:=(x,y)) (by unfold vQ qP;rw [if_pos (by omega)];exact Prod.ext (by show _=x;omega) (by show _=y;omega))).trans (zH h21)]
     exact zN hc0 [2,3] [0]
    refine qW (zP h20)<|qF<|qA<|qA ?_
    obtain ⟨x,hx⟩:∃ x,x=((qG (qk s)).1)-1:=⟨_,rfl⟩
    obtain ⟨y,hy⟩:∃ y,y=((12*((((qG (qk s)).1)-1) / 7))+(Pi.nat7 ((((qG (qk s)).1)-1) % 7)))-1:=⟨_,rfl⟩
    refine qx (Wk.eq (show _=[ps 0 (sv (st s)),ps 2 (.opt 0 0),ps 11 (.opt 456 0),ps 134 (bv (decide ((((wO s).length:Nat):Int)<(s.length:Int)))),pb 0 41 [(iv 0),(iv 0)],pb 456 41 [(iv x),(iv y)]] from by rw [hx,hy])) ?_
    refine yJ qD 1 [.k3,.n,.n,.d,.r] [ps 13 (sv (st ((qE x y).1))),ps 14 (iv ((qE x y).2))] (zY 792 (zx x y (by unfold Pi.I64;omega) (by unfold Pi.I64;omega)) oz)<|qA ?_
    by_cases h23:((qE x y).2)=0
    ·refine zE qD (gn 3 2++[(5,.gd false (.val (.av (.bool (!decide (((qE x y).1)=s)))))),(6,.yes false)]) [.d,.k2,.d,.d,.n,.r] [ps 154 (bv (!(decide (((qE x y).1)=s))))] (on 3 (bt h23) (oc (zw _ _:(!((st ((qE x y).1)).toList == (st s).toList)) = !decide (((qE x y).1)=s)) (oc (bt h23) oz))) ?_
     by_cases h24:((qE x y).1)=s
     ·refine qW (bt h24)<|qF<|qA<|zU qD [] [ps 2 (.opt 0 0),ps 3 (iv 0),pb 0 41 [(iv x),(iv y)]] (oz) ?_
      rw [(qI (s:=s) h1 h2 h3 h4 h5 (YT (fun c=>h7 c.2) (fun c=>h13 c.1) h19 h7) (j:=(x,y)) (by unfold vQ qP;rw [if_neg (by omega)];exact Prod.ext (by show _=x;omega) (by show _=y;omega))).trans (zF h23 h24)]
      exact zN hc0 [2,3] [0]
     refine qX (bf h24)<|qA<|qL qD [.k1,.n,.d,.d,.k1,.d] [ps 3 (iv 2)] ?_
     rw [(qI (s:=s) h1 h2 h3 h4 h5 (YT (fun c=>h7 c.2) (fun c=>h13 c.1) h19 h7) (j:=(x,y)) (by unfold vQ qP;rw [if_neg (by omega)];exact Prod.ext (by show _=x;omega) (by show _=y;omega))).trans (zG h24)]
     exact zN hc0 [2,3] [0]
    refine zE qD (gy 3 3++[(6,.yes true)]) [.d,.k2,.d,.d,.n,.r] [ps 154 (bv true)] (on 4 (bf h23) oz)<|qU (b:=true) rfl rfl<|qA<|qL qD [.k1,.n,.d,.d,.k1,.d] [ps 3 (iv 2)] ?_
    rw [(qI (s:=s) h1 h2 h3 h4 h5 (YT (fun c=>h7 c.2) (fun c=>h13 c.1) h19 h7) (j:=(x,y)) (by unfold vQ qP;rw [if_neg (by omega)];exact Prod.ext (by show _=x;omega) (by show _=y;omega))).trans (zH h23)]
    exact zN hc0 [2,3] [0]
   refine zE qD ([(1,.val (.av (.bool (decide ((zJ s)=([109]:TX))))))]++gn 3 4++[(7,.yes false)]) [.k7,.d,.n,.r] [ps 84 (bv false)] (oc (zj _ _:((st (zJ s)).toList == (st ([109]:TX)).toList)=decide ((zJ s)=([109]:TX))) (on 5 (zP h19) oz))<|zD (b:=false) rfl rfl<|qA<|zE qD [(1,.call [] [(sv (st (zJ s))),(sv (st [65]))] [] (sv (st (Lib.trimS (zJ s) [65]))) []),(2,.val (.av (.bool (decide ((Lib.trimS (zJ s) [65])=([]:TX))))))] [.k7,.d,.n,.r] [ps 97 (bv (decide ((Lib.trimS (zJ s) [65])=([]:TX))))] (zY 712 (yT (zJ s) [65] (by omega) (by decide) (yM (by decide))) (oc (zj _ _:((st (Lib.trimS (zJ s) [65])).toList == (st ([]:TX)).toList)=decide ((Lib.trimS (zJ s) [65])=([]:TX))) oz)) ?_
   by_cases h25:(Lib.trimS (zJ s) [65])=([]:TX)
   ·refine qX (zR h25)<|zE qD [] [.k3,.d,.d,.k1,.d,.d,.k1,.d,.n] [pb 456 41 [(iv (((qG (qk s)).1)-1)),(iv (((12*((((qG (qk s)).1)-1) / 7))+(Pi.nat7 ((((qG (qk s)).1)-1) % 7)))+(((zJ s).length:Nat):Int)))]] (oi (((12*((((qG (qk s)).1)-1) / 7))+(Pi.nat7 ((((qG (qk s)).1)-1) % 7)))+(((zJ s).length:Nat):Int)) (by omega) oz)<|zM<|qA<|qA<|qL qD [.k2,.d,.k1,.n,.r] [ps 134 (bv (decide ((((wO s).length:Nat):Int)<(s.length:Int))))] ?_
    by_cases h26:(((wO s).length:Nat):Int)<(s.length:Int)
    ·refine qX (zR h26)<|zE qD [] [.k3,.d,.k1,.d,.n] [pb 456 41 [(iv (0-(((qG (qk s)).1)-1))),(iv (0-(((12*((((qG (qk s)).1)-1) / 7))+(Pi.nat7 ((((qG (qk s)).1)-1) % 7)))+(((zJ s).length:Nat):Int))))]] (oi (0-(((qG (qk s)).1)-1)) (by omega) (oi (0-(((12*((((qG (qk s)).1)-1) / 7))+(Pi.nat7 ((((qG (qk s)).1)-1) % 7)))+(((zJ s).length:Nat):Int))) (by omega) oz))<|qA<|qA ?_
     obtain ⟨x,hx⟩:∃ x,x=0-(((qG (qk s)).1)-1):=⟨_,rfl⟩
     obtain ⟨y,hy⟩:∃ y,y=0-(((12*((((qG (qk s)).1)-1) / 7))+(Pi.nat7 ((((qG (qk s)).1)-1) % 7)))+(((zJ s).length:Nat):Int)):=⟨_,rfl⟩
     refine qx (Wk.eq (show _=[ps 0 (sv (st s)),ps 2 (.opt 0 0),ps 11 (.opt 456 0),pb 0 41 [(iv 0),(iv 0)],pb 456 41 [(iv x),(iv y)]] from by rw [hx,hy])) ?_
     refine yJ qD 1 [.k3,.n,.n,.r] [ps 13 (sv (st ((qE x y).1))),ps 14 (iv ((qE x y).2))] (zY 912 (zx x y (by unfold Pi.I64;omega) (by unfold Pi.I64;omega)) oz)<|qA ?_
     by_cases h27:((qE x y).2)=0
     ·refine zE qD (gn 3 2++[(5,.gd false (.val (.av (.bool (!decide (((qE x y).1)=s)))))),(6,.yes false)]) [.d,.k2,.d,.d,.n,.r] [ps 154 (bv (!(decide (((qE x y).1)=s))))] (on 3 (bt h27) (oc (zw _ _:(!((st ((qE x y).1)).toList == (st s).toList)) = !decide (((qE x y).1)=s)) (oc (bt h27) oz))) ?_
      by_cases h28:((qE x y).1)=s
      ·refine qW (bt h28)<|qF<|qA<|zU qD [] [ps 2 (.opt 0 0),ps 3 (iv 0),pb 0 41 [(iv x),(iv y)]] (oz) ?_
       rw [(qI (s:=s) h1 h2 h3 h4 h5 (vY (fun c=>h7 c.2) (fun c=>h13 c.1) (fun c=>h19 c.1) h25) (j:=(x,y)) (by unfold vQ qP;rw [if_pos (by omega)];exact Prod.ext (by show _=x;omega) (by show _=y;omega))).trans (zF h27 h28)]
       exact zN hc0 [2,3] [0]
      refine qX (bf h28)<|qA<|qL qD [.k1,.n,.d,.d,.k1,.d] [ps 3 (iv 2)] ?_
      rw [(qI (s:=s) h1 h2 h3 h4 h5 (vY (fun c=>h7 c.2) (fun c=>h13 c.1) (fun c=>h19 c.1) h25) (j:=(x,y)) (by unfold vQ qP;rw [if_pos (by omega)];exact Prod.ext (by show _=x;omega) (by show _=y;omega))).trans (zG h28)]
      exact zN hc0 [2,3] [0]
     refine zE qD (gy 3 3++[(6,.yes true)]) [.d,.k2,.d,.d,.n,.r] [ps 154 (bv true)] (on 4 (bf h27) oz)<|qU (b:=true) rfl rfl<|qA<|qL qD [.k1,.n,.d,.d,.k1,.d] [ps 3 (iv 2)] ?_
     rw [(qI (s:=s) h1 h2 h3 h4 h5 (vY (fun c=>h7 c.2) (fun c=>h13 c.1) (fun c=>h19 c.1) h25) (j:=(x,y)) (by unfold vQ qP;rw [if_pos (by omega)];exact Prod.ext (by show _=x;omega) (by show _=y;omega))).trans (zH h27)]
     exact zN hc0 [2,3] [0]
    refine qW (zP h26)<|qF<|qA<|qA ?_
    obtain ⟨x,hx⟩:∃ x,x=((qG (qk s)).1)-1:=⟨_,rfl⟩
    obtain ⟨y,hy⟩:∃ y,y=((12*((((qG (qk s)).1)-1) / 7))+(Pi.nat7 ((((qG (qk s)).1)-1) % 7)))+(((zJ s).length:Nat):Int):=⟨_,rfl⟩
    refine qx (Wk.eq (show _=[ps 0 (sv (st s)),ps 2 (.opt 0 0),ps 11 (.opt 456 0),ps 134 (bv (decide ((((wO s).length:Nat):Int)<(s.length:Int)))),pb 0 41 [(iv 0),(iv 0)],pb 456 41 [(iv x),(iv y)]] from by rw [hx,hy])) ?_
    refine yJ qD 1 [.k3,.n,.n,.d,.r] [ps 13 (sv (st ((qE x y).1))),ps 14 (iv ((qE x y).2))] (zY 832 (zx x y (by unfold Pi.I64;omega) (by unfold Pi.I64;omega)) oz)<|qA ?_
    by_cases h29:((qE x y).2)=0
    ·refine zE qD (gn 3 2++[(5,.gd false (.val (.av (.bool (!decide (((qE x y).1)=s)))))),(6,.yes false)]) [.d,.k2,.d,.d,.n,.r] [ps 154 (bv (!(decide (((qE x y).1)=s))))] (on 3 (bt h29) (oc (zw _ _:(!((st ((qE x y).1)).toList == (st s).toList)) = !decide (((qE x y).1)=s)) (oc (bt h29) oz))) ?_
     by_cases h30:((qE x y).1)=s
     ·refine qW (bt h30)<|qF<|qA<|zU qD [] [ps 2 (.opt 0 0),ps 3 (iv 0),pb 0 41 [(iv x),(iv y)]] (oz) ?_
      rw [(qI (s:=s) h1 h2 h3 h4 h5 (vY (fun c=>h7 c.2) (fun c=>h13 c.1) (fun c=>h19 c.1) h25) (j:=(x,y)) (by unfold vQ qP;rw [if_neg (by omega)];exact Prod.ext (by show _=x;omega) (by show _=y;omega))).trans (zF h29 h30)]
      exact zN hc0 [2,3] [0]
     refine qX (bf h30)<|qA<|qL qD [.k1,.n,.d,.d,.k1,.d] [ps 3 (iv 2)] ?_
     rw [(qI (s:=s) h1 h2 h3 h4 h5 (vY (fun c=>h7 c.2) (fun c=>h13 c.1) (fun c=>h19 c.1) h25) (j:=(x,y)) (by unfold vQ qP;rw [if_neg (by omega)];exact Prod.ext (by show _=x;omega) (by show _=y;omega))).trans (zG h30)]
     exact zN hc0 [2,3] [0]
    refine zE qD (gy 3 3++[(6,.yes true)]) [.d,.k2,.d,.d,.n,.r] [ps 154 (bv true)] (on 4 (bf h29) oz)<|qU (b:=true) rfl rfl<|qA<|qL qD [.k1,.n,.d,.d,.k1,.d] [ps 3 (iv 2)] ?_
    rw [(qI (s:=s) h1 h2 h3 h4 h5 (vY (fun c=>h7 c.2) (fun c=>h13 c.1) (fun c=>h19 c.1) h25) (j:=(x,y)) (by unfold vQ qP;rw [if_neg (by omega)];exact Prod.ext (by show _=x;omega) (by show _=y;omega))).trans (zH h29)]
    exact zN hc0 [2,3] [0]
   refine qW (zP h25)<|qA ?_
   by_cases h31:(Lib.trimS (zJ s) [100])=([]:TX)
   ·refine zE qD ([(1,.call [] [(sv (st (zJ s))),(sv (st [100]))] [] (sv (st (Lib.trimS (zJ s) [100]))) []),(2,.val (.av (.bool (decide ((Lib.trimS (zJ s) [100])=([]:TX))))))]++gy 4 2++[(6,.gd true (.call [] [(iv (((qG (qk s)).1)-1))] [] (bv (zL (((qG (qk s)).1)-1))) [])),(7,.yes true)]) [.k4,.d,.k2,.d,.n,.r] [ps 106 (bv (zL (((qG (qk s)).1)-1)))] (zY 744 (yT (zJ s) [100] (by omega) (by decide) (yM (by decide))) (oc (zj _ _:((st (Lib.trimS (zJ s) [100])).toList == (st ([]:TX)).toList)=decide ((Lib.trimS (zJ s) [100])=([]:TX))) (on 2 (zR h31) (oi (((qG (qk s)).1)-1) (by omega) (oc (zR h31) (zY 784 (yN (((qG (qk s)).1)-1) (by omega)) (oc (zR h31) oz)))))))<|zD (b:=(zL (((qG (qk s)).1)-1))) rfl (Bool.eq_false_iff.2 h7)<|qA<|zE qD [(1,.call [] [(sv (st (zJ s))),(sv (st [100]))] [] (sv (st (Lib.trimS (zJ s) [100]))) []),(2,.val (.av (.bool (decide ((Lib.trimS (zJ s) [100])=([]:TX))))))] [.k3,.d,.k2,.d,.n,.r] [ps 120 (bv (decide ((Lib.trimS (zJ s) [100])=([]:TX))))] (zY 816 (yT (zJ s) [100] (by omega) (by decide) (yM (by decide))) (oc (zj _ _:((st (Lib.trimS (zJ s) [100])).toList == (st ([]:TX)).toList)=decide ((Lib.trimS (zJ s) [100])=([]:TX))) oz))<|qX (zR h31)<|zE qD [] [.k4,.d,.d,.k1,.d,.n] [pb 456 41 [(iv (((qG (qk s)).1)-1)),(iv (((12*((((qG (qk s)).1)-1) / 7))+(Pi.nat7 ((((qG (qk s)).1)-1) % 7)))-((((zJ s).length:Nat):Int)+1)))]] (oi ((((zJ s).length:Nat):Int)+1) (by omega) (oi (((12*((((qG (qk s)).1)-1) / 7))+(Pi.nat7 ((((qG (qk s)).1)-1) % 7)))-((((zJ s).length:Nat):Int)+1)) (by omega) oz))<|zM<|qA<|qA<|qL qD [.k2,.d,.k1,.n,.r] [ps 134 (bv (decide ((((wO s).length:Nat):Int)<(s.length:Int))))] ?_
    by_cases h32:(((wO s).length:Nat):Int)<(s.length:Int)
    ·refine qX (zR h32)<|zE qD [] [.k3,.d,.k1,.d,.n] [pb 456 41 [(iv (0-(((qG (qk s)).1)-1))),(iv (0-(((12*((((qG (qk s)).1)-1) / 7))+(Pi.nat7 ((((qG (qk s)).1)-1) % 7)))-((((zJ s).length:Nat):Int)+1))))]] (oi (0-(((qG (qk s)).1)-1)) (by omega) (oi (0-(((12*((((qG (qk s)).1)-1) / 7))+(Pi.nat7 ((((qG (qk s)).1)-1) % 7)))-((((zJ s).length:Nat):Int)+1))) (by omega) oz))<|qA<|qA ?_
     obtain ⟨x,hx⟩:∃ x,x=0-(((qG (qk s)).1)-1):=⟨_,rfl⟩
     obtain ⟨y,hy⟩:∃ y,y=0-(((12*((((qG (qk s)).1)-1) / 7))+(Pi.nat7 ((((qG (qk s)).1)-1) % 7)))-((((zJ s).length:Nat):Int)+1)):=⟨_,rfl⟩
     refine qx (Wk.eq (show _=[ps 0 (sv (st s)),ps 2 (.opt 0 0),ps 11 (.opt 456 0),pb 0 41 [(iv 0),(iv 0)],pb 456 41 [(iv x),(iv y)]] from by rw [hx,hy])) ?_
     refine yJ qD 1 [.k3,.n,.n,.r] [ps 13 (sv (st ((qE x y).1))),ps 14 (iv ((qE x y).2))] (zY 1024 (zx x y (by unfold Pi.I64;omega) (by unfold Pi.I64;omega)) oz)<|qA ?_
     by_cases h33:((qE x y).2)=0
     ·refine zE qD (gn 3 2++[(5,.gd false (.val (.av (.bool (!decide (((qE x y).1)=s)))))),(6,.yes false)]) [.d,.k2,.d,.d,.n,.r] [ps 154 (bv (!(decide (((qE x y).1)=s))))] (on 3 (bt h33) (oc (zw _ _:(!((st ((qE x y).1)).toList == (st s).toList)) = !decide (((qE x y).1)=s)) (oc (bt h33) oz))) ?_
      by_cases h34:((qE x y).1)=s
      ·refine qW (bt h34)<|qF<|qA<|zU qD [] [ps 2 (.opt 0 0),ps 3 (iv 0),pb 0 41 [(iv x),(iv y)]] (oz) ?_
       rw [(qI (s:=s) h1 h2 h3 h4 h5 (QI (fun c=>h7 c.2) (fun c=>h13 c.1) (fun c=>h19 c.1) h25 h31 h7) (j:=(x,y)) (by unfold vQ qP;rw [if_pos (by omega)];exact Prod.ext (by show _=x;omega) (by show _=y;omega))).trans (zF h33 h34)]
       exact zN hc0 [2,3] [0]
      refine qX (bf h34)<|qA<|qL qD [.k1,.n,.d,.d,.k1,.d] [ps 3 (iv 2)] ?_
      rw [(qI (s:=s) h1 h2 h3 h4 h5 (QI (fun c=>h7 c.2) (fun c=>h13 c.1) (fun c=>h19 c.1) h25 h31 h7) (j:=(x,y)) (by unfold vQ qP;rw [if_pos (by omega)];exact Prod.ext (by show _=x;omega) (by show _=y;omega))).trans (zG h34)]
      exact zN hc0 [2,3] [0]
     refine zE qD (gy 3 3++[(6,.yes true)]) [.d,.k2,.d,.d,.n,.r] [ps 154 (bv true)] (on 4 (bf h33) oz)<|qU (b:=true) rfl rfl<|qA<|qL qD [.k1,.n,.d,.d,.k1,.d] [ps 3 (iv 2)] ?_
     rw [(qI (s:=s) h1 h2 h3 h4 h5 (QI (fun c=>h7 c.2) (fun c=>h13 c.1) (fun c=>h19 c.1) h25 h31 h7) (j:=(x,y)) (by unfold vQ qP;rw [if_pos (by omega)];exact Prod.ext (by show _=x;omega) (by show _=y;omega))).trans (zH h33)]
     exact zN hc0 [2,3] [0]
    refine qW (zP h32)<|qF<|qA<|qA ?_
    obtain ⟨x,hx⟩:∃ x,x=((qG (qk s)).1)-1:=⟨_,rfl⟩
    obtain ⟨y,hy⟩:∃ y,y=((12*((((qG (qk s)).1)-1) / 7))+(Pi.nat7 ((((qG (qk s)).1)-1) % 7)))-((((zJ s).length:Nat):Int)+1):=⟨_,rfl⟩
    refine qx (Wk.eq (show _=[ps 0 (sv (st s)),ps 2 (.opt 0 0),ps 11 (.opt 456 0),ps 134 (bv (decide ((((wO s).length:Nat):Int)<(s.length:Int)))),pb 0 41 [(iv 0),(iv 0)],pb 456 41 [(iv x),(iv y)]] from by rw [hx,hy])) ?_
    refine yJ qD 1 [.k3,.n,.n,.d,.r] [ps 13 (sv (st ((qE x y).1))),ps 14 (iv ((qE x y).2))] (zY 944 (zx x y (by unfold Pi.I64;omega) (by unfold Pi.I64;omega)) oz)<|qA ?_
    by_cases h35:((qE x y).2)=0
    ·refine zE qD (gn 3 2++[(5,.gd false (.val (.av (.bool (!decide (((qE x y).1)=s)))))),(6,.yes false)]) [.d,.k2,.d,.d,.n,.r] [ps 154 (bv (!(decide (((qE x y).1)=s))))] (on 3 (bt h35) (oc (zw _ _:(!((st ((qE x y).1)).toList == (st s).toList)) = !decide (((qE x y).1)=s)) (oc (bt h35) oz))) ?_
     by_cases h36:((qE x y).1)=s
     ·refine qW (bt h36)<|qF<|qA<|zU qD [] [ps 2 (.opt 0 0),ps 3 (iv 0),pb 0 41 [(iv x),(iv y)]] (oz) ?_
      rw [(qI (s:=s) h1 h2 h3 h4 h5 (QI (fun c=>h7 c.2) (fun c=>h13 c.1) (fun c=>h19 c.1) h25 h31 h7) (j:=(x,y)) (by unfold vQ qP;rw [if_neg (by omega)];exact Prod.ext (by show _=x;omega) (by show _=y;omega))).trans (zF h35 h36)]
      exact zN hc0 [2,3] [0]
     refine qX (bf h36)<|qA<|qL qD [.k1,.n,.d,.d,.k1,.d] [ps 3 (iv 2)] ?_
     rw [(qI (s:=s) h1 h2 h3 h4 h5 (QI (fun c=>h7 c.2) (fun c=>h13 c.1) (fun c=>h19 c.1) h25 h31 h7) (j:=(x,y)) (by unfold vQ qP;rw [if_neg (by omega)];exact Prod.ext (by show _=x;omega) (by show _=y;omega))).trans (zG h36)]
     exact zN hc0 [2,3] [0]
    refine zE qD (gy 3 3++[(6,.yes true)]) [.d,.k2,.d,.d,.n,.r] [ps 154 (bv true)] (on 4 (bf h35) oz)<|qU (b:=true) rfl rfl<|qA<|qL qD [.k1,.n,.d,.d,.k1,.d] [ps 3 (iv 2)] ?_
    rw [(qI (s:=s) h1 h2 h3 h4 h5 (QI (fun c=>h7 c.2) (fun c=>h13 c.1) (fun c=>h19 c.1) h25 h31 h7) (j:=(x,y)) (by unfold vQ qP;rw [if_neg (by omega)];exact Prod.ext (by show _=x;omega) (by show _=y;omega))).trans (zH h35)]
    exact zN hc0 [2,3] [0]
   refine zE qD ([(1,.call [] [(sv (st (zJ s))),(sv (st [100]))] [] (sv (st (Lib.trimS (zJ s) [100]))) []),(2,.val (.av (.bool (decide ((Lib.trimS (zJ s) [100])=([]:TX))))))]++gn 4 3++[(7,.yes false)]) [.k4,.d,.k2,.d,.n,.r] [ps 106 (bv false)] (zY 744 (yT (zJ s) [100] (by omega) (by decide) (yM (by decide))) (oc (zj _ _:((st (Lib.trimS (zJ s) [100])).toList == (st ([]:TX)).toList)=decide ((Lib.trimS (zJ s) [100])=([]:TX))) (on 4 (zP h31) oz)))<|zD (b:=false) rfl rfl<|qA<|zE qD [(1,.call [] [(sv (st (zJ s))),(sv (st [100]))] [] (sv (st (Lib.trimS (zJ s) [100]))) []),(2,.val (.av (.bool (decide ((Lib.trimS (zJ s) [100])=([]:TX))))))] [.k3,.d,.k2,.d,.n,.r] [ps 120 (bv (decide ((Lib.trimS (zJ s) [100])=([]:TX))))] (zY 816 (yT (zJ s) [100] (by omega) (by decide) (yM (by decide))) (oc (zj _ _:((st (Lib.trimS (zJ s) [100])).toList == (st ([]:TX)).toList)=decide ((Lib.trimS (zJ s) [100])=([]:TX))) oz))<|qW (zP h31)<|qA<|qL qD [.d,.k1,.n,.d,.d,.d,.d,.k1,.d] [ps 3 (iv 2)] ?_
   rw [Qk (s:=s) h1 h2 h3 h4 h5 (qcx (fun c=>h7 c.2) (fun c=>h13 c.1) (fun c=>h19 c.1) h25 h31)]
   exact zN hc0 [2,3] [0]
  refine zE qD ([(1,.val (.av (.bool (decide ((zJ s)=([80]:TX))))))]++gn 3 3++[(6,.yes false)]) [.k7,.n,.r] [ps 68 (bv false)] (oc (zj _ _:((st (zJ s)).toList == (st ([80]:TX)).toList)=decide ((zJ s)=([80]:TX))) (on 4 (zP h6) oz))<|zD (b:=false) rfl rfl ?_
  by_cases h37:(zJ s)=([77]:TX)
  ·refine zE qD ([(1,.val (.av (.bool (decide ((zJ s)=([77]:TX))))))]++gy 3 2++[(5,.gd true (.call [] [(iv (((qG (qk s)).1)-1))] [] (bv (zL (((qG (qk s)).1)-1))) [])),(6,.gd true .no),(7,.yes true)]) [.k7,.d,.n,.r] [ps 68 (bv (!(zL (((qG (qk s)).1)-1))))] (oc (zj _ _:((st (zJ s)).toList == (st ([77]:TX)).toList)=decide ((zJ s)=([77]:TX))) (on 2 (zR h37) (oi (((qG (qk s)).1)-1) (by omega) (oc (zR h37) (zY 600 (yN (((qG (qk s)).1)-1) (by omega)) (on 2 (zR h37) oz)))))) ?_
   by_cases h38:(zL (((qG (qk s)).1)-1))=true
   ·refine qW (congrArg Bool.not h38)<|qA ?_
    by_cases h39:(zJ s)=([109]:TX)
    ·refine zE qD ([(1,.val (.av (.bool (decide ((zJ s)=([109]:TX))))))]++gy 3 2++[(5,.gd true (.call [] [(iv (((qG (qk s)).1)-1))] [] (bv (zL (((qG (qk s)).1)-1))) [])),(6,.gd true .no),(7,.yes true)]) [.k7,.d,.n,.r] [ps 84 (bv (!(zL (((qG (qk s)).1)-1))))] (oc (zj _ _:((st (zJ s)).toList == (st ([109]:TX)).toList)=decide ((zJ s)=([109]:TX))) (on 2 (zR h39) (oi (((qG (qk s)).1)-1) (by omega) (oc (zR h39) (zY 672 (yN (((qG (qk s)).1)-1) (by omega)) (on 2 (zR h39) oz))))))<|qW (congrArg Bool.not h38)<|qA<|zE qD [(1,.call [] [(sv (st (zJ s))),(sv (st [65]))] [] (sv (st (Lib.trimS (zJ s) [65]))) []),(2,.val (.av (.bool (decide ((Lib.trimS (zJ s) [65])=([]:TX))))))] [.k7,.d,.n,.r] [ps 97 (bv (decide ((Lib.trimS (zJ s) [65])=([]:TX))))] (zY 712 (yT (zJ s) [65] (by omega) (by decide) (yM (by decide))) (oc (zj _ _:((st (Lib.trimS (zJ s) [65])).toList == (st ([]:TX)).toList)=decide ((Lib.trimS (zJ s) [65])=([]:TX))) oz)) ?_
     by_cases h40:(Lib.trimS (zJ s) [65])=([]:TX)
     ·refine qX (zR h40)<|zE qD [] [.k3,.d,.d,.k1,.d,.d,.k1,.d,.n] [pb 456 41 [(iv (((qG (qk s)).1)-1)),(iv (((12*((((qG (qk s)).1)-1) / 7))+(Pi.nat7 ((((qG (qk s)).1)-1) % 7)))+(((zJ s).length:Nat):Int)))]] (oi (((12*((((qG (qk s)).1)-1) / 7))+(Pi.nat7 ((((qG (qk s)).1)-1) % 7)))+(((zJ s).length:Nat):Int)) (by omega) oz)<|zM<|qA<|qA<|qL qD [.k2,.d,.k1,.n,.r] [ps 134 (bv (decide ((((wO s).length:Nat):Int)<(s.length:Int))))] ?_
      by_cases h41:(((wO s).length:Nat):Int)<(s.length:Int)
      ·refine qX (zR h41)<|zE qD [] [.k3,.d,.k1,.d,.n] [pb 456 41 [(iv (0-(((qG (qk s)).1)-1))),(iv (0-(((12*((((qG (qk s)).1)-1) / 7))+(Pi.nat7 ((((qG (qk s)).1)-1) % 7)))+(((zJ s).length:Nat):Int))))]] (oi (0-(((qG (qk s)).1)-1)) (by omega) (oi (0-(((12*((((qG (qk s)).1)-1) / 7))+(Pi.nat7 ((((qG (qk s)).1)-1) % 7)))+(((zJ s).length:Nat):Int))) (by omega) oz))<|qA<|qA ?_
       obtain ⟨x,hx⟩:∃ x,x=0-(((qG (qk s)).1)-1):=⟨_,rfl⟩
       obtain ⟨y,hy⟩:∃ y,y=0-(((12*((((qG (qk s)).1)-1) / 7))+(Pi.nat7 ((((qG (qk s)).1)-1) % 7)))+(((zJ s).length:Nat):Int)):=⟨_,rfl⟩
       refine qx (Wk.eq (show _=[ps 0 (sv (st s)),ps 2 (.opt 0 0),ps 11 (.opt 456 0),pb 0 41 [(iv 0),(iv 0)],pb 456 41 [(iv x),(iv y)]] from by rw [hx,hy])) ?_
       refine yJ qD 1 [.k3,.n,.n,.r] [ps 13 (sv (st ((qE x y).1))),ps 14 (iv ((qE x y).2))] (zY 912 (zx x y (by unfold Pi.I64;omega) (by unfold Pi.I64;omega)) oz)<|qA ?_
       by_cases h42:((qE x y).2)=0
       ·refine zE qD (gn 3 2++[(5,.gd false (.val (.av (.bool (!decide (((qE x y).1)=s)))))),(6,.yes false)]) [.d,.k2,.d,.d,.n,.r] [ps 154 (bv (!(decide (((qE x y).1)=s))))] (on 3 (bt h42) (oc (zw _ _:(!((st ((qE x y).1)).toList == (st s).toList)) = !decide (((qE x y).1)=s)) (oc (bt h42) oz))) ?_
        by_cases h43:((qE x y).1)=s
        ·refine qW (bt h43)<|qF<|qA<|zU qD [] [ps 2 (.opt 0 0),ps 3 (iv 0),pb 0 41 [(iv x),(iv y)]] (oz) ?_
         rw [(qI (s:=s) h1 h2 h3 h4 h5 (vY (fun c=>h6 c.1) (fun c=>c.2 h38) (fun c=>c.2 h38) h40) (j:=(x,y)) (by unfold vQ qP;rw [if_pos (by omega)];exact Prod.ext (by show _=x;omega) (by show _=y;omega))).trans (zF h42 h43)]
         exact zN hc0 [2,3] [0]
        refine qX (bf h43)<|qA<|qL qD [.k1,.n,.d,.d,.k1,.d] [ps 3 (iv 2)] ?_
        rw [(qI (s:=s) h1 h2 h3 h4 h5 (vY (fun c=>h6 c.1) (fun c=>c.2 h38) (fun c=>c.2 h38) h40) (j:=(x,y)) (by unfold vQ qP;rw [if_pos (by omega)];exact Prod.ext (by show _=x;omega) (by show _=y;omega))).trans (zG h43)]
        exact zN hc0 [2,3] [0]
       refine zE qD (gy 3 3++[(6,.yes true)]) [.d,.k2,.d,.d,.n,.r] [ps 154 (bv true)] (on 4 (bf h42) oz)<|qU (b:=true) rfl rfl<|qA<|qL qD [.k1,.n,.d,.d,.k1,.d] [ps 3 (iv 2)] ?_
       rw [(qI (s:=s) h1 h2 h3 h4 h5 (vY (fun c=>h6 c.1) (fun c=>c.2 h38) (fun c=>c.2 h38) h40) (j:=(x,y)) (by unfold vQ qP;rw [if_pos (by omega)];exact Prod.ext (by show _=x;omega) (by show _=y;omega))).trans (zH h42)]
       exact zN hc0 [2,3] [0]
      refine qW (zP h41)<|qF<|qA<|qA ?_
      obtain ⟨x,hx⟩:∃ x,x=((qG (qk s)).1)-1:=⟨_,rfl⟩
      obtain ⟨y,hy⟩:∃ y,y=((12*((((qG (qk s)).1)-1) / 7))+(Pi.nat7 ((((qG (qk s)).1)-1) % 7)))+(((zJ s).length:Nat):Int):=⟨_,rfl⟩
      refine qx (Wk.eq (show _=[ps 0 (sv (st s)),ps 2 (.opt 0 0),ps 11 (.opt 456 0),ps 134 (bv (decide ((((wO s).length:Nat):Int)<(s.length:Int)))),pb 0 41 [(iv 0),(iv 0)],pb 456 41 [(iv x),(iv y)]] from by rw [hx,hy])) ?_
      refine yJ qD 1 [.k3,.n,.n,.d,.r] [ps 13 (sv (st ((qE x y).1))),ps 14 (iv ((qE x y).2))] (zY 832 (zx x y (by unfold Pi.I64;omega) (by unfold Pi.I64;omega)) oz)<|qA ?_
      by_cases h44:((qE x y).2)=0
      ·refine zE qD (gn 3 2++[(5,.gd false (.val (.av (.bool (!decide (((qE x y).1)=s)))))),(6,.yes false)]) [.d,.k2,.d,.d,.n,.r] [ps 154 (bv (!(decide (((qE x y).1)=s))))] (on 3 (bt h44) (oc (zw _ _:(!((st ((qE x y).1)).toList == (st s).toList)) = !decide (((qE x y).1)=s)) (oc (bt h44) oz))) ?_
       by_cases h45:((qE x y).1)=s
       ·refine qW (bt h45)<|qF<|qA<|zU qD [] [ps 2 (.opt 0 0),ps 3 (iv 0),pb 0 41 [(iv x),(iv y)]] (oz) ?_
        rw [(qI (s:=s) h1 h2 h3 h4 h5 (vY (fun c=>h6 c.1) (fun c=>c.2 h38) (fun c=>c.2 h38) h40) (j:=(x,y)) (by unfold vQ qP;rw [if_neg (by omega)];exact Prod.ext (by show _=x;omega) (by show _=y;omega))).trans (zF h44 h45)]
        exact zN hc0 [2,3] [0]
       refine qX (bf h45)<|qA<|qL qD [.k1,.n,.d,.d,.k1,.d] [ps 3 (iv 2)] ?_
       rw [(qI (s:=s) h1 h2 h3 h4 h5 (vY (fun c=>h6 c.1) (fun c=>c.2 h38) (fun c=>c.2 h38) h40) (j:=(x,y)) (by unfold vQ qP;rw [if_neg (by omega)];exact Prod.ext (by show _=x;omega) (by show _=y;omega))).trans (zG h45)]
       exact zN hc0 [2,3] [0]
      refine zE qD (gy 3 3++[(6,.yes true)]) [.d,.k2,.d,.d,.n,.r] [ps 154 (bv true)] (on 4 (bf h44) oz)<|qU (b:=true) rfl rfl<|qA<|qL qD [.k1,.n,.d,.d,.k1,.d] [ps 3 (iv 2)] ?_
      rw [(qI (s:=s) h1 h2 h3 h4 h5 (vY (fun c=>h6 c.1) (fun c=>c.2 h38) (fun c=>c.2 h38) h40) (j:=(x,y)) (by unfold vQ qP;rw [if_neg (by omega)];exact Prod.ext (by show _=x;omega) (by show _=y;omega))).trans (zH h44)]
      exact zN hc0 [2,3] [0]
     refine qW (zP h40)<|qA ?_
     by_cases h46:(Lib.trimS (zJ s) [100])=([]:TX)
     ·refine zE qD ([(1,.call [] [(sv (st (zJ s))),(sv (st [100]))] [] (sv (st (Lib.trimS (zJ s) [100]))) []),(2,.val (.av (.bool (decide ((Lib.trimS (zJ s) [100])=([]:TX))))))]++gy 4 2++[(6,.gd true (.call [] [(iv (((qG (qk s)).1)-1))] [] (bv (zL (((qG (qk s)).1)-1))) [])),(7,.yes true)]) [.k4,.d,.k2,.d,.n,.r] [ps 106 (bv (zL (((qG (qk s)).1)-1)))] (zY 744 (yT (zJ s) [100] (by omega) (by decide) (yM (by decide))) (oc (zj _ _:((st (Lib.trimS (zJ s) [100])).toList == (st ([]:TX)).toList)=decide ((Lib.trimS (zJ s) [100])=([]:TX))) (on 2 (zR h46) (oi (((qG (qk s)).1)-1) (by omega) (oc (zR h46) (zY 784 (yN (((qG (qk s)).1)-1) (by omega)) (oc (zR h46) oz)))))))<|qU (b:=(zL (((qG (qk s)).1)-1))) rfl h38<|zE qD [] [.k3,.d,.k1,.d,.d,.k1,.d,.n] [pb 456 41 [(iv (((qG (qk s)).1)-1)),(iv (((12*((((qG (qk s)).1)-1) / 7))+(Pi.nat7 ((((qG (qk s)).1)-1) % 7)))-(((zJ s).length:Nat):Int)))]] (oi (((12*((((qG (qk s)).1)-1) / 7))+(Pi.nat7 ((((qG (qk s)).1)-1) % 7)))-(((zJ s).length:Nat):Int)) (by omega) oz)<|zM<|qA<|qA<|qL qD [.k2,.d,.k1,.n,.r] [ps 134 (bv (decide ((((wO s).length:Nat):Int)<(s.length:Int))))] ?_
      by_cases h47:(((wO s).length:Nat):Int)<(s.length:Int)
      ·refine qX (zR h47)<|zE qD [] [.k3,.d,.k1,.d,.n] [pb 456 41 [(iv (0-(((qG (qk s)).1)-1))),(iv (0-(((12*((((qG (qk s)).1)-1) / 7))+(Pi.nat7 ((((qG (qk s)).1)-1) % 7)))-(((zJ s).length:Nat):Int))))]] (oi (0-(((qG (qk s)).1)-1)) (by omega) (oi (0-(((12*((((qG (qk s)).1)-1) / 7))+(Pi.nat7 ((((qG (qk s)).1)-1) % 7)))-(((zJ s).length:Nat):Int))) (by omega) oz))<|qA<|qA ?_
       obtain ⟨x,hx⟩:∃ x,x=0-(((qG (qk s)).1)-1):=⟨_,rfl⟩
       obtain ⟨y,hy⟩:∃ y,y=0-(((12*((((qG (qk s)).1)-1) / 7))+(Pi.nat7 ((((qG (qk s)).1)-1) % 7)))-(((zJ s).length:Nat):Int)):=⟨_,rfl⟩
       refine qx (Wk.eq (show _=[ps 0 (sv (st s)),ps 2 (.opt 0 0),ps 11 (.opt 456 0),pb 0 41 [(iv 0),(iv 0)],pb 456 41 [(iv x),(iv y)]] from by rw [hx,hy])) ?_
       refine yJ qD 1 [.k3,.n,.n,.r] [ps 13 (sv (st ((qE x y).1))),ps 14 (iv ((qE x y).2))] (zY 984 (zx x y (by unfold Pi.I64;omega) (by unfold Pi.I64;omega)) oz)<|qA ?_
       by_cases h48:((qE x y).2)=0
       ·refine zE qD (gn 3 2++[(5,.gd false (.val (.av (.bool (!decide (((qE x y).1)=s)))))),(6,.yes false)]) [.d,.k2,.d,.d,.n,.r] [ps 154 (bv (!(decide (((qE x y).1)=s))))] (on 3 (bt h48) (oc (zw _ _:(!((st ((qE x y).1)).toList == (st s).toList)) = !decide (((qE x y).1)=s)) (oc (bt h48) oz))) ?_
        by_cases h49:((qE x y).1)=s
        ·refine qW (bt h49)<|qF<|qA<|zU qD [] [ps 2 (.opt 0 0),ps 3 (iv 0),pb 0 41 [(iv x),(iv y)]] (oz) ?_
         rw [(qI (s:=s) h1 h2 h3 h4 h5 (wK (fun c=>h6 c.1) (fun c=>c.2 h38) (fun c=>c.2 h38) h40 h46 h38) (j:=(x,y)) (by unfold vQ qP;rw [if_pos (by omega)];exact Prod.ext (by show _=x;omega) (by show _=y;omega))).trans (zF h48 h49)]
         exact zN hc0 [2,3] [0]
        refine qX (bf h49)<|qA<|qL qD [.k1,.n,.d,.d,.k1,.d] [ps 3 (iv 2)] ?_
        rw [(qI (s:=s) h1 h2 h3 h4 h5 (wK (fun c=>h6 c.1) (fun c=>c.2 h38) (fun c=>c.2 h38) h40 h46 h38) (j:=(x,y)) (by unfold vQ qP;rw [if_pos (by omega)];exact Prod.ext (by show _=x;omega) (by show _=y;omega))).trans (zG h49)]
        exact zN hc0 [2,3] [0]
       refine zE qD (gy 3 3++[(6,.yes true)]) [.d,.k2,.d,.d,.n,.r] [ps 154 (bv true)] (on 4 (bf h48) oz)<|qU (b:=true) rfl rfl<|qA<|qL qD [.k1,.n,.d,.d,.k1,.d] [ps 3 (iv 2)] ?_
       rw [(qI (s:=s) h1 h2 h3 h4 h5 (wK (fun c=>h6 c.1) (fun c=>c.2 h38) (fun c=>c.2 h38) h40 h46 h38) (j:=(x,y)) (by unfold vQ qP;rw [if_pos (by omega)];exact Prod.ext (by show _=x;omega) (by show _=y;omega))).trans (zH h48)]
       exact zN hc0 [2,3] [0]
      refine qW (zP h47)<|qF<|qA<|qA ?_
      obtain ⟨x,hx⟩:∃ x,x=((qG (qk s)).1)-1:=⟨_,rfl⟩
      obtain ⟨y,hy⟩:∃ y,y=((12*((((qG (qk s)).1)-1) / 7))+(Pi.nat7 ((((qG (qk s)).1)-1) % 7)))-(((zJ s).length:Nat):Int):=⟨_,rfl⟩
      refine qx (Wk.eq (show _=[ps 0 (sv (st s)),ps 2 (.opt 0 0),ps 11 (.opt 456 0),ps 134 (bv (decide ((((wO s).length:Nat):Int)<(s.length:Int)))),pb 0 41 [(iv 0),(iv 0)],pb 456 41 [(iv x),(iv y)]] from by rw [hx,hy])) ?_
      refine yJ qD 1 [.k3,.n,.n,.d,.r] [ps 13 (sv (st ((qE x y).1))),ps 14 (iv ((qE x y).2))] (zY 904 (zx x y (by unfold Pi.I64;omega) (by unfold Pi.I64;omega)) oz)<|qA ?_
      by_cases h50:((qE x y).2)=0
      ·refine zE qD (gn 3 2++[(5,.gd false (.val (.av (.bool (!decide (((qE x y).1)=s)))))),(6,.yes false)]) [.d,.k2,.d,.d,.n,.r] [ps 154 (bv (!(decide (((qE x y).1)=s))))] (on 3 (bt h50) (oc (zw _ _:(!((st ((qE x y).1)).toList == (st s).toList)) = !decide (((qE x y).1)=s)) (oc (bt h50) oz))) ?_
       by_cases h51:((qE x y).1)=s
       ·refine qW (bt h51)<|qF<|qA<|zU qD [] [ps 2 (.opt 0 0),ps 3 (iv 0),pb 0 41 [(iv x),(iv y)]] (oz) ?_
        rw [(qI (s:=s) h1 h2 h3 h4 h5 (wK (fun c=>h6 c.1) (fun c=>c.2 h38) (fun c=>c.2 h38) h40 h46 h38) (j:=(x,y)) (by unfold vQ qP;rw [if_neg (by omega)];exact Prod.ext (by show _=x;omega) (by show _=y;omega))).trans (zF h50 h51)]
        exact zN hc0 [2,3] [0]
       refine qX (bf h51)<|qA<|qL qD [.k1,.n,.d,.d,.k1,.d] [ps 3 (iv 2)] ?_
       rw [(qI (s:=s) h1 h2 h3 h4 h5 (wK (fun c=>h6 c.1) (fun c=>c.2 h38) (fun c=>c.2 h38) h40 h46 h38) (j:=(x,y)) (by unfold vQ qP;rw [if_neg (by omega)];exact Prod.ext (by show _=x;omega) (by show _=y;omega))).trans (zG h51)]
       exact zN hc0 [2,3] [0]
      refine zE qD (gy 3 3++[(6,.yes true)]) [.d,.k2,.d,.d,.n,.r] [ps 154 (bv true)] (on 4 (bf h50) oz)<|qU (b:=true) rfl rfl<|qA<|qL qD [.k1,.n,.d,.d,.k1,.d] [ps 3 (iv 2)] ?_
      rw [(qI (s:=s) h1 h2 h3 h4 h5 (wK (fun c=>h6 c.1) (fun c=>c.2 h38) (fun c=>c.2 h38) h40 h46 h38) (j:=(x,y)) (by unfold vQ qP;rw [if_neg (by omega)];exact Prod.ext (by show _=x;omega) (by show _=y;omega))).trans (zH h50)]
      exact zN hc0 [2,3] [0]
     refine zE qD ([(1,.call [] [(sv (st (zJ s))),(sv (st [100]))] [] (sv (st (Lib.trimS (zJ s) [100]))) []),(2,.val (.av (.bool (decide ((Lib.trimS (zJ s) [100])=([]:TX))))))]++gn 4 3++[(7,.yes false)]) [.k4,.d,.k2,.d,.n,.r] [ps 106 (bv false)] (zY 744 (yT (zJ s) [100] (by omega) (by decide) (yM (by decide))) (oc (zj _ _:((st (Lib.trimS (zJ s) [100])).toList == (st ([]:TX)).toList)=decide ((Lib.trimS (zJ s) [100])=([]:TX))) (on 4 (zP h46) oz)))<|zD (b:=false) rfl rfl<|qA<|zE qD [(1,.call [] [(sv (st (zJ s))),(sv (st [100]))] [] (sv (st (Lib.trimS (zJ s) [100]))) []),(2,.val (.av (.bool (decide ((Lib.trimS (zJ s) [100])=([]:TX))))))] [.k3,.d,.k2,.d,.n,.r] [ps 120 (bv (decide ((Lib.trimS (zJ s) [100])=([]:TX))))] (zY 816 (yT (zJ s) [100] (by omega) (by decide) (yM (by decide))) (oc (zj _ _:((st (Lib.trimS (zJ s) [100])).toList == (st ([]:TX)).toList)=decide ((Lib.trimS (zJ s) [100])=([]:TX))) oz))<|qW (zP h46)<|qA<|qL qD [.d,.k1,.n,.d,.d,.d,.d,.k1,.d] [ps 3 (iv 2)] ?_
     rw [Qk (s:=s) h1 h2 h3 h4 h5 (qcx (fun c=>h6 c.1) (fun c=>c.2 h38) (fun c=>c.2 h38) h40 h46)]
     exact zN hc0 [2,3] [0]
    refine zE qD ([(1,.val (.av (.bool (decide ((zJ s)=([109]:TX))))))]++gn 3 4++[(7,.yes false)]) [.k7,.d,.n,.r] [ps 84 (bv false)] (oc (zj _ _:((st (zJ s)).toList == (st ([109]:TX)).toList)=decide ((zJ s)=([109]:TX))) (on 5 (zP h39) oz))<|zD (b:=false) rfl rfl<|qA<|zE qD [(1,.call [] [(sv (st (zJ s))),(sv (st [65]))] [] (sv (st (Lib.trimS (zJ s) [65]))) []),(2,.val (.av (.bool (decide ((Lib.trimS (zJ s) [65])=([]:TX))))))] [.k7,.d,.n,.r] [ps 97 (bv (decide ((Lib.trimS (zJ s) [65])=([]:TX))))] (zY 712 (yT (zJ s) [65] (by omega) (by decide) (yM (by decide))) (oc (zj _ _:((st (Lib.trimS (zJ s) [65])).toList == (st ([]:TX)).toList)=decide ((Lib.trimS (zJ s) [65])=([]:TX))) oz)) ?_
    by_cases h52:(Lib.trimS (zJ s) [65])=([]:TX)
    ·refine qX (zR h52)<|zE qD [] [.k3,.d,.d,.k1,.d,.d,.k1,.d,.n] [pb 456 41 [(iv (((qG (qk s)).1)-1)),(iv (((12*((((qG (qk s)).1)-1) / 7))+(Pi.nat7 ((((qG (qk s)).1)-1) % 7)))+(((zJ s).length:Nat):Int)))]] (oi (((12*((((qG (qk s)).1)-1) / 7))+(Pi.nat7 ((((qG (qk s)).1)-1) % 7)))+(((zJ s).length:Nat):Int)) (by omega) oz)<|zM<|qA<|qA<|qL qD [.k2,.d,.k1,.n,.r] [ps 134 (bv (decide ((((wO s).length:Nat):Int)<(s.length:Int))))] ?_
     by_cases h53:(((wO s).length:Nat):Int)<(s.length:Int)
     ·refine qX (zR h53)<|zE qD [] [.k3,.d,.k1,.d,.n] [pb 456 41 [(iv (0-(((qG (qk s)).1)-1))),(iv (0-(((12*((((qG (qk s)).1)-1) / 7))+(Pi.nat7 ((((qG (qk s)).1)-1) % 7)))+(((zJ s).length:Nat):Int))))]] (oi (0-(((qG (qk s)).1)-1)) (by omega) (oi (0-(((12*((((qG (qk s)).1)-1) / 7))+(Pi.nat7 ((((qG (qk s)).1)-1) % 7)))+(((zJ s).length:Nat):Int))) (by omega) oz))<|qA<|qA ?_
      obtain ⟨x,hx⟩:∃ x,x=0-(((qG (qk s)).1)-1):=⟨_,rfl⟩
      obtain ⟨y,hy⟩:∃ y,y=0-(((12*((((qG (qk s)).1)-1) / 7))+(Pi.nat7 ((((qG (qk s)).1)-1) % 7)))+(((zJ s).length:Nat):Int)):=⟨_,rfl⟩
      refine qx (Wk.eq (show _=[ps 0 (sv (st s)),ps 2 (.opt 0 0),ps 11 (.opt 456 0),pb 0 41 [(iv 0),(iv 0)],pb 456 41 [(iv x),(iv y)]] from by rw [hx,hy])) ?_
      refine yJ qD 1 [.k3,.n,.n,.r] [ps 13 (sv (st ((qE x y).1))),ps 14 (iv ((qE x y).2))] (zY 912 (zx x y (by unfold Pi.I64;omega) (by unfold Pi.I64;omega)) oz)<|qA ?_
      by_cases h54:((qE x y).2)=0
      ·refine zE qD (gn 3 2++[(5,.gd false (.val (.av (.bool (!decide (((qE x y).1)=s)))))),(6,.yes false)]) [.d,.k2,.d,.d,.n,.r] [ps 154 (bv (!(decide (((qE x y).1)=s))))] (on 3 (bt h54) (oc (zw _ _:(!((st ((qE x y).1)).toList == (st s).toList)) = !decide (((qE x y).1)=s)) (oc (bt h54) oz))) ?_
       by_cases h55:((qE x y).1)=s
       ·refine qW (bt h55)<|qF<|qA<|zU qD [] [ps 2 (.opt 0 0),ps 3 (iv 0),pb 0 41 [(iv x),(iv y)]] (oz) ?_
        rw [(qI (s:=s) h1 h2 h3 h4 h5 (vY (fun c=>h6 c.1) (fun c=>c.2 h38) (fun c=>h39 c.1) h52) (j:=(x,y)) (by unfold vQ qP;rw [if_pos (by omega)];exact Prod.ext (by show _=x;omega) (by show _=y;omega))).trans (zF h54 h55)]
        exact zN hc0 [2,3] [0]
       refine qX (bf h55)<|qA<|qL qD [.k1,.n,.d,.d,.k1,.d] [ps 3 (iv 2)] ?_
       rw [(qI (s:=s) h1 h2 h3 h4 h5 (vY (fun c=>h6 c.1) (fun c=>c.2 h38) (fun c=>h39 c.1) h52) (j:=(x,y)) (by unfold vQ qP;rw [if_pos (by omega)];exact Prod.ext (by show _=x;omega) (by show _=y;omega))).trans (zG h55)]
       exact zN hc0 [2,3] [0]
      refine zE qD (gy 3 3++[(6,.yes true)]) [.d,.k2,.d,.d,.n,.r] [ps 154 (bv true)] (on 4 (bf h54) oz)<|qU (b:=true) rfl rfl<|qA<|qL qD [.k1,.n,.d,.d,.k1,.d] [ps 3 (iv 2)] ?_
      rw [(qI (s:=s) h1 h2 h3 h4 h5 (vY (fun c=>h6 c.1) (fun c=>c.2 h38) (fun c=>h39 c.1) h52) (j:=(x,y)) (by unfold vQ qP;rw [if_pos (by omega)];exact Prod.ext (by show _=x;omega) (by show _=y;omega))).trans (zH h54)]
      exact zN hc0 [2,3] [0]
     refine qW (zP h53)<|qF<|qA<|qA ?_
     obtain ⟨x,hx⟩:∃ x,x=((qG (qk s)).1)-1:=⟨_,rfl⟩
     obtain ⟨y,hy⟩:∃ y,y=((12*((((qG (qk s)).1)-1) / 7))+(Pi.nat7 ((((qG (qk s)).1)-1) % 7)))+(((zJ s).length:Nat):Int):=⟨_,rfl⟩
     refine qx (Wk.eq (show _=[ps 0 (sv (st s)),ps 2 (.opt 0 0),ps 11 (.opt 456 0),ps 134 (bv (decide ((((wO s).length:Nat):Int)<(s.length:Int)))),pb 0 41 [(iv 0),(iv 0)],pb 456 41 [(iv x),(iv y)]] from by rw [hx,hy])) ?_
     refine yJ qD 1 [.k3,.n,.n,.d,.r] [ps 13 (sv (st ((qE x y).1))),ps 14 (iv ((qE x y).2))] (zY 832 (zx x y (by unfold Pi.I64;omega) (by unfold Pi.I64;omega)) oz)<|qA ?_
     by_cases h56:((qE x y).2)=0
     ·refine zE qD (gn 3 2++[(5,.gd false (.val (.av (.bool (!decide (((qE x y).1)=s)))))),(6,.yes false)]) [.d,.k2,.d,.d,.n,.r] [ps 154 (bv (!(decide (((qE x y).1)=s))))] (on 3 (bt h56) (oc (zw _ _:(!((st ((qE x y).1)).toList == (st s).toList)) = !decide (((qE x y).1)=s)) (oc (bt h56) oz))) ?_
      by_cases h57:((qE x y).1)=s
      ·refine qW (bt h57)<|qF<|qA<|zU qD [] [ps 2 (.opt 0 0),ps 3 (iv 0),pb 0 41 [(iv x),(iv y)]] (oz) ?_
       rw [(qI (s:=s) h1 h2 h3 h4 h5 (vY (fun c=>h6 c.1) (fun c=>c.2 h38) (fun c=>h39 c.1) h52) (j:=(x,y)) (by unfold vQ qP;rw [if_neg (by omega)];exact Prod.ext (by show _=x;omega) (by show _=y;omega))).trans (zF h56 h57)]
       exact zN hc0 [2,3] [0]
      refine qX (bf h57)<|qA<|qL qD [.k1,.n,.d,.d,.k1,.d] [ps 3 (iv 2)] ?_
      rw [(qI (s:=s) h1 h2 h3 h4 h5 (vY (fun c=>h6 c.1) (fun c=>c.2 h38) (fun c=>h39 c.1) h52) (j:=(x,y)) (by unfold vQ qP;rw [if_neg (by omega)];exact Prod.ext (by show _=x;omega) (by show _=y;omega))).trans (zG h57)]
      exact zN hc0 [2,3] [0]
     refine zE qD (gy 3 3++[(6,.yes true)]) [.d,.k2,.d,.d,.n,.r] [ps 154 (bv true)] (on 4 (bf h56) oz)<|qU (b:=true) rfl rfl<|qA<|qL qD [.k1,.n,.d,.d,.k1,.d] [ps 3 (iv 2)] ?_
     rw [(qI (s:=s) h1 h2 h3 h4 h5 (vY (fun c=>h6 c.1) (fun c=>c.2 h38) (fun c=>h39 c.1) h52) (j:=(x,y)) (by unfold vQ qP;rw [if_neg (by omega)];exact Prod.ext (by show _=x;omega) (by show _=y;omega))).trans (zH h56)]
     exact zN hc0 [2,3] [0]
    refine qW (zP h52)<|qA ?_
    by_cases h58:(Lib.trimS (zJ s) [100])=([]:TX)
    ·refine zE qD ([(1,.call [] [(sv (st (zJ s))),(sv (st [100]))] [] (sv (st (Lib.trimS (zJ s) [100]))) []),(2,.val (.av (.bool (decide ((Lib.trimS (zJ s) [100])=([]:TX))))))]++gy 4 2++[(6,.gd true (.call [] [(iv (((qG (qk s)).1)-1))] [] (bv (zL (((qG (qk s)).1)-1))) [])),(7,.yes true)]) [.k4,.d,.k2,.d,.n,.r] [ps 106 (bv (zL (((qG (qk s)).1)-1)))] (zY 744 (yT (zJ s) [100] (by omega) (by decide) (yM (by decide))) (oc (zj _ _:((st (Lib.trimS (zJ s) [100])).toList == (st ([]:TX)).toList)=decide ((Lib.trimS (zJ s) [100])=([]:TX))) (on 2 (zR h58) (oi (((qG (qk s)).1)-1) (by omega) (oc (zR h58) (zY 784 (yN (((qG (qk s)).1)-1) (by omega)) (oc (zR h58) oz)))))))<|qU (b:=(zL (((qG (qk s)).1)-1))) rfl h38<|zE qD [] [.k3,.d,.k1,.d,.d,.k1,.d,.n] [pb 456 41 [(iv (((qG (qk s)).1)-1)),(iv (((12*((((qG (qk s)).1)-1) / 7))+(Pi.nat7 ((((qG (qk s)).1)-1) % 7)))-(((zJ s).length:Nat):Int)))]] (oi (((12*((((qG (qk s)).1)-1) / 7))+(Pi.nat7 ((((qG (qk s)).1)-1) % 7)))-(((zJ s).length:Nat):Int)) (by omega) oz)<|zM<|qA<|qA<|qL qD [.k2,.d,.k1,.n,.r] [ps 134 (bv (decide ((((wO s).length:Nat):Int)<(s.length:Int))))] ?_
     by_cases h59:(((wO s).length:Nat):Int)<(s.length:Int)
     ·refine qX (zR h59)<|zE qD [] [.k3,.d,.k1,.d,.n] [pb 456 41 [(iv (0-(((qG (qk s)).1)-1))),(iv (0-(((12*((((qG (qk s)).1)-1) / 7))+(Pi.nat7 ((((qG (qk s)).1)-1) % 7)))-(((zJ s).length:Nat):Int))))]] (oi (0-(((qG (qk s)).1)-1)) (by omega) (oi (0-(((12*((((qG (qk s)).1)-1) / 7))+(Pi.nat7 ((((qG (qk s)).1)-1) % 7)))-(((zJ s).length:Nat):Int))) (by omega) oz))<|qA<|qA ?_
      obtain ⟨x,hx⟩:∃ x,x=0-(((qG (qk s)).1)-1):=⟨_,rfl⟩
      obtain ⟨y,hy⟩:∃ y,y=0-(((12*((((qG (qk s)).1)-1) / 7))+(Pi.nat7 ((((qG (qk s)).1)-1) % 7)))-(((zJ s).length:Nat):Int)):=⟨_,rfl⟩
      refine qx (Wk.eq (show _=[ps 0 (sv (st s)),ps 2 (.opt 0 0),ps 11 (.opt 456 0),pb 0 41 [(iv 0),(iv 0)],pb 456 41 [(iv x),(iv y)]] from by rw [hx,hy])) ?_
      refine yJ qD 1 [.k3,.n,.n,.r] [ps 13 (sv (st ((qE x y).1))),ps 14 (iv ((qE x y).2))] (zY 984 (zx x y (by unfold Pi.I64;omega) (by unfold Pi.I64;omega)) oz)<|qA ?_
      by_cases h60:((qE x y).2)=0
      ·refine zE qD (gn 3 2++[(5,.gd false (.val (.av (.bool (!decide (((qE x y).1)=s)))))),(6,.yes false)]) [.d,.k2,.d,.d,.n,.r] [ps 154 (bv (!(decide (((qE x y).1)=s))))] (on 3 (bt h60) (oc (zw _ _:(!((st ((qE x y).1)).toList == (st s).toList)) = !decide (((qE x y).1)=s)) (oc (bt h60) oz))) ?_
       by_cases h61:((qE x y).1)=s
       ·refine qW (bt h61)<|qF<|qA<|zU qD [] [ps 2 (.opt 0 0),ps 3 (iv 0),pb 0 41 [(iv x),(iv y)]] (oz) ?_
        rw [(qI (s:=s) h1 h2 h3 h4 h5 (wK (fun c=>h6 c.1) (fun c=>c.2 h38) (fun c=>h39 c.1) h52 h58 h38) (j:=(x,y)) (by unfold vQ qP;rw [if_pos (by omega)];exact Prod.ext (by show _=x;omega) (by show _=y;omega))).trans (zF h60 h61)]
        exact zN hc0 [2,3] [0]
       refine qX (bf h61)<|qA<|qL qD [.k1,.n,.d,.d,.k1,.d] [ps 3 (iv 2)] ?_
       rw [(qI (s:=s) h1 h2 h3 h4 h5 (wK (fun c=>h6 c.1) (fun c=>c.2 h38) (fun c=>h39 c.1) h52 h58 h38) (j:=(x,y)) (by unfold vQ qP;rw [if_pos (by omega)];exact Prod.ext (by show _=x;omega) (by show _=y;omega))).trans (zG h61)]
       exact zN hc0 [2,3] [0]
      refine zE qD (gy 3 3++[(6,.yes true)]) [.d,.k2,.d,.d,.n,.r] [ps 154 (bv true)] (on 4 (bf h60) oz)<|qU (b:=true) rfl rfl<|qA<|qL qD [.k1,.n,.d,.d,.k1,.d] [ps 3 (iv 2)] ?_
      rw [(qI (s:=s) h1 h2 h3 h4 h5 (wK (fun c=>h6 c.1) (fun c=>c.2 h38) (fun c=>h39 c.1) h52 h58 h38) (j:=(x,y)) (by unfold vQ qP;rw [if_pos (by omega)];exact Prod.ext (by show _=x;omega) (by show _=y;omega))).trans (zH h60)]
      exact zN hc0 [2,3] [0]
     refine qW (zP h59)<|qF<|qA<|qA ?_
     obtain ⟨x,hx⟩:∃ x,x=((qG (qk s)).1)-1:=⟨_,rfl⟩
     obtain ⟨y,hy⟩:∃ y,y=((12*((((qG (qk s)).1)-1) / 7))+(Pi.nat7 ((((qG (qk s)).1)-1) % 7)))-(((zJ s).length:Nat):Int):=⟨_,rfl⟩
     refine qx (Wk.eq (show _=[ps 0 (sv (st s)),ps 2 (.opt 0 0),ps 11 (.opt 456 0),ps 134 (bv (decide ((((wO s).length:Nat):Int)<(s.length:Int)))),pb 0 41 [(iv 0),(iv 0)],pb 456 41 [(iv x),(iv y)]] from by rw [hx,hy])) ?_
     refine yJ qD 1 [.k3,.n,.n,.d,.r] [ps 13 (sv (st ((qE x y).1))),ps 14 (iv ((qE x y).2))] (zY 904 (zx x y (by unfold Pi.I64;omega) (by unfold Pi.I64;omega)) oz)<|qA ?_
     by_cases h62:((qE x y).2)=0
     ·refine zE qD (gn 3 2++[(5,.gd false (.val (.av (.bool (!decide (((qE x y).1)=s)))))),(6,.yes false)]) [.d,.k2,.d,.d,.n,.r] [ps 154 (bv (!(decide (((qE x y).1)=s))))] (on 3 (bt h62) (oc (zw _ _:(!((st ((qE x y).1)).toList == (st s).toList)) = !decide (((qE x y).1)=s)) (oc (bt h62) oz))) ?_
      by_cases h63:((qE x y).1)=s
      ·refine qW (bt h63)<|qF<|qA<|zU qD [] [ps 2 (.opt 0 0),ps 3 (iv 0),pb 0 41 [(iv x),(iv y)]] (oz) ?_
       rw [(qI (s:=s) h1 h2 h3 h4 h5 (wK (fun c=>h6 c.1) (fun c=>c.2 h38) (fun c=>h39 c.1) h52 h58 h38) (j:=(x,y)) (by unfold vQ qP;rw [if_neg (by omega)];exact Prod.ext (by show _=x;omega) (by show _=y;omega))).trans (zF h62 h63)]
       exact zN hc0 [2,3] [0]
      refine qX (bf h63)<|qA<|qL qD [.k1,.n,.d,.d,.k1,.d] [ps 3 (iv 2)] ?_
      rw [(qI (s:=s) h1 h2 h3 h4 h5 (wK (fun c=>h6 c.1) (fun c=>c.2 h38) (fun c=>h39 c.1) h52 h58 h38) (j:=(x,y)) (by unfold vQ qP;rw [if_neg (by omega)];exact Prod.ext (by show _=x;omega) (by show _=y;omega))).trans (zG h63)]
      exact zN hc0 [2,3] [0]
     refine zE qD (gy 3 3++[(6,.yes true)]) [.d,.k2,.d,.d,.n,.r] [ps 154 (bv true)] (on 4 (bf h62) oz)<|qU (b:=true) rfl rfl<|qA<|qL qD [.k1,.n,.d,.d,.k1,.d] [ps 3 (iv 2)] ?_
     rw [(qI (s:=s) h1 h2 h3 h4 h5 (wK (fun c=>h6 c.1) (fun c=>c.2 h38) (fun c=>h39 c.1) h52 h58 h38) (j:=(x,y)) (by unfold vQ qP;rw [if_neg (by omega)];exact Prod.ext (by show _=x;omega) (by show _=y;omega))).trans (zH h62)]
     exact zN hc0 [2,3] [0]
    refine zE qD ([(1,.call [] [(sv (st (zJ s))),(sv (st [100]))] [] (sv (st (Lib.trimS (zJ s) [100]))) []),(2,.val (.av (.bool (decide ((Lib.trimS (zJ s) [100])=([]:TX))))))]++gn 4 3++[(7,.yes false)]) [.k4,.d,.k2,.d,.n,.r] [ps 106 (bv false)] (zY 744 (yT (zJ s) [100] (by omega) (by decide) (yM (by decide))) (oc (zj _ _:((st (Lib.trimS (zJ s) [100])).toList == (st ([]:TX)).toList)=decide ((Lib.trimS (zJ s) [100])=([]:TX))) (on 4 (zP h58) oz)))<|zD (b:=false) rfl rfl<|qA<|zE qD [(1,.call [] [(sv (st (zJ s))),(sv (st [100]))] [] (sv (st (Lib.trimS (zJ s) [100]))) []),(2,.val (.av (.bool (decide ((Lib.trimS (zJ s) [100])=([]:TX))))))] [.k3,.d,.k2,.d,.n,.r] [ps 120 (bv (decide ((Lib.trimS (zJ s) [100])=([]:TX))))] (zY 816 (yT (zJ s) [100] (by omega) (by decide) (yM (by decide))) (oc (zj _ _:((st (Lib.trimS (zJ s) [100])).toList == (st ([]:TX)).toList)=decide ((Lib.trimS (zJ s) [100])=([]:TX))) oz))<|qW (zP h58)<|qA<|qL qD [.d,.k1,.n,.d,.d,.d,.d,.k1,.d] [ps 3 (iv 2)] ?_
    rw [Qk (s:=s) h1 h2 h3 h4 h5 (qcx (fun c=>h6 c.1) (fun c=>c.2 h38) (fun c=>h39 c.1) h52 h58)]
    exact zN hc0 [2,3] [0]
   refine qX (congrArg Bool.not (Bool.eq_false_iff.2 h38))<|qF<|zM<|qA<|qA<|qL qD [.k2,.d,.d,.d,.k1,.d,.d,.n,.r] [ps 134 (bv (decide ((((wO s).length:Nat):Int)<(s.length:Int))))] ?_
   by_cases h64:(((wO s).length:Nat):Int)<(s.length:Int)
   ·refine qX (zR h64)<|zE qD [] [.k3,.d,.k1,.d,.n] [pb 456 41 [(iv (0-(((qG (qk s)).1)-1))),(iv (0-((12*((((qG (qk s)).1)-1) / 7))+(Pi.nat7 ((((qG (qk s)).1)-1) % 7)))))]] (oi (0-(((qG (qk s)).1)-1)) (by omega) (oi (0-((12*((((qG (qk s)).1)-1) / 7))+(Pi.nat7 ((((qG (qk s)).1)-1) % 7)))) (by omega) oz))<|qA<|qA ?_
    obtain ⟨x,hx⟩:∃ x,x=0-(((qG (qk s)).1)-1):=⟨_,rfl⟩
    obtain ⟨y,hy⟩:∃ y,y=0-((12*((((qG (qk s)).1)-1) / 7))+(Pi.nat7 ((((qG (qk s)).1)-1) % 7))):=⟨_,rfl⟩
    refine qx (Wk.eq (show _=[ps 0 (sv (st s)),ps 2 (.opt 0 0),ps 11 (.opt 456 0),pb 0 41 [(iv 0),(iv 0)],pb 456 41 [(iv x),(iv y)]] from by rw [hx,hy])) ?_
    refine yJ qD 1 [.k3,.n,.n,.r] [ps 13 (sv (st ((qE x y).1))),ps 14 (iv ((qE x y).2))] (zY 760 (zx x y (by unfold Pi.I64;omega) (by unfold Pi.I64;omega)) oz)<|qA ?_
    by_cases h65:((qE x y).2)=0
    ·refine zE qD (gn 3 2++[(5,.gd false (.val (.av (.bool (!decide (((qE x y).1)=s)))))),(6,.yes false)]) [.d,.k2,.d,.d,.n,.r] [ps 154 (bv (!(decide (((qE x y).1)=s))))] (on 3 (bt h65) (oc (zw _ _:(!((st ((qE x y).1)).toList == (st s).toList)) = !decide (((qE x y).1)=s)) (oc (bt h65) oz))) ?_
     by_cases h66:((qE x y).1)=s
     ·refine qW (bt h66)<|qF<|qA<|zU qD [] [ps 2 (.opt 0 0),ps 3 (iv 0),pb 0 41 [(iv x),(iv y)]] (oz) ?_
      rw [(qI (s:=s) h1 h2 h3 h4 h5 (YU h37 h38) (j:=(x,y)) (by unfold vQ qP;rw [if_pos (by omega)];exact Prod.ext (by show _=x;omega) (by show _=y;omega))).trans (zF h65 h66)]
      exact zN hc0 [2,3] [0]
     refine qX (bf h66)<|qA<|qL qD [.k1,.n,.d,.d,.k1,.d] [ps 3 (iv 2)] ?_
     rw [(qI (s:=s) h1 h2 h3 h4 h5 (YU h37 h38) (j:=(x,y)) (by unfold vQ qP;rw [if_pos (by omega)];exact Prod.ext (by show _=x;omega) (by show _=y;omega))).trans (zG h66)]
     exact zN hc0 [2,3] [0]
    refine zE qD (gy 3 3++[(6,.yes true)]) [.d,.k2,.d,.d,.n,.r] [ps 154 (bv true)] (on 4 (bf h65) oz)<|qU (b:=true) rfl rfl<|qA<|qL qD [.k1,.n,.d,.d,.k1,.d] [ps 3 (iv 2)] ?_
    rw [(qI (s:=s) h1 h2 h3 h4 h5 (YU h37 h38) (j:=(x,y)) (by unfold vQ qP;rw [if_pos (by omega)];exact Prod.ext (by show _=x;omega) (by show _=y;omega))).trans (zH h65)]
    exact zN hc0 [2,3] [0]
   refine qW (zP h64)<|qF<|qA<|qA ?_
   obtain ⟨x,hx⟩:∃ x,x=((qG (qk s)).1)-1:=⟨_,rfl⟩
   obtain ⟨y,hy⟩:∃ y,y=(12*((((qG (qk s)).1)-1) / 7))+(Pi.nat7 ((((qG (qk s)).1)-1) % 7)):=⟨_,rfl⟩
   refine qx (Wk.eq (show _=[ps 0 (sv (st s)),ps 2 (.opt 0 0),ps 11 (.opt 456 0),ps 134 (bv (decide ((((wO s).length:Nat):Int)<(s.length:Int)))),pb 0 41 [(iv 0),(iv 0)],pb 456 41 [(iv x),(iv y)]] from by rw [hx,hy])) ?_
   refine yJ qD 1 [.k3,.n,.n,.d,.r] [ps 13 (sv (st ((qE x y).1))),ps 14 (iv ((qE x y).2))] (zY 680 (zx x y (by unfold Pi.I64;omega) (by unfold Pi.I64;omega)) oz)<|qA ?_
   by_cases h67:((qE x y).2)=0
   ·refine zE qD (gn 3 2++[(5,.gd false (.val (.av (.bool (!decide (((qE x y).1)=s)))))),(6,.yes false)]) [.d,.k2,.d,.d,.n,.r] [ps 154 (bv (!(decide (((qE x y).1)=s))))] (on 3 (bt h67) (oc (zw _ _:(!((st ((qE x y).1)).toList == (st s).toList)) = !decide (((qE x y).1)=s)) (oc (bt h67) oz))) ?_
    by_cases h68:((qE x y).1)=s
    ·refine qW (bt h68)<|qF<|qA<|zU qD [] [ps 2 (.opt 0 0),ps 3 (iv 0),pb 0 41 [(iv x),(iv y)]] (oz) ?_
     rw [(qI (s:=s) h1 h2 h3 h4 h5 (YU h37 h38) (j:=(x,y)) (by unfold vQ qP;rw [if_neg (by omega)];exact Prod.ext (by show _=x;omega) (by show _=y;omega))).trans (zF h67 h68)]
     exact zN hc0 [2,3] [0]
    refine qX (bf h68)<|qA<|qL qD [.k1,.n,.d,.d,.k1,.d] [ps 3 (iv 2)] ?_
    rw [(qI (s:=s) h1 h2 h3 h4 h5 (YU h37 h38) (j:=(x,y)) (by unfold vQ qP;rw [if_neg (by omega)];exact Prod.ext (by show _=x;omega) (by show _=y;omega))).trans (zG h68)]
    exact zN hc0 [2,3] [0]
   refine zE qD (gy 3 3++[(6,.yes true)]) [.d,.k2,.d,.d,.n,.r] [ps 154 (bv true)] (on 4 (bf h67) oz)<|qU (b:=true) rfl rfl<|qA<|qL qD [.k1,.n,.d,.d,.k1,.d] [ps 3 (iv 2)] ?_
   rw [(qI (s:=s) h1 h2 h3 h4 h5 (YU h37 h38) (j:=(x,y)) (by unfold vQ qP;rw [if_neg (by omega)];exact Prod.ext (by show _=x;omega) (by show _=y;omega))).trans (zH h67)]
   exact zN hc0 [2,3] [0]
  refine zE qD ([(1,.val (.av (.bool (decide ((zJ s)=([77]:TX))))))]++gn 3 4++[(7,.yes false)]) [.r] [] (oc (zj _ _:((st (zJ s)).toList == (st ([77]:TX)).toList)=decide ((zJ s)=([77]:TX))) (on 5 (zP h37) oz))<|zD (b:=false) rfl rfl<|qA ?_
  by_cases h69:(zJ s)=([109]:TX)
  ·refine zE qD ([(1,.val (.av (.bool (decide ((zJ s)=([109]:TX))))))]++gy 3 2++[(5,.gd true (.call [] [(iv (((qG (qk s)).1)-1))] [] (bv (zL (((qG (qk s)).1)-1))) [])),(6,.gd true .no),(7,.yes true)]) [.k7,.d,.n,.r] [ps 84 (bv (!(zL (((qG (qk s)).1)-1))))] (oc (zj _ _:((st (zJ s)).toList == (st ([109]:TX)).toList)=decide ((zJ s)=([109]:TX))) (on 2 (zR h69) (oi (((qG (qk s)).1)-1) (by omega) (oc (zR h69) (zY 672 (yN (((qG (qk s)).1)-1) (by omega)) (on 2 (zR h69) oz)))))) ?_
   by_cases h70:(zL (((qG (qk s)).1)-1))=true
   ·refine qW (congrArg Bool.not h70)<|qA<|zE qD [(1,.call [] [(sv (st (zJ s))),(sv (st [65]))] [] (sv (st (Lib.trimS (zJ s) [65]))) []),(2,.val (.av (.bool (decide ((Lib.trimS (zJ s) [65])=([]:TX))))))] [.k7,.d,.n,.r] [ps 97 (bv (decide ((Lib.trimS (zJ s) [65])=([]:TX))))] (zY 712 (yT (zJ s) [65] (by omega) (by decide) (yM (by decide))) (oc (zj _ _:((st (Lib.trimS (zJ s) [65])).toList == (st ([]:TX)).toList)=decide ((Lib.trimS (zJ s) [65])=([]:TX))) oz)) ?_
    by_cases h71:(Lib.trimS (zJ s) [65])=([]:TX)
    ·refine qX (zR h71)<|zE qD [] [.k3,.d,.d,.k1,.d,.d,.k1,.d,.n] [pb 456 41 [(iv (((qG (qk s)).1)-1)),(iv (((12*((((qG (qk s)).1)-1) / 7))+(Pi.nat7 ((((qG (qk s)).1)-1) % 7)))+(((zJ s).length:Nat):Int)))]] (oi (((12*((((qG (qk s)).1)-1) / 7))+(Pi.nat7 ((((qG (qk s)).1)-1) % 7)))+(((zJ s).length:Nat):Int)) (by omega) oz)<|zM<|qA<|qA<|qL qD [.k2,.d,.k1,.n,.r] [ps 134 (bv (decide ((((wO s).length:Nat):Int)<(s.length:Int))))] ?_
     by_cases h72:(((wO s).length:Nat):Int)<(s.length:Int)
     ·refine qX (zR h72)<|zE qD [] [.k3,.d,.k1,.d,.n] [pb 456 41 [(iv (0-(((qG (qk s)).1)-1))),(iv (0-(((12*((((qG (qk s)).1)-1) / 7))+(Pi.nat7 ((((qG (qk s)).1)-1) % 7)))+(((zJ s).length:Nat):Int))))]] (oi (0-(((qG (qk s)).1)-1)) (by omega) (oi (0-(((12*((((qG (qk s)).1)-1) / 7))+(Pi.nat7 ((((qG (qk s)).1)-1) % 7)))+(((zJ s).length:Nat):Int))) (by omega) oz))<|qA<|qA ?_
      obtain ⟨x,hx⟩:∃ x,x=0-(((qG (qk s)).1)-1):=⟨_,rfl⟩
      obtain ⟨y,hy⟩:∃ y,y=0-(((12*((((qG (qk s)).1)-1) / 7))+(Pi.nat7 ((((qG (qk s)).1)-1) % 7)))+(((zJ s).length:Nat):Int)):=⟨_,rfl⟩
      refine qx (Wk.eq (show _=[ps 0 (sv (st s)),ps 2 (.opt 0 0),ps 11 (.opt 456 0),pb 0 41 [(iv 0),(iv 0)],pb 456 41 [(iv x),(iv y)]] from by rw [hx,hy])) ?_
      refine yJ qD 1 [.k3,.n,.n,.r] [ps 13 (sv (st ((qE x y).1))),ps 14 (iv ((qE x y).2))] (zY 912 (zx x y (by unfold Pi.I64;omega) (by unfold Pi.I64;omega)) oz)<|qA ?_
      by_cases h73:((qE x y).2)=0
      ·refine zE qD (gn 3 2++[(5,.gd false (.val (.av (.bool (!decide (((qE x y).1)=s)))))),(6,.yes false)]) [.d,.k2,.d,.d,.n,.r] [ps 154 (bv (!(decide (((qE x y).1)=s))))] (on 3 (bt h73) (oc (zw _ _:(!((st ((qE x y).1)).toList == (st s).toList)) = !decide (((qE x y).1)=s)) (oc (bt h73) oz))) ?_
       by_cases h74:((qE x y).1)=s
       ·refine qW (bt h74)<|qF<|qA<|zU qD [] [ps 2 (.opt 0 0),ps 3 (iv 0),pb 0 41 [(iv x),(iv y)]] (oz) ?_
        rw [(qI (s:=s) h1 h2 h3 h4 h5 (vY (fun c=>h6 c.1) (fun c=>h37 c.1) (fun c=>c.2 h70) h71) (j:=(x,y)) (by unfold vQ qP;rw [if_pos (by omega)];exact Prod.ext (by show _=x;omega) (by show _=y;omega))).trans (zF h73 h74)]
        exact zN hc0 [2,3] [0]
       refine qX (bf h74)<|qA<|qL qD [.k1,.n,.d,.d,.k1,.d] [ps 3 (iv 2)] ?_
       rw [(qI (s:=s) h1 h2 h3 h4 h5 (vY (fun c=>h6 c.1) (fun c=>h37 c.1) (fun c=>c.2 h70) h71) (j:=(x,y)) (by unfold vQ qP;rw [if_pos (by omega)];exact Prod.ext (by show _=x;omega) (by show _=y;omega))).trans (zG h74)]
       exact zN hc0 [2,3] [0]
      refine zE qD (gy 3 3++[(6,.yes true)]) [.d,.k2,.d,.d,.n,.r] [ps 154 (bv true)] (on 4 (bf h73) oz)<|qU (b:=true) rfl rfl<|qA<|qL qD [.k1,.n,.d,.d,.k1,.d] [ps 3 (iv 2)] ?_
      rw [(qI (s:=s) h1 h2 h3 h4 h5 (vY (fun c=>h6 c.1) (fun c=>h37 c.1) (fun c=>c.2 h70) h71) (j:=(x,y)) (by unfold vQ qP;rw [if_pos (by omega)];exact Prod.ext (by show _=x;omega) (by show _=y;omega))).trans (zH h73)]
      exact zN hc0 [2,3] [0]
     refine qW (zP h72)<|qF<|qA<|qA ?_
     obtain ⟨x,hx⟩:∃ x,x=((qG (qk s)).1)-1:=⟨_,rfl⟩
     obtain ⟨y,hy⟩:∃ y,y=((12*((((qG (qk s)).1)-1) / 7))+(Pi.nat7 ((((qG (qk s)).1)-1) % 7)))+(((zJ s).length:Nat):Int):=⟨_,rfl⟩
     refine qx (Wk.eq (show _=[ps 0 (sv (st s)),ps 2 (.opt 0 0),ps 11 (.opt 456 0),ps 134 (bv (decide ((((wO s).length:Nat):Int)<(s.length:Int)))),pb 0 41 [(iv 0),(iv 0)],pb 456 41 [(iv x),(iv y)]] from by rw [hx,hy])) ?_
     refine yJ qD 1 [.k3,.n,.n,.d,.r] [ps 13 (sv (st ((qE x y).1))),ps 14 (iv ((qE x y).2))] (zY 832 (zx x y (by unfold Pi.I64;omega) (by unfold Pi.I64;omega)) oz)<|qA ?_
     by_cases h75:((qE x y).2)=0
     ·refine zE qD (gn 3 2++[(5,.gd false (.val (.av (.bool (!decide (((qE x y).1)=s)))))),(6,.yes false)]) [.d,.k2,.d,.d,.n,.r] [ps 154 (bv (!(decide (((qE x y).1)=s))))] (on 3 (bt h75) (oc (zw _ _:(!((st ((qE x y).1)).toList == (st s).toList)) = !decide (((qE x y).1)=s)) (oc (bt h75) oz))) ?_
      by_cases h76:((qE x y).1)=s
      ·refine qW (bt h76)<|qF<|qA<|zU qD [] [ps 2 (.opt 0 0),ps 3 (iv 0),pb 0 41 [(iv x),(iv y)]] (oz) ?_
       rw [(qI (s:=s) h1 h2 h3 h4 h5 (vY (fun c=>h6 c.1) (fun c=>h37 c.1) (fun c=>c.2 h70) h71) (j:=(x,y)) (by unfold vQ qP;rw [if_neg (by omega)];exact Prod.ext (by show _=x;omega) (by show _=y;omega))).trans (zF h75 h76)]
       exact zN hc0 [2,3] [0]
      refine qX (bf h76)<|qA<|qL qD [.k1,.n,.d,.d,.k1,.d] [ps 3 (iv 2)] ?_
      rw [(qI (s:=s) h1 h2 h3 h4 h5 (vY (fun c=>h6 c.1) (fun c=>h37 c.1) (fun c=>c.2 h70) h71) (j:=(x,y)) (by unfold vQ qP;rw [if_neg (by omega)];exact Prod.ext (by show _=x;omega) (by show _=y;omega))).trans (zG h76)]
      exact zN hc0 [2,3] [0]
     refine zE qD (gy 3 3++[(6,.yes true)]) [.d,.k2,.d,.d,.n,.r] [ps 154 (bv true)] (on 4 (bf h75) oz)<|qU (b:=true) rfl rfl<|qA<|qL qD [.k1,.n,.d,.d,.k1,.d] [ps 3 (iv 2)] ?_
     rw [(qI (s:=s) h1 h2 h3 h4 h5 (vY (fun c=>h6 c.1) (fun c=>h37 c.1) (fun c=>c.2 h70) h71) (j:=(x,y)) (by unfold vQ qP;rw [if_neg (by omega)];exact Prod.ext (by show _=x;omega) (by show _=y;omega))).trans (zH h75)]
     exact zN hc0 [2,3] [0]
    refine qW (zP h71)<|qA ?_
    by_cases h77:(Lib.trimS (zJ s) [100])=([]:TX)
    ·refine zE qD ([(1,.call [] [(sv (st (zJ s))),(sv (st [100]))] [] (sv (st (Lib.trimS (zJ s) [100]))) []),(2,.val (.av (.bool (decide ((Lib.trimS (zJ s) [100])=([]:TX))))))]++gy 4 2++[(6,.gd true (.call [] [(iv (((qG (qk s)).1)-1))] [] (bv (zL (((qG (qk s)).1)-1))) [])),(7,.yes true)]) [.k4,.d,.k2,.d,.n,.r] [ps 106 (bv (zL (((qG (qk s)).1)-1)))] (zY 744 (yT (zJ s) [100] (by omega) (by decide) (yM (by decide))) (oc (zj _ _:((st (Lib.trimS (zJ s) [100])).toList == (st ([]:TX)).toList)=decide ((Lib.trimS (zJ s) [100])=([]:TX))) (on 2 (zR h77) (oi (((qG (qk s)).1)-1) (by omega) (oc (zR h77) (zY 784 (yN (((qG (qk s)).1)-1) (by omega)) (oc (zR h77) oz)))))))<|qU (b:=(zL (((qG (qk s)).1)-1))) rfl h70<|zE qD [] [.k3,.d,.k1,.d,.d,.k1,.d,.n] [pb 456 41 [(iv (((qG (qk s)).1)-1)),(iv (((12*((((qG (qk s)).1)-1) / 7))+(Pi.nat7 ((((qG (qk s)).1)-1) % 7)))-(((zJ s).length:Nat):Int)))]] (oi (((12*((((qG (qk s)).1)-1) / 7))+(Pi.nat7 ((((qG (qk s)).1)-1) % 7)))-(((zJ s).length:Nat):Int)) (by omega) oz)<|zM<|qA<|qA<|qL qD [.k2,.d,.k1,.n,.r] [ps 134 (bv (decide ((((wO s).length:Nat):Int)<(s.length:Int))))] ?_
     by_cases h78:(((wO s).length:Nat):Int)<(s.length:Int)
     ·refine qX (zR h78)<|zE qD [] [.k3,.d,.k1,.d,.n] [pb 456 41 [(iv (0-(((qG (qk s)).1)-1))),(iv (0-(((12*((((qG (qk s)).1)-1) / 7))+(Pi.nat7 ((((qG (qk s)).1)-1) % 7)))-(((zJ s).length:Nat):Int))))]] (oi (0-(((qG (qk s)).1)-1)) (by omega) (oi (0-(((12*((((qG (qk s)).1)-1) / 7))+(Pi.nat7 ((((qG (qk s)).1)-1) % 7)))-(((zJ s).length:Nat):Int))) (by omega) oz))<|qA<|qA ?_
      obtain ⟨x,hx⟩:∃ x,x=0-(((qG (qk s)).1)-1):=⟨_,rfl⟩
      obtain ⟨y,hy⟩:∃ y,y=0-(((12*((((qG (qk s)).1)-1) / 7))+(Pi.nat7 ((((qG (qk s)).1)-1) % 7)))-(((zJ s).length:Nat):Int)):=⟨_,rfl⟩
      refine qx (Wk.eq (show _=[ps 0 (sv (st s)),ps 2 (.opt 0 0),ps 11 (.opt 456 0),pb 0 41 [(iv 0),(iv 0)],pb 456 41 [(iv x),(iv y)]] from by rw [hx,hy])) ?_
      refine yJ qD 1 [.k3,.n,.n,.r] [ps 13 (sv (st ((qE x y).1))),ps 14 (iv ((qE x y).2))] (zY 984 (zx x y (by unfold Pi.I64;omega) (by unfold Pi.I64;omega)) oz)<|qA ?_
      by_cases h79:((qE x y).2)=0
      ·refine zE qD (gn 3 2++[(5,.gd false (.val (.av (.bool (!decide (((qE x y).1)=s)))))),(6,.yes false)]) [.d,.k2,.d,.d,.n,.r] [ps 154 (bv (!(decide (((qE x y).1)=s))))] (on 3 (bt h79) (oc (zw _ _:(!((st ((qE x y).1)).toList == (st s).toList)) = !decide (((qE x y).1)=s)) (oc (bt h79) oz))) ?_
       by_cases h80:((qE x y).1)=s
       ·refine qW (bt h80)<|qF<|qA<|zU qD [] [ps 2 (.opt 0 0),ps 3 (iv 0),pb 0 41 [(iv x),(iv y)]] (oz) ?_
        rw [(qI (s:=s) h1 h2 h3 h4 h5 (wK (fun c=>h6 c.1) (fun c=>h37 c.1) (fun c=>c.2 h70) h71 h77 h70) (j:=(x,y)) (by unfold vQ qP;rw [if_pos (by omega)];exact Prod.ext (by show _=x;omega) (by show _=y;omega))).trans (zF h79 h80)]
        exact zN hc0 [2,3] [0]
       refine qX (bf h80)<|qA<|qL qD [.k1,.n,.d,.d,.k1,.d] [ps 3 (iv 2)] ?_
       rw [(qI (s:=s) h1 h2 h3 h4 h5 (wK (fun c=>h6 c.1) (fun c=>h37 c.1) (fun c=>c.2 h70) h71 h77 h70) (j:=(x,y)) (by unfold vQ qP;rw [if_pos (by omega)];exact Prod.ext (by show _=x;omega) (by show _=y;omega))).trans (zG h80)]
       exact zN hc0 [2,3] [0]
      refine zE qD (gy 3 3++[(6,.yes true)]) [.d,.k2,.d,.d,.n,.r] [ps 154 (bv true)] (on 4 (bf h79) oz)<|qU (b:=true) rfl rfl<|qA<|qL qD [.k1,.n,.d,.d,.k1,.d] [ps 3 (iv 2)] ?_
      rw [(qI (s:=s) h1 h2 h3 h4 h5 (wK (fun c=>h6 c.1) (fun c=>h37 c.1) (fun c=>c.2 h70) h71 h77 h70) (j:=(x,y)) (by unfold vQ qP;rw [if_pos (by omega)];exact Prod.ext (by show _=x;omega) (by show _=y;omega))).trans (zH h79)]
      exact zN hc0 [2,3] [0]
     refine qW (zP h78)<|qF<|qA<|qA ?_
     obtain ⟨x,hx⟩:∃ x,x=((qG (qk s)).1)-1:=⟨_,rfl⟩
     obtain ⟨y,hy⟩:∃ y,y=((12*((((qG (qk s)).1)-1) / 7))+(Pi.nat7 ((((qG (qk s)).1)-1) % 7)))-(((zJ s).length:Nat):Int):=⟨_,rfl⟩
     refine qx (Wk.eq (show _=[ps 0 (sv (st s)),ps 2 (.opt 0 0),ps 11 (.opt 456 0),ps 134 (bv (decide ((((wO s).length:Nat):Int)<(s.length:Int)))),pb 0 41 [(iv 0),(iv 0)],pb 456 41 [(iv x),(iv y)]] from by rw [hx,hy])) ?_
     refine yJ qD 1 [.k3,.n,.n,.d,.r] [ps 13 (sv (st ((qE x y).1))),ps 14 (iv ((qE x y).2))] (zY 904 (zx x y (by unfold Pi.I64;omega) (by unfold Pi.I64;omega)) oz)<|qA ?_
     by_cases h81:((qE x y).2)=0
     ·refine zE qD (gn 3 2++[(5,.gd false (.val (.av (.bool (!decide (((qE x y).1)=s)))))),(6,.yes false)]) [.d,.k2,.d,.d,.n,.r] [ps 154 (bv (!(decide (((qE x y).1)=s))))] (on 3 (bt h81) (oc (zw _ _:(!((st ((qE x y).1)).toList == (st s).toList)) = !decide (((qE x y).1)=s)) (oc (bt h81) oz))) ?_
      by_cases h82:((qE x y).1)=s
      ·refine qW (bt h82)<|qF<|qA<|zU qD [] [ps 2 (.opt 0 0),ps 3 (iv 0),pb 0 41 [(iv x),(iv y)]] (oz) ?_
       rw [(qI (s:=s) h1 h2 h3 h4 h5 (wK (fun c=>h6 c.1) (fun c=>h37 c.1) (fun c=>c.2 h70) h71 h77 h70) (j:=(x,y)) (by unfold vQ qP;rw [if_neg (by omega)];exact Prod.ext (by show _=x;omega) (by show _=y;omega))).trans (zF h81 h82)]
       exact zN hc0 [2,3] [0]
      refine qX (bf h82)<|qA<|qL qD [.k1,.n,.d,.d,.k1,.d] [ps 3 (iv 2)] ?_
      rw [(qI (s:=s) h1 h2 h3 h4 h5 (wK (fun c=>h6 c.1) (fun c=>h37 c.1) (fun c=>c.2 h70) h71 h77 h70) (j:=(x,y)) (by unfold vQ qP;rw [if_neg (by omega)];exact Prod.ext (by show _=x;omega) (by show _=y;omega))).trans (zG h82)]
      exact zN hc0 [2,3] [0]
     refine zE qD (gy 3 3++[(6,.yes true)]) [.d,.k2,.d,.d,.n,.r] [ps 154 (bv true)] (on 4 (bf h81) oz)<|qU (b:=true) rfl rfl<|qA<|qL qD [.k1,.n,.d,.d,.k1,.d] [ps 3 (iv 2)] ?_
     rw [(qI (s:=s) h1 h2 h3 h4 h5 (wK (fun c=>h6 c.1) (fun c=>h37 c.1) (fun c=>c.2 h70) h71 h77 h70) (j:=(x,y)) (by unfold vQ qP;rw [if_neg (by omega)];exact Prod.ext (by show _=x;omega) (by show _=y;omega))).trans (zH h81)]
     exact zN hc0 [2,3] [0]
    refine zE qD ([(1,.call [] [(sv (st (zJ s))),(sv (st [100]))] [] (sv (st (Lib.trimS (zJ s) [100]))) []),(2,.val (.av (.bool (decide ((Lib.trimS (zJ s) [100])=([]:TX))))))]++gn 4 3++[(7,.yes false)]) [.k4,.d,.k2,.d,.n,.r] [ps 106 (bv false)] (zY 744 (yT (zJ s) [100] (by omega) (by decide) (yM (by decide))) (oc (zj _ _:((st (Lib.trimS (zJ s) [100])).toList == (st ([]:TX)).toList)=decide ((Lib.trimS (zJ s) [100])=([]:TX))) (on 4 (zP h77) oz)))<|zD (b:=false) rfl rfl<|qA<|zE qD [(1,.call [] [(sv (st (zJ s))),(sv (st [100]))] [] (sv (st (Lib.trimS (zJ s) [100]))) []),(2,.val (.av (.bool (decide ((Lib.trimS (zJ s) [100])=([]:TX))))))] [.k3,.d,.k2,.d,.n,.r] [ps 120 (bv (decide ((Lib.trimS (zJ s) [100])=([]:TX))))] (zY 816 (yT (zJ s) [100] (by omega) (by decide) (yM (by decide))) (oc (zj _ _:((st (Lib.trimS (zJ s) [100])).toList == (st ([]:TX)).toList)=decide ((Lib.trimS (zJ s) [100])=([]:TX))) oz))<|qW (zP h77)<|qA<|qL qD [.d,.k1,.n,.d,.d,.d,.d,.k1,.d] [ps 3 (iv 2)] ?_
    rw [Qk (s:=s) h1 h2 h3 h4 h5 (qcx (fun c=>h6 c.1) (fun c=>h37 c.1) (fun c=>c.2 h70) h71 h77)]
    exact zN hc0 [2,3] [0]
   refine qX (congrArg Bool.not (Bool.eq_false_iff.2 h70))<|zE qD [] [.k3,.d,.d,.k1,.d,.d,.k1,.d,.n] [pb 456 41 [(iv (((qG (qk s)).1)-1)),(iv (((12*((((qG (qk s)).1)-1) / 7))+(Pi.nat7 ((((qG (qk s)).1)-1) % 7)))-1))]] (oi (((12*((((qG (qk s)).1)-1) / 7))+(Pi.nat7 ((((qG (qk s)).1)-1) % 7)))-1) (by omega) oz)<|zM<|qA<|qA<|qL qD [.k2,.d,.k1,.n,.r] [ps 134 (bv (decide ((((wO s).length:Nat):Int)<(s.length:Int))))] ?_
   by_cases h83:(((wO s).length:Nat):Int)<(s.length:Int)
   ·refine qX (zR h83)<|zE qD [] [.k3,.d,.k1,.d,.n] [pb 456 41 [(iv (0-(((qG (qk s)).1)-1))),(iv (0-(((12*((((qG (qk s)).1)-1) / 7))+(Pi.nat7 ((((qG (qk s)).1)-1) % 7)))-1)))]] (oi (0-(((qG (qk s)).1)-1)) (by omega) (oi (0-(((12*((((qG (qk s)).1)-1) / 7))+(Pi.nat7 ((((qG (qk s)).1)-1) % 7)))-1)) (by omega) oz))<|qA<|qA ?_
    obtain ⟨x,hx⟩:∃ x,x=0-(((qG (qk s)).1)-1):=⟨_,rfl⟩
    obtain ⟨y,hy⟩:∃ y,y=0-(((12*((((qG (qk s)).1)-1) / 7))+(Pi.nat7 ((((qG (qk s)).1)-1) % 7)))-1):=⟨_,rfl⟩
    refine qx (Wk.eq (show _=[ps 0 (sv (st s)),ps 2 (.opt 0 0),ps 11 (.opt 456 0),pb 0 41 [(iv 0),(iv 0)],pb 456 41 [(iv x),(iv y)]] from by rw [hx,hy])) ?_
    refine yJ qD 1 [.k3,.n,.n,.r] [ps 13 (sv (st ((qE x y).1))),ps 14 (iv ((qE x y).2))] (zY 872 (zx x y (by unfold Pi.I64;omega) (by unfold Pi.I64;omega)) oz)<|qA ?_
    by_cases h84:((qE x y).2)=0
    ·refine zE qD (gn 3 2++[(5,.gd false (.val (.av (.bool (!decide (((qE x y).1)=s)))))),(6,.yes false)]) [.d,.k2,.d,.d,.n,.r] [ps 154 (bv (!(decide (((qE x y).1)=s))))] (on 3 (bt h84) (oc (zw _ _:(!((st ((qE x y).1)).toList == (st s).toList)) = !decide (((qE x y).1)=s)) (oc (bt h84) oz))) ?_
     by_cases h85:((qE x y).1)=s
     ·refine qW (bt h85)<|qF<|qA<|zU qD [] [ps 2 (.opt 0 0),ps 3 (iv 0),pb 0 41 [(iv x),(iv y)]] (oz) ?_
      rw [(qI (s:=s) h1 h2 h3 h4 h5 (YT (fun c=>h6 c.1) (fun c=>h37 c.1) h69 h70) (j:=(x,y)) (by unfold vQ qP;rw [if_pos (by omega)];exact Prod.ext (by show _=x;omega) (by show _=y;omega))).trans (zF h84 h85)]
      exact zN hc0 [2,3] [0]
     refine qX (bf h85)<|qA<|qL qD [.k1,.n,.d,.d,.k1,.d] [ps 3 (iv 2)] ?_
     rw [(qI (s:=s) h1 h2 h3 h4 h5 (YT (fun c=>h6 c.1) (fun c=>h37 c.1) h69 h70) (j:=(x,y)) (by unfold vQ qP;rw [if_pos (by omega)];exact Prod.ext (by show _=x;omega) (by show _=y;omega))).trans (zG h85)]
     exact zN hc0 [2,3] [0]
    refine zE qD (gy 3 3++[(6,.yes true)]) [.d,.k2,.d,.d,.n,.r] [ps 154 (bv true)] (on 4 (bf h84) oz)<|qU (b:=true) rfl rfl<|qA<|qL qD [.k1,.n,.d,.d,.k1,.d] [ps 3 (iv 2)] ?_
    rw [(qI (s:=s) h1 h2 h3 h4 h5 (YT (fun c=>h6 c.1) (fun c=>h37 c.1) h69 h70) (j:=(x,y)) (by unfold vQ qP;rw [if_pos (by omega)];exact Prod.ext (by show _=x;omega) (by show _=y;omega))).trans (zH h84)]
    exact zN hc0 [2,3] [0]
   refine qW (zP h83)<|qF<|qA<|qA ?_
   obtain ⟨x,hx⟩:∃ x,x=((qG (qk s)).1)-1:=⟨_,rfl⟩
   obtain ⟨y,hy⟩:∃ y,y=((12*((((qG (qk s)).1)-1) / 7))+(Pi.nat7 ((((qG (qk s)).1)-1) % 7)))-1:=⟨_,rfl⟩
   refine qx (Wk.eq (show _=[ps 0 (sv (st s)),ps 2 (.opt 0 0),ps 11 (.opt 456 0),ps 134 (bv (decide ((((wO s).length:Nat):Int)<(s.length:Int)))),pb 0 41 [(iv 0),(iv 0)],pb 456 41 [(iv x),(iv y)]] from by rw [hx,hy])) ?_
   refine yJ qD 1 [.k3,.n,.n,.d,.r] [ps 13 (sv (st ((qE x y).1))),ps 14 (iv ((qE x y).2))] (zY 792 (zx x y (by unfold Pi.I64;omega) (by unfold Pi.I64;omega)) oz)<|qA ?_
   by_cases h86:((qE x y).2)=0
   ·refine zE qD (gn 3 2++[(5,.gd false (.val (.av (.bool (!decide (((qE x y).1)=s)))))),(6,.yes false)]) [.d,.k2,.d,.d,.n,.r] [ps 154 (bv (!(decide (((qE x y).1)=s))))] (on 3 (bt h86) (oc (zw _ _:(!((st ((qE x y).1)).toList == (st s).toList)) = !decide (((qE x y).1)=s)) (oc (bt h86) oz))) ?_
    by_cases h87:((qE x y).1)=s
    ·refine qW (bt h87)<|qF<|qA<|zU qD [] [ps 2 (.opt 0 0),ps 3 (iv 0),pb 0 41 [(iv x),(iv y)]] (oz) ?_
     rw [(qI (s:=s) h1 h2 h3 h4 h5 (YT (fun c=>h6 c.1) (fun c=>h37 c.1) h69 h70) (j:=(x,y)) (by unfold vQ qP;rw [if_neg (by omega)];exact Prod.ext (by show _=x;omega) (by show _=y;omega))).trans (zF h86 h87)]
     exact zN hc0 [2,3] [0]
    refine qX (bf h87)<|qA<|qL qD [.k1,.n,.d,.d,.k1,.d] [ps 3 (iv 2)] ?_
    rw [(qI (s:=s) h1 h2 h3 h4 h5 (YT (fun c=>h6 c.1) (fun c=>h37 c.1) h69 h70) (j:=(x,y)) (by unfold vQ qP;rw [if_neg (by omega)];exact Prod.ext (by show _=x;omega) (by show _=y;omega))).trans (zG h87)]
    exact zN hc0 [2,3] [0]
   refine zE qD (gy 3 3++[(6,.yes true)]) [.d,.k2,.d,.d,.n,.r] [ps 154 (bv true)] (on 4 (bf h86) oz)<|qU (b:=true) rfl rfl<|qA<|qL qD [.k1,.n,.d,.d,.k1,.d] [ps 3 (iv 2)] ?_
   rw [(qI (s:=s) h1 h2 h3 h4 h5 (YT (fun c=>h6 c.1) (fun c=>h37 c.1) h69 h70) (j:=(x,y)) (by unfold vQ qP;rw [if_neg (by omega)];exact Prod.ext (by show _=x;omega) (by show _=y;omega))).trans (zH h86)]
   exact zN hc0 [2,3] [0]
  refine zE qD ([(1,.val (.av (.bool (decide ((zJ s)=([109]:TX))))))]++gn 3 4++[(7,.yes false)]) [.k7,.d,.n,.r] [ps 84 (bv false)] (oc (zj _ _:((st (zJ s)).toList == (st ([109]:TX)).toList)=decide ((zJ s)=([109]:TX))) (on 5 (zP h69) oz))<|zD (b:=false) rfl rfl<|qA<|zE qD [(1,.call [] [(sv (st (zJ s))),(sv (st [65]))] [] (sv (st (Lib.trimS (zJ s) [65]))) []),(2,.val (.av (.bool (decide ((Lib.trimS (zJ s) [65])=([]:TX))))))] [.k7,.d,.n,.r] [ps 97 (bv (decide ((Lib.trimS (zJ s) [65])=([]:TX))))] (zY 712 (yT (zJ s) [65] (by omega) (by decide) (yM (by decide))) (oc (zj _ _:((st (Lib.trimS (zJ s) [65])).toList == (st ([]:TX)).toList)=decide ((Lib.trimS (zJ s) [65])=([]:TX))) oz)) ?_
  by_cases h88:(Lib.trimS (zJ s) [65])=([]:TX)
  ·refine qX (zR h88)<|zE qD [] [.k3,.d,.d,.k1,.d,.d,.k1,.d,.n] [pb 456 41 [(iv (((qG (qk s)).1)-1)),(iv (((12*((((qG (qk s)).1)-1) / 7))+(Pi.nat7 ((((qG (qk s)).1)-1) % 7)))+(((zJ s).length:Nat):Int)))]] (oi (((12*((((qG (qk s)).1)-1) / 7))+(Pi.nat7 ((((qG (qk s)).1)-1) % 7)))+(((zJ s).length:Nat):Int)) (by omega) oz)<|zM<|qA<|qA<|qL qD [.k2,.d,.k1,.n,.r] [ps 134 (bv (decide ((((wO s).length:Nat):Int)<(s.length:Int))))] ?_
   by_cases h89:(((wO s).length:Nat):Int)<(s.length:Int)
   ·refine qX (zR h89)<|zE qD [] [.k3,.d,.k1,.d,.n] [pb 456 41 [(iv (0-(((qG (qk s)).1)-1))),(iv (0-(((12*((((qG (qk s)).1)-1) / 7))+(Pi.nat7 ((((qG (qk s)).1)-1) % 7)))+(((zJ s).length:Nat):Int))))]] (oi (0-(((qG (qk s)).1)-1)) (by omega) (oi (0-(((12*((((qG (qk s)).1)-1) / 7))+(Pi.nat7 ((((qG (qk s)).1)-1) % 7)))+(((zJ s).length:Nat):Int))) (by omega) oz))<|qA<|qA ?_
    obtain ⟨x,hx⟩:∃ x,x=0-(((qG (qk s)).1)-1):=⟨_,rfl⟩
    obtain ⟨y,hy⟩:∃ y,y=0-(((12*((((qG (qk s)).1)-1) / 7))+(Pi.nat7 ((((qG (qk s)).1)-1) % 7)))+(((zJ s).length:Nat):Int)):=⟨_,rfl⟩
    refine qx (Wk.eq (show _=[ps 0 (sv (st s)),ps 2 (.opt 0 0),ps 11 (.opt 456 0),pb 0 41 [(iv 0),(iv 0)],pb 456 41 [(iv x),(iv y)]] from by rw [hx,hy])) ?_
    refine yJ qD 1 [.k3,.n,.n,.r] [ps 13 (sv (st ((qE x y).1))),ps 14 (iv ((qE x y).2))] (zY 912 (zx x y (by unfold Pi.I64;omega) (by unfold Pi.I64;omega)) oz)<|qA ?_
    by_cases h90:((qE x y).2)=0
    ·refine zE qD (gn 3 2++[(5,.gd false (.val (.av (.bool (!decide (((qE x y).1)=s)))))),(6,.yes false)]) [.d,.k2,.d,.d,.n,.r] [ps 154 (bv (!(decide (((qE x y).1)=s))))] (on 3 (bt h90) (oc (zw _ _:(!((st ((qE x y).1)).toList == (st s).toList)) = !decide (((qE x y).1)=s)) (oc (bt h90) oz))) ?_
     by_cases h91:((qE x y).1)=s
     ·refine qW (bt h91)<|qF<|qA<|zU qD [] [ps 2 (.opt 0 0),ps 3 (iv 0),pb 0 41 [(iv x),(iv y)]] (oz) ?_
      rw [(qI (s:=s) h1 h2 h3 h4 h5 (vY (fun c=>h6 c.1) (fun c=>h37 c.1) (fun c=>h69 c.1) h88) (j:=(x,y)) (by unfold vQ qP;rw [if_pos (by omega)];exact Prod.ext (by show _=x;omega) (by show _=y;omega))).trans (zF h90 h91)]
      exact zN hc0 [2,3] [0]
     refine qX (bf h91)<|qA<|qL qD [.k1,.n,.d,.d,.k1,.d] [ps 3 (iv 2)] ?_
     rw [(qI (s:=s) h1 h2 h3 h4 h5 (vY (fun c=>h6 c.1) (fun c=>h37 c.1) (fun c=>h69 c.1) h88) (j:=(x,y)) (by unfold vQ qP;rw [if_pos (by omega)];exact Prod.ext (by show _=x;omega) (by show _=y;omega))).trans (zG h91)]
     exact zN hc0 [2,3] [0]
    refine zE qD (gy 3 3++[(6,.yes true)]) [.d,.k2,.d,.d,.n,.r] [ps 154 (bv true)] (on 4 (bf h90) oz)<|qU (b:=true) rfl rfl<|qA<|qL qD [.k1,.n,.d,.d,.k1,.d] [ps 3 (iv 2)] ?_
    rw [(qI (s:=s) h1 h2 h3 h4 h5 (vY (fun c=>h6 c.1) (fun c=>h37 c.1) (fun c=>h69 c.1) h88) (j:=(x,y)) (by unfold vQ qP;rw [if_pos (by omega)];exact Prod.ext (by show _=x;omega) (by show _=y;omega))).trans (zH h90)]
    exact zN hc0 [2,3] [0]
   refine qW (zP h89)<|qF<|qA<|qA ?_
   obtain ⟨x,hx⟩:∃ x,x=((qG (qk s)).1)-1:=⟨_,rfl⟩
   obtain ⟨y,hy⟩:∃ y,y=((12*((((qG (qk s)).1)-1) / 7))+(Pi.nat7 ((((qG (qk s)).1)-1) % 7)))+(((zJ s).length:Nat):Int):=⟨_,rfl⟩
   refine qx (Wk.eq (show _=[ps 0 (sv (st s)),ps 2 (.opt 0 0),ps 11 (.opt 456 0),ps 134 (bv (decide ((((wO s).length:Nat):Int)<(s.length:Int)))),pb 0 41 [(iv 0),(iv 0)],pb 456 41 [(iv x),(iv y)]] from by rw [hx,hy])) ?_
   refine yJ qD 1 [.k3,.n,.n,.d,.r] [ps 13 (sv (st ((qE x y).1))),ps 14 (iv ((qE x y).2))] (zY 832 (zx x y (by unfold Pi.I64;omega) (by unfold Pi.I64;omega)) oz)<|qA ?_
   by_cases h92:((qE x y).2)=0
   ·refine zE qD (gn 3 2++[(5,.gd false (.val (.av (.bool (!decide (((qE x y).1)=s)))))),(6,.yes false)]) [.d,.k2,.d,.d,.n,.r] [ps 154 (bv (!(decide (((qE x y).1)=s))))] (on 3 (bt h92) (oc (zw _ _:(!((st ((qE x y).1)).toList == (st s).toList)) = !decide (((qE x y).1)=s)) (oc (bt h92) oz))) ?_
    by_cases h93:((qE x y).1)=s
    ·refine qW (bt h93)<|qF<|qA<|zU qD [] [ps 2 (.opt 0 0),ps 3 (iv 0),pb 0 41 [(iv x),(iv y)]] (oz) ?_
     rw [(qI (s:=s) h1 h2 h3 h4 h5 (vY (fun c=>h6 c.1) (fun c=>h37 c.1) (fun c=>h69 c.1) h88) (j:=(x,y)) (by unfold vQ qP;rw [if_neg (by omega)];exact Prod.ext (by show _=x;omega) (by show _=y;omega))).trans (zF h92 h93)]
     exact zN hc0 [2,3] [0]
    refine qX (bf h93)<|qA<|qL qD [.k1,.n,.d,.d,.k1,.d] [ps 3 (iv 2)] ?_
    rw [(qI (s:=s) h1 h2 h3 h4 h5 (vY (fun c=>h6 c.1) (fun c=>h37 c.1) (fun c=>h69 c.1) h88) (j:=(x,y)) (by unfold vQ qP;rw [if_neg (by omega)];exact Prod.ext (by show _=x;omega) (by show _=y;omega))).trans (zG h93)]
    exact zN hc0 [2,3] [0]
   refine zE qD (gy 3 3++[(6,.yes true)]) [.d,.k2,.d,.d,.n,.r] [ps 154 (bv true)] (on 4 (bf h92) oz)<|qU (b:=true) rfl rfl<|qA<|qL qD [.k1,.n,.d,.d,.k1,.d] [ps 3 (iv 2)] ?_
   rw [(qI (s:=s) h1 h2 h3 h4 h5 (vY (fun c=>h6 c.1) (fun c=>h37 c.1) (fun c=>h69 c.1) h88) (j:=(x,y)) (by unfold vQ qP;rw [if_neg (by omega)];exact Prod.ext (by show _=x;omega) (by show _=y;omega))).trans (zH h92)]
   exact zN hc0 [2,3] [0]
  refine qW (zP h88)<|qA ?_
  by_cases h94:(Lib.trimS (zJ s) [100])=([]:TX)
  ·refine zE qD ([(1,.call [] [(sv (st (zJ s))),(sv (st [100]))] [] (sv (st (Lib.trimS (zJ s) [100]))) []),(2,.val (.av (.bool (decide ((Lib.trimS (zJ s) [100])=([]:TX))))))]++gy 4 2++[(6,.gd true (.call [] [(iv (((qG (qk s)).1)-1))] [] (bv (zL (((qG (qk s)).1)-1))) [])),(7,.yes true)]) [.k4,.d,.k2,.d,.n,.r] [ps 106 (bv (zL (((qG (qk s)).1)-1)))] (zY 744 (yT (zJ s) [100] (by omega) (by decide) (yM (by decide))) (oc (zj _ _:((st (Lib.trimS (zJ s) [100])).toList == (st ([]:TX)).toList)=decide ((Lib.trimS (zJ s) [100])=([]:TX))) (on 2 (zR h94) (oi (((qG (qk s)).1)-1) (by omega) (oc (zR h94) (zY 784 (yN (((qG (qk s)).1)-1) (by omega)) (oc (zR h94) oz))))))) ?_
   by_cases h95:(zL (((qG (qk s)).1)-1))=true
   ·refine qU (b:=(zL (((qG (qk s)).1)-1))) rfl h95<|zE qD [] [.k3,.d,.k1,.d,.d,.k1,.d,.n] [pb 456 41 [(iv (((qG (qk s)).1)-1)),(iv (((12*((((qG (qk s)).1)-1) / 7))+(Pi.nat7 ((((qG (qk s)).1)-1) % 7)))-(((zJ s).length:Nat):Int)))]] (oi (((12*((((qG (qk s)).1)-1) / 7))+(Pi.nat7 ((((qG (qk s)).1)-1) % 7)))-(((zJ s).length:Nat):Int)) (by omega) oz)<|zM<|qA<|qA<|qL qD [.k2,.d,.k1,.n,.r] [ps 134 (bv (decide ((((wO s).length:Nat):Int)<(s.length:Int))))] ?_
    by_cases h96:(((wO s).length:Nat):Int)<(s.length:Int)
    ·refine qX (zR h96)<|zE qD [] [.k3,.d,.k1,.d,.n] [pb 456 41 [(iv (0-(((qG (qk s)).1)-1))),(iv (0-(((12*((((qG (qk s)).1)-1) / 7))+(Pi.nat7 ((((qG (qk s)).1)-1) % 7)))-(((zJ s).length:Nat):Int))))]] (oi (0-(((qG (qk s)).1)-1)) (by omega) (oi (0-(((12*((((qG (qk s)).1)-1) / 7))+(Pi.nat7 ((((qG (qk s)).1)-1) % 7)))-(((zJ s).length:Nat):Int))) (by omega) oz))<|qA<|qA ?_
     obtain ⟨x,hx⟩:∃ x,x=0-(((qG (qk s)).1)-1):=⟨_,rfl⟩
     obtain ⟨y,hy⟩:∃ y,y=0-(((12*((((qG (qk s)).1)-1) / 7))+(Pi.nat7 ((((qG (qk s)).1)-1) % 7)))-(((zJ s).length:Nat):Int)):=⟨_,rfl⟩
     refine qx (Wk.eq (show _=[ps 0 (sv (st s)),ps 2 (.opt 0 0),ps 11 (.opt 456 0),pb 0 41 [(iv 0),(iv 0)],pb 456 41 [(iv x),(iv y)]] from by rw [hx,hy])) ?_
     refine yJ qD 1 [.k3,.n,.n,.r] [ps 13 (sv (st ((qE x y).1))),ps 14 (iv ((qE x y).2))] (zY 984 (zx x y (by unfold Pi.I64;omega) (by unfold Pi.I64;omega)) oz)<|qA ?_
     by_cases h97:((qE x y).2)=0
     ·refine zE qD (gn 3 2++[(5,.gd false (.val (.av (.bool (!decide (((qE x y).1)=s)))))),(6,.yes false)]) [.d,.k2,.d,.d,.n,.r] [ps 154 (bv (!(decide (((qE x y).1)=s))))] (on 3 (bt h97) (oc (zw _ _:(!((st ((qE x y).1)).toList == (st s).toList)) = !decide (((qE x y).1)=s)) (oc (bt h97) oz))) ?_
      by_cases h98:((qE x y).1)=s
      ·refine qW (bt h98)<|qF<|qA<|zU qD [] [ps 2 (.opt 0 0),ps 3 (iv 0),pb 0 41 [(iv x),(iv y)]] (oz) ?_
       rw [(qI (s:=s) h1 h2 h3 h4 h5 (wK (fun c=>h6 c.1) (fun c=>h37 c.1) (fun c=>h69 c.1) h88 h94 h95) (j:=(x,y)) (by unfold vQ qP;rw [if_pos (by omega)];exact Prod.ext (by show _=x;omega) (by show _=y;omega))).trans (zF h97 h98)]
       exact zN hc0 [2,3] [0]
      refine qX (bf h98)<|qA<|qL qD [.k1,.n,.d,.d,.k1,.d] [ps 3 (iv 2)] ?_
      rw [(qI (s:=s) h1 h2 h3 h4 h5 (wK (fun c=>h6 c.1) (fun c=>h37 c.1) (fun c=>h69 c.1) h88 h94 h95) (j:=(x,y)) (by unfold vQ qP;rw [if_pos (by omega)];exact Prod.ext (by show _=x;omega) (by show _=y;omega))).trans (zG h98)]
      exact zN hc0 [2,3] [0]
     refine zE qD (gy 3 3++[(6,.yes true)]) [.d,.k2,.d,.d,.n,.r] [ps 154 (bv true)] (on 4 (bf h97) oz)<|qU (b:=true) rfl rfl<|qA<|qL qD [.k1,.n,.d,.d,.k1,.d] [ps 3 (iv 2)] ?_
     rw [(qI (s:=s) h1 h2 h3 h4 h5 (wK (fun c=>h6 c.1) (fun c=>h37 c.1) (fun c=>h69 c.1) h88 h94 h95) (j:=(x,y)) (by unfold vQ qP;rw [if_pos (by omega)];exact Prod.ext (by show _=x;omega) (by show _=y;omega))).trans (zH h97)]
     exact zN hc0 [2,3] [0]
    refine qW (zP h96)<|qF<|qA<|qA ?_
    obtain ⟨x,hx⟩:∃ x,x=((qG (qk s)).1)-1:=⟨_,rfl⟩
    obtain ⟨y,hy⟩:∃ y,y=((12*((((qG (qk s)).1)-1) / 7))+(Pi.nat7 ((((qG (qk s)).1)-1) % 7)))-(((zJ s).length:Nat):Int):=⟨_,rfl⟩
    refine qx (Wk.eq (show _=[ps 0 (sv (st s)),ps 2 (.opt 0 0),ps 11 (.opt 456 0),ps 134 (bv (decide ((((wO s).length:Nat):Int)<(s.length:Int)))),pb 0 41 [(iv 0),(iv 0)],pb 456 41 [(iv x),(iv y)]] from by rw [hx,hy])) ?_
    refine yJ qD 1 [.k3,.n,.n,.d,.r] [ps 13 (sv (st ((qE x y).1))),ps 14 (iv ((qE x y).2))] (zY 904 (zx x y (by unfold Pi.I64;omega) (by unfold Pi.I64;omega)) oz)<|qA ?_
    by_cases h99:((qE x y).2)=0
    ·refine zE qD (gn 3 2++[(5,.gd false (.val (.av (.bool (!decide (((qE x y).1)=s)))))),(6,.yes false)]) [.d,.k2,.d,.d,.n,.r] [ps 154 (bv (!(decide (((qE x y).1)=s))))] (on 3 (bt h99) (oc (zw _ _:(!((st ((qE x y).1)).toList == (st s).toList)) = !decide (((qE x y).1)=s)) (oc (bt h99) oz))) ?_
     by_cases h100:((qE x y).1)=s
     ·refine qW (bt h100)<|qF<|qA<|zU qD [] [ps 2 (.opt 0 0),ps 3 (iv 0),pb 0 41 [(iv x),(iv y)]] (oz) ?_
      rw [(qI (s:=s) h1 h2 h3 h4 h5 (wK (fun c=>h6 c.1) (fun c=>h37 c.1) (fun c=>h69 c.1) h88 h94 h95) (j:=(x,y)) (by unfold vQ qP;rw [if_neg (by omega)];exact Prod.ext (by show _=x;omega) (by show _=y;omega))).trans (zF h99 h100)]
      exact zN hc0 [2,3] [0]
     refine qX (bf h100)<|qA<|qL qD [.k1,.n,.d,.d,.k1,.d] [ps 3 (iv 2)] ?_
     rw [(qI (s:=s) h1 h2 h3 h4 h5 (wK (fun c=>h6 c.1) (fun c=>h37 c.1) (fun c=>h69 c.1) h88 h94 h95) (j:=(x,y)) (by unfold vQ qP;rw [if_neg (by omega)];exact Prod.ext (by show _=x;omega) (by show _=y;omega))).trans (zG h100)]
     exact zN hc0 [2,3] [0]
    refine zE qD (gy 3 3++[(6,.yes true)]) [.d,.k2,.d,.d,.n,.r] [ps 154 (bv true)] (on 4 (bf h99) oz)<|qU (b:=true) rfl rfl<|qA<|qL qD [.k1,.n,.d,.d,.k1,.d] [ps 3 (iv 2)] ?_
    rw [(qI (s:=s) h1 h2 h3 h4 h5 (wK (fun c=>h6 c.1) (fun c=>h37 c.1) (fun c=>h69 c.1) h88 h94 h95) (j:=(x,y)) (by unfold vQ qP;rw [if_neg (by omega)];exact Prod.ext (by show _=x;omega) (by show _=y;omega))).trans (zH h99)]
    exact zN hc0 [2,3] [0]
   refine zD (b:=(zL (((qG (qk s)).1)-1))) rfl (Bool.eq_false_iff.2 h95)<|qA<|zE qD [(1,.call [] [(sv (st (zJ s))),(sv (st [100]))] [] (sv (st (Lib.trimS (zJ s) [100]))) []),(2,.val (.av (.bool (decide ((Lib.trimS (zJ s) [100])=([]:TX))))))] [.k3,.d,.k2,.d,.n,.r] [ps 120 (bv (decide ((Lib.trimS (zJ s) [100])=([]:TX))))] (zY 816 (yT (zJ s) [100] (by omega) (by decide) (yM (by decide))) (oc (zj _ _:((st (Lib.trimS (zJ s) [100])).toList == (st ([]:TX)).toList)=decide ((Lib.trimS (zJ s) [100])=([]:TX))) oz))<|qX (zR h94)<|zE qD [] [.k4,.d,.d,.k1,.d,.n] [pb 456 41 [(iv (((qG (qk s)).1)-1)),(iv (((12*((((qG (qk s)).1)-1) / 7))+(Pi.nat7 ((((qG (qk s)).1)-1) % 7)))-((((zJ s).length:Nat):Int)+1)))]] (oi ((((zJ s).length:Nat):Int)+1) (by omega) (oi (((12*((((qG (qk s)).1)-1) / 7))+(Pi.nat7 ((((qG (qk s)).1)-1) % 7)))-((((zJ s).length:Nat):Int)+1)) (by omega) oz))<|zM<|qA<|qA<|qL qD [.k2,.d,.k1,.n,.r] [ps 134 (bv (decide ((((wO s).length:Nat):Int)<(s.length:Int))))] ?_
   by_cases h101:(((wO s).length:Nat):Int)<(s.length:Int)
   ·refine qX (zR h101)<|zE qD [] [.k3,.d,.k1,.d,.n] [pb 456 41 [(iv (0-(((qG (qk s)).1)-1))),(iv (0-(((12*((((qG (qk s)).1)-1) / 7))+(Pi.nat7 ((((qG (qk s)).1)-1) % 7)))-((((zJ s).length:Nat):Int)+1))))]] (oi (0-(((qG (qk s)).1)-1)) (by omega) (oi (0-(((12*((((qG (qk s)).1)-1) / 7))+(Pi.nat7 ((((qG (qk s)).1)-1) % 7)))-((((zJ s).length:Nat):Int)+1))) (by omega) oz))<|qA<|qA ?_
    obtain ⟨x,hx⟩:∃ x,x=0-(((qG (qk s)).1)-1):=⟨_,rfl⟩
    obtain ⟨y,hy⟩:∃ y,y=0-(((12*((((qG (qk s)).1)-1) / 7))+(Pi.nat7 ((((qG (qk s)).1)-1) % 7)))-((((zJ s).length:Nat):Int)+1)):=⟨_,rfl⟩
    refine qx (Wk.eq (show _=[ps 0 (sv (st s)),ps 2 (.opt 0 0),ps 11 (.opt 456 0),pb 0 41 [(iv 0),(iv 0)],pb 456 41 [(iv x),(iv y)]] from by rw [hx,hy])) ?_
    refine yJ qD 1 [.k3,.n,.n,.r] [ps 13 (sv (st ((qE x y).1))),ps 14 (iv ((qE x y).2))] (zY 1024 (zx x y (by unfold Pi.I64;omega) (by unfold Pi.I64;omega)) oz)<|qA ?_
    by_cases h102:((qE x y).2)=0
    ·refine zE qD (gn 3 2++[(5,.gd false (.val (.av (.bool (!decide (((qE x y).1)=s)))))),(6,.yes false)]) [.d,.k2,.d,.d,.n,.r] [ps 154 (bv (!(decide (((qE x y).1)=s))))] (on 3 (bt h102) (oc (zw _ _:(!((st ((qE x y).1)).toList == (st s).toList)) = !decide (((qE x y).1)=s)) (oc (bt h102) oz))) ?_
     by_cases h103:((qE x y).1)=s
     ·refine qW (bt h103)<|qF<|qA<|zU qD [] [ps 2 (.opt 0 0),ps 3 (iv 0),pb 0 41 [(iv x),(iv y)]] (oz) ?_
      rw [(qI (s:=s) h1 h2 h3 h4 h5 (QI (fun c=>h6 c.1) (fun c=>h37 c.1) (fun c=>h69 c.1) h88 h94 h95) (j:=(x,y)) (by unfold vQ qP;rw [if_pos (by omega)];exact Prod.ext (by show _=x;omega) (by show _=y;omega))).trans (zF h102 h103)]
      exact zN hc0 [2,3] [0]
     refine qX (bf h103)<|qA<|qL qD [.k1,.n,.d,.d,.k1,.d] [ps 3 (iv 2)] ?_
     rw [(qI (s:=s) h1 h2 h3 h4 h5 (QI (fun c=>h6 c.1) (fun c=>h37 c.1) (fun c=>h69 c.1) h88 h94 h95) (j:=(x,y)) (by unfold vQ qP;rw [if_pos (by omega)];exact Prod.ext (by show _=x;omega) (by show _=y;omega))).trans (zG h103)]
     exact zN hc0 [2,3] [0]
    refine zE qD (gy 3 3++[(6,.yes true)]) [.d,.k2,.d,.d,.n,.r] [ps 154 (bv true)] (on 4 (bf h102) oz)<|qU (b:=true) rfl rfl<|qA<|qL qD [.k1,.n,.d,.d,.k1,.d] [ps 3 (iv 2)] ?_
    rw [(qI (s:=s) h1 h2 h3 h4 h5 (QI (fun c=>h6 c.1) (fun c=>h37 c.1) (fun c=>h69 c.1) h88 h94 h95) (j:=(x,y)) (by unfold vQ qP;rw [if_pos (by omega)];exact Prod.ext (by show _=x;omega) (by show _=y;omega))).trans (zH h102)]
    exact zN hc0 [2,3] [0]
   refine qW (zP h101)<|qF<|qA<|qA ?_
   obtain ⟨x,hx⟩:∃ x,x=((qG (qk s)).1)-1:=⟨_,rfl⟩
   obtain ⟨y,hy⟩:∃ y,y=((12*((((qG (qk s)).1)-1) / 7))+(Pi.nat7 ((((qG (qk s)).1)-1) % 7)))-((((zJ s).length:Nat):Int)+1):=⟨_,rfl⟩
   refine qx (Wk.eq (show _=[ps 0 (sv (st s)),ps 2 (.opt 0 0),ps 11 (.opt 456 0),ps 134 (bv (decide ((((wO s).length:Nat):Int)<(s.length:Int)))),pb 0 41 [(iv 0),(iv 0)],pb 456 41 [(iv x),(iv y)]] from by rw [hx,hy])) ?_
   refine yJ qD 1 [.k3,.n,.n,.d,.r] [ps 13 (sv (st ((qE x y).1))),ps 14 (iv ((qE x y).2))] (zY 944 (zx x y (by unfold Pi.I64;omega) (by unfold Pi.I64;omega)) oz)<|qA ?_
   by_cases h104:((qE x y).2)=0
   ·refine zE qD (gn 3 2++[(5,.gd false (.val (.av (.bool (!decide (((qE x y).1)=s)))))),(6,.yes false)]) [.d,.k2,.d,.d,.n,.r] [ps 154 (bv (!(decide (((qE x y).1)=s))))] (on 3 (bt h104) (oc (zw _ _:(!((st ((qE x y).1)).toList == (st s).toList)) = !decide (((qE x y).1)=s)) (oc (bt h104) oz))) ?_
    by_cases h105:((qE x y).1)=s
    ·refine qW (bt h105)<|qF<|qA<|zU qD [] [ps 2 (.opt 0 0),ps 3 (iv 0),pb 0 41 [(iv x),(iv y)]] (oz) ?_
     rw [(qI (s:=s) h1 h2 h3 h4 h5 (QI (fun c=>h6 c.1) (fun c=>h37 c.1) (fun c=>h69 c.1) h88 h94 h95) (j:=(x,y)) (by unfold vQ qP;rw [if_neg (by omega)];exact Prod.ext (by show _=x;omega) (by show _=y;omega))).trans (zF h104 h105)]
     exact zN hc0 [2,3] [0]
    refine qX (bf h105)<|qA<|qL qD [.k1,.n,.d,.d,.k1,.d] [ps 3 (iv 2)] ?_
    rw [(qI (s:=s) h1 h2 h3 h4 h5 (QI (fun c=>h6 c.1) (fun c=>h37 c.1) (fun c=>h69 c.1) h88 h94 h95) (j:=(x,y)) (by unfold vQ qP;rw [if_neg (by omega)];exact Prod.ext (by show _=x;omega) (by show _=y;omega))).trans (zG h105)]
    exact zN hc0 [2,3] [0]
   refine zE qD (gy 3 3++[(6,.yes true)]) [.d,.k2,.d,.d,.n,.r] [ps 154 (bv true)] (on 4 (bf h104) oz)<|qU (b:=true) rfl rfl<|qA<|qL qD [.k1,.n,.d,.d,.k1,.d] [ps 3 (iv 2)] ?_
   rw [(qI (s:=s) h1 h2 h3 h4 h5 (QI (fun c=>h6 c.1) (fun c=>h37 c.1) (fun c=>h69 c.1) h88 h94 h95) (j:=(x,y)) (by unfold vQ qP;rw [if_neg (by omega)];exact Prod.ext (by show _=x;omega) (by show _=y;omega))).trans (zH h104)]
   exact zN hc0 [2,3] [0]
  refine zE qD ([(1,.call [] [(sv (st (zJ s))),(sv (st [100]))] [] (sv (st (Lib.trimS (zJ s) [100]))) []),(2,.val (.av (.bool (decide ((Lib.trimS (zJ s) [100])=([]:TX))))))]++gn 4 3++[(7,.yes false)]) [.k4,.d,.k2,.d,.n,.r] [ps 106 (bv false)] (zY 744 (yT (zJ s) [100] (by omega) (by decide) (yM (by decide))) (oc (zj _ _:((st (Lib.trimS (zJ s) [100])).toList == (st ([]:TX)).toList)=decide ((Lib.trimS (zJ s) [100])=([]:TX))) (on 4 (zP h94) oz)))<|zD (b:=false) rfl rfl<|qA<|zE qD [(1,.call [] [(sv (st (zJ s))),(sv (st [100]))] [] (sv (st (Lib.trimS (zJ s) [100]))) []),(2,.val (.av (.bool (decide ((Lib.trimS (zJ s) [100])=([]:TX))))))] [.k3,.d,.k2,.d,.n,.r] [ps 120 (bv (decide ((Lib.trimS (zJ s) [100])=([]:TX))))] (zY 816 (yT (zJ s) [100] (by omega) (by decide) (yM (by decide))) (oc (zj _ _:((st (Lib.trimS (zJ s) [100])).toList == (st ([]:TX)).toList)=decide ((Lib.trimS (zJ s) [100])=([]:TX))) oz))<|qW (zP h94)<|qA<|qL qD [.d,.k1,.n,.d,.d,.d,.d,.k1,.d] [ps 3 (iv 2)] ?_
  rw [Qk (s:=s) h1 h2 h3 h4 h5 (qcx (fun c=>h6 c.1) (fun c=>h37 c.1) (fun c=>h69 c.1) h88 h94)]
  exact zN hc0 [2,3] [0]
 refine zE qD (gy 3 2++[(5,.yes true)]++gy 7 2) [.k5,.d,.n,.r] [ps 40 (bv true)] (oc (congrArg Bool.not (Bool.eq_false_iff.2 h1):(!((qG (qk s)).2))=true) (oc (congrArg Bool.not (Bool.eq_false_iff.2 h1):(!((qG (qk s)).2))=true) (oc (congrArg Bool.not (Bool.eq_false_iff.2 h1):(!((qG (qk s)).2))=true) (on 2 tt oz))))<|qU (b:=true) rfl rfl<|qA<|qL qD [.d,.k1,.n,.d,.d,.d,.d,.r] [ps 3 (iv 2)] ?_
 rw [WO (s:=s) (.inl h1)]
 exact zN hc0 [2,3] [0]
theorem named_pc (s:List UInt8) (hs:s.length≤9223372036854775807):PC Tryz.prog 139 [(sv (st s))] [] ((.tup [(.agg [(iv ((zX s).1.1)),(iv ((zX s).1.2))]),(iv ((zX s).2))])) []:=qhd [none] rfl (fun i=>by rcases i with _|_|i <;> rfl) (named_pc0 s hs)
theorem pts_len (l:List Pt):(yI l).length=l.length*3:=Zv ptC 3 (fun _=>rfl) l
theorem qck (l:List Pt):YY (yI l):=qat ptC (fun _=>rfl) l
section
end
theorem gr_end {s:qJ} {lv:Int} {a k:Nat} (ha:a≤s.length) (h0:(yP s lv a k).1=0):Zw s a (yP s lv a k).2.2.1∧(yP s lv a k).2.2.2<k:=by
 rw [VH] at h0 ⊢
 split at h0
 ·rename_i c
  rw [if_pos c]
  have:=yA c
  have hga:=vR s a
  have h2:=grL_end (lv:=lv) (l:=[]) (k:=k) (show qB s a+1≤s.length by omega) h0
  exact ⟨⟨by have:=h2.1.1;omega,h2.1.2⟩,h2.2⟩
 ·cases h0
theorem qla (s:qJ) (hs:s.length≤65536) (hr:Rdy s) (lv:Int) (hlv:0≤lv∧lv≤32) (a k:Nat) (ha:a≤s.length) (hk:k≤4095) (ihg:0<k→lv≤31→∀ (b:Nat),b≤s.length→PO Tryz.prog 140 [.opt 0 0,iv lv] [some (98,[sv (st s),nv b,nv (k-1)])] (if (yP s lv b (k-1)).1=0 then .ret (.ssl (zT (yP s lv b (k-1)).2.1) 0 (yP s lv b (k-1)).2.1.length) [some (98,[sv (st s),nv (yP s lv b (k-1)).2.2.1,nv (yP s lv b (k-1)).2.2.2])] else .pan (yz (yP s lv b (k-1)).1 (((yP s lv b (k-1)).2.2.1:Nat):Int)) [none])):PO Tryz.prog 109 [(.opt 0 0),(iv lv)] [some (98,(vC s a k))] (if (qZ s lv a k).1=0 then .ret (.agg (gI (qZ s lv a k).2.1)) [some (98,(vC s ((qZ s lv a k).2.2.1) ((qZ s lv a k).2.2.2))),none] else .pan (yz ((qZ s lv a k).1) (((qZ s lv a k).2.2.1:Nat):Int)) [none]):=by
 refine jJ Tryz.func109 rfl (by kernel_rfl) (QT (Nat.le_of_ble_eq_true rfl) (Nat.le_of_ble_eq_true rfl)) (by kernel_rfl) (l0:=[ps 0 (.opt 0 0),ps 1 (iv lv),pb 0 98 (vC s a k)]) rfl (fun c0 Bor hc0=>?_)
 refine qA<|qL qD [.k2,.n,.k1,.n] [ps 4 (.opt 1 0),pb 1 50 [(iv 0),(iv 0),sn,(iv 0),(iv 0),se,sn]]<|qA<|vX qD 1 [.k3,.d,.n,.r] [pb 0 98 (vC s (qB s a) k)] (wM [0] 17 (qhp s a (k:Int) hs (by omega)) oz)<|qA<|qA<|zE qD [] [.k3,.d,.n,.r] [pb 0 98 (r3 s (qB s a) (((k:Nat):Int)-1))] (oi (((k:Nat):Int)-1) (by omega) oz)<|qA ?_
 have hga:=yR ha
 have hgg:=vR s a
 have hwl:=vO ha
 by_cases h1:(((k:Nat):Int)-1)<0
 ·refine zE qD (gy 6 2++[(8,.yes true)]) [.k3,.n,.r] [ps 27 (bv true)] (oc (decide_eq_true h1) (oc (decide_eq_true h1) (oc (decide_eq_true h1) oz)))<|qU (b:=true) rfl rfl ?_
  rw [show (qZ s lv a k)=(4,qV,qB s a,0) from by rw [yZ,if_pos (by omega)],if_neg (by show ¬ ((4:Int)=0);decide)]
  exact vM qD [(1,.call [0] [(.opt 0 0),(iv 4)] [some (98,(r3 s (qB s a) (((k:Nat):Int)-1)))] (.av (yz 4 (qB s a:Int))) [none])] [] 1 [] (QK [0] 169 (yV s (qB s a) (((k:Nat):Int)-1) 4) oz) (fun cx_ a_ hI_=>zW hc0 hI_)
 refine zE qD (gn 6 2++[(8,.yes false)]) [.k3,.n,.r] [ps 27 (bv (decide (31<lv)))] (oc (decide_eq_false h1) (oc (decide_eq_false h1) (oc (decide_eq_false h1) oz))) ?_
 by_cases h2:31<lv
 ·refine qX (decide_eq_true h2) ?_
  rw [show (qZ s lv a k)=(4,qV,qB s a,0) from by rw [yZ,if_pos (by omega)],if_neg (by show ¬ ((4:Int)=0);decide)]
  exact vM qD [(1,.call [0] [(.opt 0 0),(iv 4)] [some (98,(r3 s (qB s a) (((k:Nat):Int)-1)))] (.av (yz 4 (qB s a:Int))) [none])] [] 1 [] (QK [0] 169 (yV s (qB s a) (((k:Nat):Int)-1) 4) oz) (fun cx_ a_ hI_=>zW hc0 hI_)
 refine qW (decide_eq_false h2)<|qF<|qA ?_
 have hk0:¬ (k=0∨31<lv):=by omega
 have hk1:(k:Int)-1=((k-1:Nat):Int):=by omega
 refine qx (Wk.eq (show _=[ps 0 (.opt 0 0),ps 1 (iv lv),ps 4 (.opt 1 0),ps 27 (bv (decide (31<lv))),pb 0 98 (vC s (qB s a) (k-1)),pb 1 50 [(iv 0),(iv 0),sn,(iv 0),(iv 0),se,sn]] from by rw [hk1])) ?_
 refine qL qD [.k3,.n,.d,.k2,.n] [ps 5 (.opt 169 0),pb 169 50 [(iv 0),(iv 1),sn,(iv 0),(iv 0),se,sn]]<|qA<|qA<|vX qD 1 [.k4,.n,.r] [ps 6 (sv (st (qC s a)))] (wM [0] 193 (qdq s a ((k-1:Nat):Int) hs hr (by omega)) oz)<|zI<|qA<|zE qD [(1,.val (.av (.bool (decide ((qC s a)=([45]:TX))))))] [.k5,.n,.r] [ps 38 (bv (decide ((qC s a)=([45]:TX))))] (oc (zj _ _:((st (qC s a)).toList == (st ([45]:TX)).toList)=decide ((qC s a)=([45]:TX))) oz) ?_
 by_cases h3:(qC s a)=([45]:TX)
 ·refine qX (decide_eq_true h3)<|qA ?_
  have hw1:(qC s a).length=1:=by rw [h3];rfl
  refine zE qD [] [.k1,.d,.k2,.d,.d,.d,.n,.r] [pb 0 98 [(sv (st s)),(iv (((qB s a:Nat):Int)+1)),(nv (k-1))]] (oi (((qB s a:Nat):Int)+1) (by omega) oz)<|qx (Wk.eq (show _=[ps 0 (.opt 0 0),ps 4 (.opt 1 0),ps 5 (.opt 169 0),pb 0 98 (vC s (qB s a+1) (k-1)),pb 1 50 [(iv 0),(iv 0),sn,(iv 0),(iv 0),se,sn],pb 169 50 [(iv 0),(iv 1),sn,(iv 0),(iv 0),se,sn]] from by rfl)) ?_
  refine qL qD [.k5,.d,.n] [pb 169 50 [(iv 2),(iv 1),sn,(iv 0),(iv 0),se,sn]]<|zM<|qA<|qA ?_
  have hin:qB s a+1≤s.length:=by omega
  have hgi:=yR hin
  by_cases h4:(qv s (qB s a+1) 42)=true
  ·refine vX qD 1 [.k3,.n,.d,.n,.r] [ps 133 (bv true),pb 0 98 (vC s (qB s (qB s a+1)+1) (k-1))] (wM [0] 321 (ZS (jG s (qB s a+1) ((k-1:Nat):Int) 42 hs (by omega)) h4) oz)<|qU (b:=true) rfl rfl ?_
   have hlt2:=yA h4
   by_cases h5:(qN s (qB s (qB s a+1)+1)).1=0
   ·refine vX qD 1 [.k3,.d,.d,.n,.k1,.d,.n] [pb 0 98 (vC s ((qN s (qB s (qB s a+1)+1)).2.2) (k-1)),pb 169 50 [(iv 2),(iv ((qN s (qB s (qB s a+1)+1)).2.1)),sn,(iv 0),(iv 0),se,sn]] (wM [0] 337 (wv (vG s (qB s (qB s a+1)+1) ((k-1:Nat):Int) hs hr (by omega)) h5) oz)<|qA<|qA ?_
    have hin2:=(jW (s:=s) (a:=(qB s (qB s a+1)+1)) (by omega)).2
    refine qL qD [.k3,.n,.r] [ps 139 (bv false)]<|zD (b:=false) rfl rfl<|qF<|qA<|qL qD [.d,.k1,.d,.d,.k1,.d,.n,.d] [pb 1 50 [(iv 2),(iv ((qN s (qB s (qB s a+1)+1)).2.1)),sn,(iv 0),(iv 0),se,sn]] ?_
    rw [show (qZ s lv a k)=(0,(WJ (.mk 2 1 [] (0,0) [] []) (qN s (qB s (qB s a+1)+1)).2.1),(qN s (qB s (qB s a+1)+1)).2.2,(k-1)) from by rw [yZ,if_neg hk0,if_pos h3,yB,if_pos h4,if_pos h5,vT,if_neg (by show ¬ ((2:Int)=1);decide)],if_pos rfl]
    exact zN hc0 [4] [0,1] (hbk:=by exact oc rfl (oz))
   rw [show (qZ s lv a k)=((qN s (qB s (qB s a+1)+1)).1,qV,(qN s (qB s (qB s a+1)+1)).2.2,(k-1)) from by rw [yZ,if_neg hk0,if_pos h3,yB,if_pos h4,if_neg h5],if_neg h5]
   exact vM qD [(1,.call [0] [(.opt 0 0)] [some (98,(vC s (qB s (qB s a+1)+1) (k-1)))] (.av (yz ((qN s (qB s (qB s a+1)+1)).1) (((qN s (qB s (qB s a+1)+1)).2.2:Nat):Int))) [none])] [2,3] 1 [] (QK [0] 337 (wQ (vG s (qB s (qB s a+1)+1) ((k-1:Nat):Int) hs hr (by omega)) h5) oz) (fun cx_ a_ hI_=>zW hc0 hI_)
  refine vX qD 1 [.k3,.n,.d,.n,.r] [ps 133 (bv false),pb 0 98 (vC s (qB s (qB s a+1)) (k-1))] (wM [0] 321 (WF (jG s (qB s a+1) ((k-1:Nat):Int) 42 hs (by omega)) h4) oz)<|zD (b:=false) rfl rfl<|qF<|qA<|qA<|qL qD [.k3,.d,.n,.r] [ps 139 (bv false)]<|zD (b:=false) rfl rfl<|qF<|qA<|qL qD [.d,.k1,.d,.d,.k1,.d,.n,.d] [pb 1 50 [(iv 2),(iv 1),sn,(iv 0),(iv 0),se,sn]] ?_
  rw [show (qZ s lv a k)=(0,(.mk 2 1 [] (0,0) [] []),(qB s (qB s a+1)),(k-1)) from by rw [yZ,if_neg hk0,if_pos h3,yB,if_neg h4,vT,if_neg (by show ¬ ((2:Int)=1);decide)],if_pos rfl]
  exact zN hc0 [4] [0,1] (hbk:=by exact oc rfl (oz))
 refine qW (decide_eq_false h3)<|qA<|vX qD 1 [.k5,.d,.n,.r] [ps 49 (bv (qv s a 126))] (wM [0] 241 (Zx s a ((k-1:Nat):Int) 126 hs (by omega)) oz) ?_
 by_cases h6:(qv s a 126)=true
 ·refine qU (b:=(qv s a 126)) rfl h6<|qA ?_
  have hlt:=yA h6
  refine zE qD [] [.k1,.d,.k2,.d,.d,.d,.n,.r] [pb 0 98 [(sv (st s)),(iv (((qB s a:Nat):Int)+1)),(nv (k-1))]] (oi (((qB s a:Nat):Int)+1) (by omega) oz)<|qx (Wk.eq (show _=[ps 0 (.opt 0 0),ps 4 (.opt 1 0),ps 5 (.opt 169 0),pb 0 98 (vC s (qB s a+1) (k-1)),pb 1 50 [(iv 0),(iv 0),sn,(iv 0),(iv 0),se,sn],pb 169 50 [(iv 0),(iv 1),sn,(iv 0),(iv 0),se,sn]] from by rfl)) ?_
  refine qL qD [.k5,.d,.n] [pb 169 50 [(iv 3),(iv 1),sn,(iv 0),(iv 0),se,sn]]<|zM<|qA<|qA ?_
  have hin:qB s a+1≤s.length:=by omega
  have hgi:=yR hin
  by_cases h7:(qv s (qB s a+1) 42)=true
  ·refine vX qD 1 [.k3,.n,.d,.n,.r] [ps 133 (bv true),pb 0 98 (vC s (qB s (qB s a+1)+1) (k-1))] (wM [0] 345 (ZS (jG s (qB s a+1) ((k-1:Nat):Int) 42 hs (by omega)) h7) oz)<|qU (b:=true) rfl rfl ?_
   have hlt2:=yA h7
   by_cases h8:(qN s (qB s (qB s a+1)+1)).1=0
   ·refine vX qD 1 [.k3,.d,.d,.n,.k1,.d,.n] [pb 0 98 (vC s ((qN s (qB s (qB s a+1)+1)).2.2) (k-1)),pb 169 50 [(iv 3),(iv ((qN s (qB s (qB s a+1)+1)).2.1)),sn,(iv 0),(iv 0),se,sn]] (wM [0] 361 (wv (vG s (qB s (qB s a+1)+1) ((k-1:Nat):Int) hs hr (by omega)) h8) oz)<|qA<|qA ?_
    have hin2:=(jW (s:=s) (a:=(qB s (qB s a+1)+1)) (by omega)).2
    refine qL qD [.k3,.n,.r] [ps 139 (bv false)]<|zD (b:=false) rfl rfl<|qF<|qA<|qL qD [.d,.k1,.d,.d,.k1,.d,.n,.d] [pb 1 50 [(iv 3),(iv ((qN s (qB s (qB s a+1)+1)).2.1)),sn,(iv 0),(iv 0),se,sn]] ?_
    rw [show (qZ s lv a k)=(0,(WJ (.mk 3 1 [] (0,0) [] []) (qN s (qB s (qB s a+1)+1)).2.1),(qN s (qB s (qB s a+1)+1)).2.2,(k-1)) from by rw [yZ,if_neg hk0,if_neg h3,if_pos h6,yB,if_pos h7,if_pos h8,vT,if_neg (by show ¬ ((3:Int)=1);decide)],if_pos rfl]
    exact zN hc0 [4] [0,1] (hbk:=by exact oc rfl (oz))
   rw [show (qZ s lv a k)=((qN s (qB s (qB s a+1)+1)).1,qV,(qN s (qB s (qB s a+1)+1)).2.2,(k-1)) from by rw [yZ,if_neg hk0,if_neg h3,if_pos h6,yB,if_pos h7,if_neg h8],if_neg h8]
   exact vM qD [(1,.call [0] [(.opt 0 0)] [some (98,(vC s (qB s (qB s a+1)+1) (k-1)))] (.av (yz ((qN s (qB s (qB s a+1)+1)).1) (((qN s (qB s (qB s a+1)+1)).2.2:Nat):Int))) [none])] [2,3] 1 [] (QK [0] 361 (wQ (vG s (qB s (qB s a+1)+1) ((k-1:Nat):Int) hs hr (by omega)) h8) oz) (fun cx_ a_ hI_=>zW hc0 hI_)
  refine vX qD 1 [.k3,.n,.d,.n,.r] [ps 133 (bv false),pb 0 98 (vC s (qB s (qB s a+1)) (k-1))] (wM [0] 345 (WF (jG s (qB s a+1) ((k-1:Nat):Int) 42 hs (by omega)) h7) oz)<|zD (b:=false) rfl rfl<|qF<|qA<|qA<|qL qD [.k3,.d,.n,.r] [ps 139 (bv false)]<|zD (b:=false) rfl rfl<|qF<|qA<|qL qD [.d,.k1,.d,.d,.k1,.d,.n,.d] [pb 1 50 [(iv 3),(iv 1),sn,(iv 0),(iv 0),se,sn]] ?_
  rw [show (qZ s lv a k)=(0,(.mk 3 1 [] (0,0) [] []),(qB s (qB s a+1)),(k-1)) from by rw [yZ,if_neg hk0,if_neg h3,if_pos h6,yB,if_neg h7,vT,if_neg (by show ¬ ((3:Int)=1);decide)],if_pos rfl]
  exact zN hc0 [4] [0,1] (hbk:=by exact oc rfl (oz))
 refine zD (b:=(qv s a 126)) rfl (Bool.eq_false_iff.2 h6)<|qA<|zE qD [(1,.val (.av (.bool (decide ((qC s a)=([117,112]:TX))))))] [.k4,.d,.d,.n,.r] [ps 60 (bv (decide ((qC s a)=([117,112]:TX))))] (oc (zj _ _:((st (qC s a)).toList == (st ([117,112]:TX)).toList)=decide ((qC s a)=([117,112]:TX))) oz) ?_
 by_cases h9:(qC s a)=([117,112]:TX)
 ·refine qX (decide_eq_true h9)<|qA ?_
  have hw1:(qC s a).length=2:=by rw [h9];rfl
  refine zE qD [] [.k4,.d,.d,.n,.r] [pb 0 98 [(sv (st s)),(iv (((qB s a:Nat):Int)+2)),(nv (k-1))]] (oi (((qB s a:Nat):Int)+2) (by omega) oz)<|qx (Wk.eq (show _=[ps 0 (.opt 0 0),ps 1 (iv lv),ps 4 (.opt 1 0),ps 5 (.opt 169 0),pb 0 98 (vC s (qB s a+2) (k-1)),pb 1 50 [(iv 0),(iv 0),sn,(iv 0),(iv 0),se,sn],pb 169 50 [(iv 0),(iv 1),sn,(iv 0),(iv 0),se,sn]] from by rfl)) ?_
  refine qA<|qL qD [.k6,.d,.n] [pb 169 50 [(iv 5),(iv 1),sn,(iv 0),(iv 0),se,sn]]<|qA ?_
  have hwl2:=vO (s:=s) (a:=qB s a+2) (by omega)
  have hgg2:=vR s (qB s a+2)
  refine vX qD 1 [.k4,.n,.d,.n,.r] [ps 7 (sv (st (qC s (qB s a+2)))),pb 0 98 (vC s (qB s (qB s a+2)) (k-1))] (wM [0] 369 (qai s (qB s a+2) ((k-1:Nat):Int) hs hr (by omega)) oz)<|qA<|yJ qD 1 [.k5,.n,.n,.k3,.n] [ps 8 (.opt 425 0),ps 9 (iv ((zX (qC s (qB s a+2))).2)),pb 425 41 [(iv ((zX (qC s (qB s a+2))).1.1)),(iv ((zX (qC s (qB s a+2))).1.2))]] (zY 393 (named_pc (qC s (qB s a+2)) (by omega)) oz)<|qA<|qA<|qL qD [.k7,.n,.r] [ps 79 (bv (!(decide (((zX (qC s (qB s a+2))).2)=0))))] ?_
  by_cases h10:((zX (qC s (qB s a+2))).2)=0
  ·refine qW (bt h10)<|qF<|qA<|zE qD [] [.k4,.d,.k1,.d,.d,.d,.n,.r] [pb 0 98 [(sv (st s)),(iv (((qB s (qB s a+2):Nat):Int)+(((qC s (qB s a+2)).length:Nat):Int))),(nv (k-1))]] (oi (((qB s (qB s a+2):Nat):Int)+(((qC s (qB s a+2)).length:Nat):Int)) (by omega) oz)<|qx (Wk.eq (show _=[ps 0 (.opt 0 0),ps 1 (iv lv),ps 4 (.opt 1 0),ps 5 (.opt 169 0),ps 8 (.opt 425 0),pb 0 98 (vC s (qB s (qB s a+2)+(qC s (qB s a+2)).length) (k-1)),pb 1 50 [(iv 0),(iv 0),sn,(iv 0),(iv 0),se,sn],pb 169 50 [(iv 5),(iv 1),sn,(iv 0),(iv 0),se,sn],pb 425 41 [(iv ((zX (qC s (qB s a+2))).1.1)),(iv ((zX (qC s (qB s a+2))).1.2))]] from by rfl)) ?_
   refine qA<|qL qD [.k4,.d,.k2,.d,.n,.d] [pb 169 50 [(iv 5),(iv 1),sn,(iv ((zX (qC s (qB s a+2))).1.1)),(iv ((zX (qC s (qB s a+2))).1.2)),se,sn]] ?_
   by_cases h11:(yP s lv (qB s (qB s a+2)+(qC s (qB s a+2)).length) (k-1)).1=0
   ·refine vX qD 2 [.k1,.d,.k2,.d,.n,.k1,.d,.n] [pb 0 98 (vC s ((yP s lv (qB s (qB s a+2)+(qC s (qB s a+2)).length) (k-1)).2.2.1) ((yP s lv (qB s (qB s a+2)+(qC s (qB s a+2)).length) (k-1)).2.2.2)),pb 169 50 [(iv 5),(iv 1),sn,(iv ((zX (qC s (qB s a+2))).1.1)),(iv ((zX (qC s (qB s a+2))).1.2)),se,(.ssl (zT ((yP s lv (qB s (qB s a+2)+(qC s (qB s a+2)).length) (k-1)).2.1)) 0 ((yP s lv (qB s (qB s a+2)+(qC s (qB s a+2)).length) (k-1)).2.1.length))]] (wM [0] 585 (wv (ihg (by omega) (by omega) (qB s (qB s a+2)+(qC s (qB s a+2)).length) (by omega)) h11) oz)<|zM<|qA<|qA ?_
    have hin:=(gr_end (by omega) h11).1.2
    have hgi:=yR hin
    by_cases h12:(qv s ((yP s lv (qB s (qB s a+2)+(qC s (qB s a+2)).length) (k-1)).2.2.1) 42)=true
    ·refine vX qD 1 [.k3,.n,.d,.n,.r] [ps 133 (bv true),pb 0 98 (vC s (qB s ((yP s lv (qB s (qB s a+2)+(qC s (qB s a+2)).length) (k-1)).2.2.1)+1) ((yP s lv (qB s (qB s a+2)+(qC s (qB s a+2)).length) (k-1)).2.2.2))] (wM [0] 617 (ZS (jG s ((yP s lv (qB s (qB s a+2)+(qC s (qB s a+2)).length) (k-1)).2.2.1) (((yP s lv (qB s (qB s a+2)+(qC s (qB s a+2)).length) (k-1)).2.2.2:Nat):Int) 42 hs (by omega)) h12) oz)<|qU (b:=true) rfl rfl ?_
     have hlt2:=yA h12
     by_cases h13:(qN s (qB s ((yP s lv (qB s (qB s a+2)+(qC s (qB s a+2)).length) (k-1)).2.2.1)+1)).1=0
     ·refine vX qD 1 [.k3,.d,.d,.n,.k1,.d,.n] [pb 0 98 (vC s ((qN s (qB s ((yP s lv (qB s (qB s a+2)+(qC s (qB s a+2)).length) (k-1)).2.2.1)+1)).2.2) ((yP s lv (qB s (qB s a+2)+(qC s (qB s a+2)).length) (k-1)).2.2.2)),pb 169 50 [(iv 5),(iv ((qN s (qB s ((yP s lv (qB s (qB s a+2)+(qC s (qB s a+2)).length) (k-1)).2.2.1)+1)).2.1)),sn,(iv ((zX (qC s (qB s a+2))).1.1)),(iv ((zX (qC s (qB s a+2))).1.2)),se,(.ssl (zT ((yP s lv (qB s (qB s a+2)+(qC s (qB s a+2)).length) (k-1)).2.1)) 0 ((yP s lv (qB s (qB s a+2)+(qC s (qB s a+2)).length) (k-1)).2.1.length))]] (wM [0] 633 (wv (vG s (qB s ((yP s lv (qB s (qB s a+2)+(qC s (qB s a+2)).length) (k-1)).2.2.1)+1) (((yP s lv (qB s (qB s a+2)+(qC s (qB s a+2)).length) (k-1)).2.2.2:Nat):Int) hs hr (by omega)) h13) oz)<|qA<|qA ?_
      have hin2:=(jW (s:=s) (a:=(qB s ((yP s lv (qB s (qB s a+2)+(qC s (qB s a+2)).length) (k-1)).2.2.1)+1)) (by omega)).2
      refine qL qD [.k3,.n,.r] [ps 139 (bv false)]<|zD (b:=false) rfl rfl<|qF<|qA<|qL qD [.d,.k1,.d,.d,.k1,.d,.n,.d] [pb 1 50 [(iv 5),(iv ((qN s (qB s ((yP s lv (qB s (qB s a+2)+(qC s (qB s a+2)).length) (k-1)).2.2.1)+1)).2.1)),sn,(iv ((zX (qC s (qB s a+2))).1.1)),(iv ((zX (qC s (qB s a+2))).1.2)),se,(.ssl (zT ((yP s lv (qB s (qB s a+2)+(qC s (qB s a+2)).length) (k-1)).2.1)) 0 ((yP s lv (qB s (qB s a+2)+(qC s (qB s a+2)).length) (k-1)).2.1.length))]] ?_
      rw [show (qZ s lv a k)=(0,(WJ (.mk 5 1 [] (zX (qC s (qB s a+2))).1 [] (yP s lv (qB s (qB s a+2)+(qC s (qB s a+2)).length) (k-1)).2.1) (qN s (qB s ((yP s lv (qB s (qB s a+2)+(qC s (qB s a+2)).length) (k-1)).2.2.1)+1)).2.1),(qN s (qB s ((yP s lv (qB s (qB s a+2)+(qC s (qB s a+2)).length) (k-1)).2.2.1)+1)).2.2,(yP s lv (qB s (qB s a+2)+(qC s (qB s a+2)).length) (k-1)).2.2.2) from by rw [yZ,if_neg hk0,if_neg h3,if_neg h6,if_pos h9,if_pos h10,if_pos h11,yB,if_pos h12,if_pos h13,vT,if_neg (by show ¬ ((5:Int)=1);decide)],if_pos rfl]
      exact zN hc0 [4] [0,1] (hbk:=by exact oc rfl (oz))
     rw [show (qZ s lv a k)=((qN s (qB s ((yP s lv (qB s (qB s a+2)+(qC s (qB s a+2)).length) (k-1)).2.2.1)+1)).1,qV,(qN s (qB s ((yP s lv (qB s (qB s a+2)+(qC s (qB s a+2)).length) (k-1)).2.2.1)+1)).2.2,(yP s lv (qB s (qB s a+2)+(qC s (qB s a+2)).length) (k-1)).2.2.2) from by rw [yZ,if_neg hk0,if_neg h3,if_neg h6,if_pos h9,if_pos h10,if_pos h11,yB,if_pos h12,if_neg h13],if_neg h13]
     exact vM qD [(1,.call [0] [(.opt 0 0)] [some (98,(vC s (qB s ((yP s lv (qB s (qB s a+2)+(qC s (qB s a+2)).length) (k-1)).2.2.1)+1) ((yP s lv (qB s (qB s a+2)+(qC s (qB s a+2)).length) (k-1)).2.2.2)))] (.av (yz ((qN s (qB s ((yP s lv (qB s (qB s a+2)+(qC s (qB s a+2)).length) (k-1)).2.2.1)+1)).1) (((qN s (qB s ((yP s lv (qB s (qB s a+2)+(qC s (qB s a+2)).length) (k-1)).2.2.1)+1)).2.2:Nat):Int))) [none])] [2,3] 1 [] (QK [0] 633 (wQ (vG s (qB s ((yP s lv (qB s (qB s a+2)+(qC s (qB s a+2)).length) (k-1)).2.2.1)+1) (((yP s lv (qB s (qB s a+2)+(qC s (qB s a+2)).length) (k-1)).2.2.2:Nat):Int) hs hr (by omega)) h13) oz) (fun cx_ a_ hI_=>zW hc0 hI_)
    refine vX qD 1 [.k3,.n,.d,.n,.r] [ps 133 (bv false),pb 0 98 (vC s (qB s ((yP s lv (qB s (qB s a+2)+(qC s (qB s a+2)).length) (k-1)).2.2.1)) ((yP s lv (qB s (qB s a+2)+(qC s (qB s a+2)).length) (k-1)).2.2.2))] (wM [0] 617 (WF (jG s ((yP s lv (qB s (qB s a+2)+(qC s (qB s a+2)).length) (k-1)).2.2.1) (((yP s lv (qB s (qB s a+2)+(qC s (qB s a+2)).length) (k-1)).2.2.2:Nat):Int) 42 hs (by omega)) h12) oz)<|zD (b:=false) rfl rfl<|qF<|qA<|qA<|qL qD [.k3,.d,.n,.r] [ps 139 (bv false)]<|zD (b:=false) rfl rfl<|qF<|qA<|qL qD [.d,.k1,.d,.d,.k1,.d,.n,.d] [pb 1 50 [(iv 5),(iv 1),sn,(iv ((zX (qC s (qB s a+2))).1.1)),(iv ((zX (qC s (qB s a+2))).1.2)),se,(.ssl (zT ((yP s lv (qB s (qB s a+2)+(qC s (qB s a+2)).length) (k-1)).2.1)) 0 ((yP s lv (qB s (qB s a+2)+(qC s (qB s a+2)).length) (k-1)).2.1.length))]] ?_
    rw [show (qZ s lv a k)=(0,(.mk 5 1 [] (zX (qC s (qB s a+2))).1 [] (yP s lv (qB s (qB s a+2)+(qC s (qB s a+2)).length) (k-1)).2.1),(qB s (yP s lv (qB s (qB s a+2)+(qC s (qB s a+2)).length) (k-1)).2.2.1),(yP s lv (qB s (qB s a+2)+(qC s (qB s a+2)).length) (k-1)).2.2.2) from by rw [yZ,if_neg hk0,if_neg h3,if_neg h6,if_pos h9,if_pos h10,if_pos h11,yB,if_neg h12,vT,if_neg (by show ¬ ((5:Int)=1);decide)],if_pos rfl]
    exact zN hc0 [4] [0,1] (hbk:=by exact oc rfl (oz))
   rw [show (qZ s lv a k)=((yP s lv (qB s (qB s a+2)+(qC s (qB s a+2)).length) (k-1)).1,qV,(yP s lv (qB s (qB s a+2)+(qC s (qB s a+2)).length) (k-1)).2.2.1,0) from by rw [yZ,if_neg hk0,if_neg h3,if_neg h6,if_pos h9,if_pos h10,if_neg h11],if_neg h11]
   exact vM qD [(2,.call [0] [(.opt 0 0),(iv lv)] [some (98,(vC s (qB s (qB s a+2)+(qC s (qB s a+2)).length) (k-1)))] (.av (yz ((yP s lv (qB s (qB s a+2)+(qC s (qB s a+2)).length) (k-1)).1) (((yP s lv (qB s (qB s a+2)+(qC s (qB s a+2)).length) (k-1)).2.2.1:Nat):Int))) [none])] [3,4] 2 [] (QK [0] 585 (wQ (ihg (by omega) (by omega) (qB s (qB s a+2)+(qC s (qB s a+2)).length) (by omega)) h11) oz) (fun cx_ a_ hI_=>zW hc0 hI_)
  refine qX (bf h10) ?_
  rw [show (qZ s lv a k)=((zX (qC s (qB s a+2))).2,qV,qB s (qB s a+2),0) from by rw [yZ,if_neg hk0,if_neg h3,if_neg h6,if_pos h9,if_neg h10],if_neg h10]
  exact vM qD [(2,.call [0] [(.opt 0 0),(iv ((zX (qC s (qB s a+2))).2))] [some (98,(vC s (qB s (qB s a+2)) (k-1)))] (.av (yz ((zX (qC s (qB s a+2))).2) (qB s (qB s a+2):Int))) [none])] [] 2 [] (QK [0] 481 (yV s (qB s (qB s a+2)) ((k-1:Nat):Int) ((zX (qC s (qB s a+2))).2)) oz) (fun cx_ a_ hI_=>zW hc0 hI_)
 refine qW (decide_eq_false h9)<|qA<|vX qD 1 [.k4,.d,.n,.r] [ps 98 (bv (qv s a 91))] (wM [0] 289 (Zx s a ((k-1:Nat):Int) 91 hs (by omega)) oz) ?_
 by_cases h14:(qv s a 91)=true
 ·refine qU (b:=(qv s a 91)) rfl h14<|qA<|qL qD [.k4,.d,.k2,.d,.n] [pb 169 50 [(iv 4),(iv 1),sn,(iv 0),(iv 0),se,sn]] ?_
  by_cases h15:(yP s lv (qB s a) (k-1)).1=0
  ·refine vX qD 2 [.k1,.d,.k2,.d,.n,.k1,.d,.n] [pb 0 98 (vC s ((yP s lv (qB s a) (k-1)).2.2.1) ((yP s lv (qB s a) (k-1)).2.2.2)),pb 169 50 [(iv 4),(iv 1),sn,(iv 0),(iv 0),se,(.ssl (zT ((yP s lv (qB s a) (k-1)).2.1)) 0 ((yP s lv (qB s a) (k-1)).2.1.length))]] (wM [0] 337 (wv (ihg (by omega) (by omega) (qB s a) (by omega)) h15) oz)<|zM<|qA<|qA ?_
   have hin:=(gr_end (by omega) h15).1.2
   have hgi:=yR hin
   by_cases h16:(qv s ((yP s lv (qB s a) (k-1)).2.2.1) 42)=true
   ·refine vX qD 1 [.k3,.n,.d,.n,.r] [ps 133 (bv true),pb 0 98 (vC s (qB s ((yP s lv (qB s a) (k-1)).2.2.1)+1) ((yP s lv (qB s a) (k-1)).2.2.2))] (wM [0] 369 (ZS (jG s ((yP s lv (qB s a) (k-1)).2.2.1) (((yP s lv (qB s a) (k-1)).2.2.2:Nat):Int) 42 hs (by omega)) h16) oz)<|qU (b:=true) rfl rfl ?_
    have hlt2:=yA h16
    by_cases h17:(qN s (qB s ((yP s lv (qB s a) (k-1)).2.2.1)+1)).1=0
    ·refine vX qD 1 [.k3,.d,.d,.n,.k1,.d,.n] [pb 0 98 (vC s ((qN s (qB s ((yP s lv (qB s a) (k-1)).2.2.1)+1)).2.2) ((yP s lv (qB s a) (k-1)).2.2.2)),pb 169 50 [(iv 4),(iv ((qN s (qB s ((yP s lv (qB s a) (k-1)).2.2.1)+1)).2.1)),sn,(iv 0),(iv 0),se,(.ssl (zT ((yP s lv (qB s a) (k-1)).2.1)) 0 ((yP s lv (qB s a) (k-1)).2.1.length))]] (wM [0] 385 (wv (vG s (qB s ((yP s lv (qB s a) (k-1)).2.2.1)+1) (((yP s lv (qB s a) (k-1)).2.2.2:Nat):Int) hs hr (by omega)) h17) oz)<|qA<|qA ?_
     have hin2:=(jW (s:=s) (a:=(qB s ((yP s lv (qB s a) (k-1)).2.2.1)+1)) (by omega)).2
     refine qL qD [.k3,.n,.r] [ps 139 (bv false)]<|zD (b:=false) rfl rfl<|qF<|qA<|qL qD [.d,.k1,.d,.d,.k1,.d,.n,.d] [pb 1 50 [(iv 4),(iv ((qN s (qB s ((yP s lv (qB s a) (k-1)).2.2.1)+1)).2.1)),sn,(iv 0),(iv 0),se,(.ssl (zT ((yP s lv (qB s a) (k-1)).2.1)) 0 ((yP s lv (qB s a) (k-1)).2.1.length))]] ?_
     rw [show (qZ s lv a k)=(0,(WJ (.mk 4 1 [] (0,0) [] (yP s lv (qB s a) (k-1)).2.1) (qN s (qB s ((yP s lv (qB s a) (k-1)).2.2.1)+1)).2.1),(qN s (qB s ((yP s lv (qB s a) (k-1)).2.2.1)+1)).2.2,(yP s lv (qB s a) (k-1)).2.2.2) from by rw [yZ,if_neg hk0,if_neg h3,if_neg h6,if_neg h9,if_pos h14,if_pos h15,yB,if_pos h16,if_pos h17,vT,if_neg (by show ¬ ((4:Int)=1);decide)],if_pos rfl]
     exact zN hc0 [4] [0,1] (hbk:=by exact oc rfl (oz))
    rw [show (qZ s lv a k)=((qN s (qB s ((yP s lv (qB s a) (k-1)).2.2.1)+1)).1,qV,(qN s (qB s ((yP s lv (qB s a) (k-1)).2.2.1)+1)).2.2,(yP s lv (qB s a) (k-1)).2.2.2) from by rw [yZ,if_neg hk0,if_neg h3,if_neg h6,if_neg h9,if_pos h14,if_pos h15,yB,if_pos h16,if_neg h17],if_neg h17]
    exact vM qD [(1,.call [0] [(.opt 0 0)] [some (98,(vC s (qB s ((yP s lv (qB s a) (k-1)).2.2.1)+1) ((yP s lv (qB s a) (k-1)).2.2.2)))] (.av (yz ((qN s (qB s ((yP s lv (qB s a) (k-1)).2.2.1)+1)).1) (((qN s (qB s ((yP s lv (qB s a) (k-1)).2.2.1)+1)).2.2:Nat):Int))) [none])] [2,3] 1 [] (QK [0] 385 (wQ (vG s (qB s ((yP s lv (qB s a) (k-1)).2.2.1)+1) (((yP s lv (qB s a) (k-1)).2.2.2:Nat):Int) hs hr (by omega)) h17) oz) (fun cx_ a_ hI_=>zW hc0 hI_)
   refine vX qD 1 [.k3,.n,.d,.n,.r] [ps 133 (bv false),pb 0 98 (vC s (qB s ((yP s lv (qB s a) (k-1)).2.2.1)) ((yP s lv (qB s a) (k-1)).2.2.2))] (wM [0] 369 (WF (jG s ((yP s lv (qB s a) (k-1)).2.2.1) (((yP s lv (qB s a) (k-1)).2.2.2:Nat):Int) 42 hs (by omega)) h16) oz)<|zD (b:=false) rfl rfl<|qF<|qA<|qA<|qL qD [.k3,.d,.n,.r] [ps 139 (bv false)]<|zD (b:=false) rfl rfl<|qF<|qA<|qL qD [.d,.k1,.d,.d,.k1,.d,.n,.d] [pb 1 50 [(iv 4),(iv 1),sn,(iv 0),(iv 0),se,(.ssl (zT ((yP s lv (qB s a) (k-1)).2.1)) 0 ((yP s lv (qB s a) (k-1)).2.1.length))]] ?_
   rw [show (qZ s lv a k)=(0,(.mk 4 1 [] (0,0) [] (yP s lv (qB s a) (k-1)).2.1),(qB s (yP s lv (qB s a) (k-1)).2.2.1),(yP s lv (qB s a) (k-1)).2.2.2) from by rw [yZ,if_neg hk0,if_neg h3,if_neg h6,if_neg h9,if_pos h14,if_pos h15,yB,if_neg h16,vT,if_neg (by show ¬ ((4:Int)=1);decide)],if_pos rfl]
   exact zN hc0 [4] [0,1] (hbk:=by exact oc rfl (oz))
  rw [show (qZ s lv a k)=((yP s lv (qB s a) (k-1)).1,qV,(yP s lv (qB s a) (k-1)).2.2.1,0) from by rw [yZ,if_neg hk0,if_neg h3,if_neg h6,if_neg h9,if_pos h14,if_neg h15],if_neg h15]
  exact vM qD [(2,.call [0] [(.opt 0 0),(iv lv)] [some (98,(vC s (qB s a) (k-1)))] (.av (yz ((yP s lv (qB s a) (k-1)).1) (((yP s lv (qB s a) (k-1)).2.2.1:Nat):Int))) [none])] [3,4] 2 [] (QK [0] 337 (wQ (ihg (by omega) (by omega) (qB s a) (by omega)) h15) oz) (fun cx_ a_ hI_=>zW hc0 hI_)
 refine zD (b:=(qv s a 91)) rfl (Bool.eq_false_iff.2 h14)<|qA<|vX qD 1 [.k1,.d,.k2,.d,.n,.r] [ps 106 (bv (qv s a 60))] (wM [0] 313 (Zx s a ((k-1:Nat):Int) 60 hs (by omega)) oz) ?_
 by_cases h18:(qv s a 60)=true
 ·refine qU (b:=(qv s a 60)) rfl h18<|qA ?_
  have hlt:=yA h18
  refine zE qD [] [.k3,.d,.d,.n,.r] [pb 0 98 [(sv (st s)),(iv (((qB s a:Nat):Int)+1)),(nv (k-1))]] (oi (((qB s a:Nat):Int)+1) (by omega) oz)<|qx (Wk.eq (show _=[ps 0 (.opt 0 0),ps 4 (.opt 1 0),ps 5 (.opt 169 0),pb 0 98 (vC s (qB s a+1) (k-1)),pb 1 50 [(iv 0),(iv 0),sn,(iv 0),(iv 0),se,sn],pb 169 50 [(iv 0),(iv 1),sn,(iv 0),(iv 0),se,sn]] from by rfl)) ?_
  refine qA<|qL qD [.k5,.d,.n] [pb 169 50 [(iv 1),(iv 1),sn,(iv 0),(iv 0),se,sn]]<|zI<|qx (Wk.nilc (B:=50) (cells:=[(iv 1),(iv 1),sn,(iv 0),(iv 0),se,sn]) 169 2 52 (by kernel_rfl) rfl)<|qx (Wk.less (l':=[ps 0 (.opt 0 0),ps 4 (.opt 1 0),ps 5 (.opt 169 0),pb 0 98 (vC s (qB s a+1) (k-1)),pb 1 50 [(iv 0),(iv 0),sn,(iv 0),(iv 0),se,sn],pb 169 50 [(iv 1),(iv 1),(.osl 409 0 0),(iv 0),(iv 0),se,sn],pb 409 52 []]) 410 (by kernel_rfl) (by kernel_rfl)) ?_
  have hlt1:qB s a+1≤s.length:=hlt
  refine qx (Wk.eq (show _=[ps 0 (.opt 0 0),ps 4 (.opt 1 0),ps 5 (.opt 169 0),pb 0 98 (vC s (qB s a+1) (k-1)),pb 1 50 [(iv 0),(iv 0),sn,(iv 0),(iv 0),se,sn],pb 169 50 [(iv 1),(iv 1),(.osl 409 0 (([]:List Pt).length)),(iv 0),(iv 0),se,sn],pb 409 52 (yI ([]:List Pt))] from by rfl)) ?_
  refine vW (α:={x:List Pt × Nat // x.2≤s.length∧x.1.length≤16∧Vx s (16-x.1.length) x.1 x.2=Vx s 16 [] (qB s a+1)}) (fun x=>[ps 0 (.opt 0 0),ps 4 (.opt 1 0),ps 5 (.opt 2 0),pb 0 98 (vC s x.1.2 (k-1)),pb 1 50 [(iv 0),(iv 0),sn,(iv 0),(iv 0),se,sn],pb 2 50 [(iv 1),(iv 1),(.osl 3 0 x.1.1.length),(iv 0),(iv 0),se,sn],pb 3 52 (yI x.1.1)]) (fun x=>16-x.1.1.length) 4 ⟨([],qB s a+1),⟨hlt1,Nat.zero_le _,rfl⟩⟩ (Wk.ren3 _ 1 hc0 [0,1,169,409] [(kb 3,(yI ([]:List Pt)))] (oc (qck _) (oz)) (by kernel_rfl) rfl rfl (by kernel_rfl) (by kernel_rfl)) ?_
  rintro ⟨⟨us,b⟩,⟨hb,hp16,hc⟩⟩
  dsimp only at hb hp16 hc
  refine zI<|qA<|qA<|zU qD [] [ps 0 (.opt 0 0),ps 4 (.opt 1 0),ps 5 (.opt 2 0),ps 120 (bv (decide (((us.length:Nat):Int)=16))),pb 0 98 (vC s b (k-1)),pb 1 50 [(iv 0),(iv 0),sn,(iv 0),(iv 0),se,sn],pb 2 50 [(iv 1),(iv 1),(.osl 3 0 us.length),(iv 0),(iv 0),se,sn],pb 3 52 (yI us)] (oz) ?_
  by_cases h19:(us.length:Int)=16
  ·refine qX (decide_eq_true h19) ?_
   rw [show (qZ s lv a k)=(5,qV,b,0) from by rw [yZ,if_neg hk0,if_neg h3,if_neg h6,if_neg h9,if_neg h14,if_pos h18,← hc,chL_full (by omega),if_neg (by show ¬ ((5:Int)=0);decide)],if_neg (by show ¬ ((5:Int)=0);decide)]
   exact vM qD [(1,.call [0] [(.opt 0 0),(iv 5)] [some (98,(vC s b (k-1)))] (.av (yz 5 (b:Int))) [none])] [] 1 [] (QK [0] 44 (yV s b ((k-1:Nat):Int) 5) oz) (fun cx_ a_ hI_=>vk (zW hc0 hI_))
  refine qW (decide_eq_false h19)<|qF<|qA ?_
  by_cases h20:(qS s b).1=0
  ·refine ZG qD [(3,.call [0] [(.opt 0 0)] [some (98,(vC s b (k-1)))] (.agg [(iv ((qS s b).2.1.1)),(iv ((qS s b).2.1.2.1)),(iv ((qS s b).2.1.2.2))]) [some (98,(vC s ((qS s b).2.2) (k-1))),none]),(5,.app none (some (yI (us++[((qS s b).2.1.1,(qS s b).2.1.2.1,(qS s b).2.1.2.2)]))))] (bfr [(0,0),(0,1),(0,0),(2,1),(2,2),(0,5),(0,6),(0,7)]) [([246],[10]),([248],[5,246]),([250],[0]),([252,1,121],[1,250]),([254,137],[252]),([256,7,153],[7,137,248,254]),([258],[10]),([5],[5,256,258])] [.k3,.d,.d,.n,.k1,.d,.n,.d,.n] [pb 0 98 (vC s ((qS s b).2.2) (k-1)),pb 2 50 [(iv 1),(iv 1),(.osl 76 0 (us.length+1)),(iv 0),(iv 0),se,sn],pb 76 52 (yI (us++[((qS s b).2.1.1,(qS s b).2.1.2.1,(qS s b).2.1.2.2)]))] (wM [0] 60 (wv (VT s b ((k-1:Nat):Int) hs hr (by omega)) h20) (oc (pts_len _:((yI us)).length=us.length*3) (oc (by omega:(us.length+1)*24≤140737488355328∧us.length+1≤9223372036854775807) (oc ((flat_app ptC us [((qS s b).2.1.1,(qS s b).2.1.2.1,(qS s b).2.1.2.2)]).symm:(yI us)++[(iv ((qS s b).2.1.1)),(iv ((qS s b).2.1.2.1)),(iv ((qS s b).2.1.2.2))]=(yI (us++[((qS s b).2.1.1,(qS s b).2.1.2.1,(qS s b).2.1.2.2)]))) oz))))<|qA ?_
   have hpe:=qdo hb h20
   by_cases h21:(qv s ((qS s b).2.2) 62)=true
   ·refine vX qD 1 [.k3,.n,.d,.n,.r] [ps 131 (bv true),pb 0 98 (vC s (qB s ((qS s b).2.2)+1) (k-1))] (wM [0] 108 (ZS (jG s ((qS s b).2.2) ((k-1:Nat):Int) 62 hs (by omega)) h21) oz)<|qU (b:=true) rfl rfl<|vL rfl rfl<|zM<|qA<|qA ?_
    have hl62:=yA h21
    have hin:qB s ((qS s b).2.2)+1≤s.length:=by omega
    have hgi:=yR hin
    by_cases h22:(qv s (qB s ((qS s b).2.2)+1) 42)=true
    ·refine vX qD 1 [.k3,.d,.n,.d,.n,.r] [ps 133 (bv true),pb 0 98 (vC s (qB s (qB s ((qS s b).2.2)+1)+1) (k-1))] (wM [0] 124 (ZS (jG s (qB s ((qS s b).2.2)+1) ((k-1:Nat):Int) 42 hs (by omega)) h22) oz)<|qU (b:=true) rfl rfl ?_
     have hlt2:=yA h22
     by_cases h23:(qN s (qB s (qB s ((qS s b).2.2)+1)+1)).1=0
     ·refine vX qD 1 [.k3,.d,.d,.n,.k1,.d,.n,.r] [pb 0 98 (vC s ((qN s (qB s (qB s ((qS s b).2.2)+1)+1)).2.2) (k-1)),pb 2 50 [(iv 1),(iv ((qN s (qB s (qB s ((qS s b).2.2)+1)+1)).2.1)),(.osl 76 0 (us.length+1)),(iv 0),(iv 0),se,sn]] (wM [0] 140 (wv (vG s (qB s (qB s ((qS s b).2.2)+1)+1) ((k-1:Nat):Int) hs hr (by omega)) h23) oz)<|qA<|qA ?_
      have hin2:=(jW (s:=s) (a:=(qB s (qB s ((qS s b).2.2)+1)+1)) (by omega)).2
      refine qL qD [.k3,.n,.r] [ps 139 (bv true)]<|qU (b:=true) rfl rfl ?_
      by_cases h24:(zv s ((qN s (qB s (qB s ((qS s b).2.2)+1)+1)).2.2)).1=0
      ·refine vX qD 1 [.d,.k2,.d,.d,.n,.k1,.d,.n,.r] [pb 0 98 (vC s ((zv s ((qN s (qB s (qB s ((qS s b).2.2)+1)+1)).2.2)).2.2) (k-1)),pb 2 50 [(iv 1),(iv ((qN s (qB s (qB s ((qS s b).2.2)+1)+1)).2.1)),(.osl 76 0 (us.length+1)),(iv 0),(iv 0),(sv (st ((zv s ((qN s (qB s (qB s ((qS s b).2.2)+1)+1)).2.2)).2.1))),sn]] (wM [0] 196 (wv (QC s ((qN s (qB s (qB s ((qS s b).2.2)+1)+1)).2.2) ((k-1:Nat):Int) hs hr (by omega)) h24) oz)<|qA<|qL qD [.k1,.d,.k1,.d,.n,.d,.r] [pb 1 50 [(iv 1),(iv ((qN s (qB s (qB s ((qS s b).2.2)+1)+1)).2.1)),(.osl 76 0 (us.length+1)),(iv 0),(iv 0),(sv (st ((zv s ((qN s (qB s (qB s ((qS s b).2.2)+1)+1)).2.2)).2.1))),sn]] ?_
       rw [show (qZ s lv a k)=(0,(setL (WJ (.mk 1 1 (us++[(qS s b).2.1]) (0,0) [] []) (qN s (qB s (qB s ((qS s b).2.2)+1)+1)).2.1) (zv s ((qN s (qB s (qB s ((qS s b).2.2)+1)+1)).2.2)).2.1),(zv s ((qN s (qB s (qB s ((qS s b).2.2)+1)+1)).2.2)).2.2,(k-1)) from by rw [yZ,if_neg hk0,if_neg h3,if_neg h6,if_neg h9,if_neg h14,if_pos h18,← hc,WT (by omega),if_pos h20,if_pos h21,if_pos rfl,yB,if_pos h22,if_pos h23,vT,if_pos (by rfl),if_pos h24],if_pos rfl]
       refine qx (Wk.eq (show _=[ps 4 (.opt 1 0),pb 0 98 (vC s ((zv s ((qN s (qB s (qB s ((qS s b).2.2)+1)+1)).2.2)).2.2) (k-1)),pb 1 50 [(iv 1),(iv ((qN s (qB s (qB s ((qS s b).2.2)+1)+1)).2.1)),(.osl 76 0 ((us++[(qS s b).2.1]).length)),(iv 0),(iv 0),(sv (st ((zv s ((qN s (qB s (qB s ((qS s b).2.2)+1)+1)).2.2)).2.1))),sn],pb 76 52 (yI (us++[(qS s b).2.1]))] from by rw [List.length_append];rfl)) ?_
       refine qx (Wk.frz (l':=[ps 4 (.opt 1 0),pb 0 98 (vC s ((zv s ((qN s (qB s (qB s ((qS s b).2.2)+1)+1)).2.2)).2.2) (k-1)),pb 1 50 [(iv 1),(iv ((qN s (qB s (qB s ((qS s b).2.2)+1)+1)).2.1)),(.ssl (yI (us++[(qS s b).2.1])) 0 ((us++[(qS s b).2.1]).length)),(iv 0),(iv 0),(sv (st ((zv s ((qN s (qB s (qB s ((qS s b).2.2)+1)+1)).2.2)).2.1))),sn],(kb 76,none)]) 76 (T:=52) (cs:=(yI (us++[(qS s b).2.1]))) (by kernel_rfl) (qck _) (by kernel_rfl)) ?_
       exact zN hc0 [4] [0,1] (hbk:=by exact oc rfl (oz))
      rw [show (qZ s lv a k)=((zv s ((qN s (qB s (qB s ((qS s b).2.2)+1)+1)).2.2)).1,qV,(zv s ((qN s (qB s (qB s ((qS s b).2.2)+1)+1)).2.2)).2.2,(k-1)) from by rw [yZ,if_neg hk0,if_neg h3,if_neg h6,if_neg h9,if_neg h14,if_pos h18,← hc,WT (by omega),if_pos h20,if_pos h21,if_pos rfl,yB,if_pos h22,if_pos h23,vT,if_pos (by rfl),if_neg h24],if_neg h24]
      exact vM qD [(1,.call [0] [(.opt 0 0)] [some (98,(vC s ((qN s (qB s (qB s ((qS s b).2.2)+1)+1)).2.2) (k-1)))] (.av (yz ((zv s ((qN s (qB s (qB s ((qS s b).2.2)+1)+1)).2.2)).1) (((zv s ((qN s (qB s (qB s ((qS s b).2.2)+1)+1)).2.2)).2.2:Nat):Int))) [none])] [2,3] 1 [] (QK [0] 196 (wQ (QC s ((qN s (qB s (qB s ((qS s b).2.2)+1)+1)).2.2) ((k-1:Nat):Int) hs hr (by omega)) h24) oz) (fun cx_ a_ hI_=>zW hc0 hI_)
     rw [show (qZ s lv a k)=((qN s (qB s (qB s ((qS s b).2.2)+1)+1)).1,qV,(qN s (qB s (qB s ((qS s b).2.2)+1)+1)).2.2,(k-1)) from by rw [yZ,if_neg hk0,if_neg h3,if_neg h6,if_neg h9,if_neg h14,if_pos h18,← hc,WT (by omega),if_pos h20,if_pos h21,if_pos rfl,yB,if_pos h22,if_neg h23],if_neg h23]
     exact vM qD [(1,.call [0] [(.opt 0 0)] [some (98,(vC s (qB s (qB s ((qS s b).2.2)+1)+1) (k-1)))] (.av (yz ((qN s (qB s (qB s ((qS s b).2.2)+1)+1)).1) (((qN s (qB s (qB s ((qS s b).2.2)+1)+1)).2.2:Nat):Int))) [none])] [2,3] 1 [] (QK [0] 140 (wQ (vG s (qB s (qB s ((qS s b).2.2)+1)+1) ((k-1:Nat):Int) hs hr (by omega)) h23) oz) (fun cx_ a_ hI_=>zW hc0 hI_)
    refine vX qD 1 [.k3,.d,.n,.d,.n,.r] [ps 133 (bv false),pb 0 98 (vC s (qB s (qB s ((qS s b).2.2)+1)) (k-1))] (wM [0] 124 (WF (jG s (qB s ((qS s b).2.2)+1) ((k-1:Nat):Int) 42 hs (by omega)) h22) oz)<|zD (b:=false) rfl rfl<|qF<|qA<|qA<|qL qD [.k3,.d,.n,.r] [ps 139 (bv true)]<|qU (b:=true) rfl rfl ?_
    by_cases h25:(zv s (qB s (qB s ((qS s b).2.2)+1))).1=0
    ·refine vX qD 1 [.d,.k2,.d,.d,.n,.k1,.d,.n,.r] [pb 0 98 (vC s ((zv s (qB s (qB s ((qS s b).2.2)+1))).2.2) (k-1)),pb 2 50 [(iv 1),(iv 1),(.osl 76 0 (us.length+1)),(iv 0),(iv 0),(sv (st ((zv s (qB s (qB s ((qS s b).2.2)+1))).2.1))),sn]] (wM [0] 164 (wv (QC s (qB s (qB s ((qS s b).2.2)+1)) ((k-1:Nat):Int) hs hr (by omega)) h25) oz)<|qA<|qL qD [.k1,.d,.k1,.d,.n,.d,.r] [pb 1 50 [(iv 1),(iv 1),(.osl 76 0 (us.length+1)),(iv 0),(iv 0),(sv (st ((zv s (qB s (qB s ((qS s b).2.2)+1))).2.1))),sn]] ?_
     rw [show (qZ s lv a k)=(0,(setL (.mk 1 1 (us++[(qS s b).2.1]) (0,0) [] []) (zv s (qB s (qB s ((qS s b).2.2)+1))).2.1),(zv s (qB s (qB s ((qS s b).2.2)+1))).2.2,(k-1)) from by rw [yZ,if_neg hk0,if_neg h3,if_neg h6,if_neg h9,if_neg h14,if_pos h18,← hc,WT (by omega),if_pos h20,if_pos h21,if_pos rfl,yB,if_neg h22,vT,if_pos (by rfl),if_pos h25],if_pos rfl]
     refine qx (Wk.eq (show _=[ps 4 (.opt 1 0),pb 0 98 (vC s ((zv s (qB s (qB s ((qS s b).2.2)+1))).2.2) (k-1)),pb 1 50 [(iv 1),(iv 1),(.osl 76 0 ((us++[(qS s b).2.1]).length)),(iv 0),(iv 0),(sv (st ((zv s (qB s (qB s ((qS s b).2.2)+1))).2.1))),sn],pb 76 52 (yI (us++[(qS s b).2.1]))] from by rw [List.length_append];rfl)) ?_
     refine qx (Wk.frz (l':=[ps 4 (.opt 1 0),pb 0 98 (vC s ((zv s (qB s (qB s ((qS s b).2.2)+1))).2.2) (k-1)),pb 1 50 [(iv 1),(iv 1),(.ssl (yI (us++[(qS s b).2.1])) 0 ((us++[(qS s b).2.1]).length)),(iv 0),(iv 0),(sv (st ((zv s (qB s (qB s ((qS s b).2.2)+1))).2.1))),sn],(kb 76,none)]) 76 (T:=52) (cs:=(yI (us++[(qS s b).2.1]))) (by kernel_rfl) (qck _) (by kernel_rfl)) ?_
     exact zN hc0 [4] [0,1] (hbk:=by exact oc rfl (oz))
    rw [show (qZ s lv a k)=((zv s (qB s (qB s ((qS s b).2.2)+1))).1,qV,(zv s (qB s (qB s ((qS s b).2.2)+1))).2.2,(k-1)) from by rw [yZ,if_neg hk0,if_neg h3,if_neg h6,if_neg h9,if_neg h14,if_pos h18,← hc,WT (by omega),if_pos h20,if_pos h21,if_pos rfl,yB,if_neg h22,vT,if_pos (by rfl),if_neg h25],if_neg h25]
    exact vM qD [(1,.call [0] [(.opt 0 0)] [some (98,(vC s (qB s (qB s ((qS s b).2.2)+1)) (k-1)))] (.av (yz ((zv s (qB s (qB s ((qS s b).2.2)+1))).1) (((zv s (qB s (qB s ((qS s b).2.2)+1))).2.2:Nat):Int))) [none])] [2,3] 1 [] (QK [0] 164 (wQ (QC s (qB s (qB s ((qS s b).2.2)+1)) ((k-1:Nat):Int) hs hr (by omega)) h25) oz) (fun cx_ a_ hI_=>zW hc0 hI_)
   refine vX qD 1 [.k3,.n,.d,.n,.r] [ps 131 (bv false),pb 0 98 (vC s (qB s ((qS s b).2.2)) (k-1))] (wM [0] 108 (WF (jG s ((qS s b).2.2) ((k-1:Nat):Int) 62 hs (by omega)) h21) oz)<|zD (b:=false) rfl rfl<|qF<|zM ?_
   exact vH ⟨(us++[(qS s b).2.1],qB s (qS s b).2.2),⟨yR hpe.2,by simp only [List.length_append,List.length_singleton];omega,by rw [WT (by omega),if_pos h20,if_neg h21] at hc;rw [List.length_append];exact hc⟩⟩ (Wk.trans (Wk.eq (show _=[ps 0 (.opt 0 0),ps 4 (.opt 1 0),ps 5 (.opt 2 0),ps 131 (bv false),pb 0 98 (vC s (qB s ((qS s b).2.2)) (k-1)),pb 1 50 [(iv 0),(iv 0),sn,(iv 0),(iv 0),se,sn],pb 2 50 [(iv 1),(iv 1),(.osl 76 0 ((us++[(qS s b).2.1]).length)),(iv 0),(iv 0),se,sn],pb 76 52 (yI (us++[(qS s b).2.1]))] from by rw [List.length_append];rfl)) (Wk.ren3 _ 1 hc0 [0,1,2,76] [(kb 3,(yI (us++[(qS s b).2.1])))] (oc (qck _) (oz)) (by kernel_rfl) rfl rfl (by kernel_rfl) (by kernel_rfl))) (show 16-(us++[(qS s b).2.1]).length<16-us.length from by simp only [List.length_append,List.length_singleton];omega)
  rw [show (qZ s lv a k)=((qS s b).1,qV,(qS s b).2.2,0) from by rw [yZ,if_neg hk0,if_neg h3,if_neg h6,if_neg h9,if_neg h14,if_pos h18,← hc,WT (by omega),if_neg h20,if_neg h20],if_neg h20]
  exact vM qD [(3,.call [0] [(.opt 0 0)] [some (98,(vC s b (k-1)))] (.av (yz ((qS s b).1) (((qS s b).2.2:Nat):Int))) [none])] [4,5,6,7] 3 [] (QK [0] 60 (wQ (VT s b ((k-1:Nat):Int) hs hr (by omega)) h20) oz) (fun cx_ a_ hI_=>vk (zW hc0 hI_))
 refine zD (b:=(qv s a 60)) rfl (Bool.eq_false_iff.2 h18)<|qA<|qL qD [.k3,.d,.k2,.d,.n] [pb 169 50 [(iv 1),(iv 1),sn,(iv 0),(iv 0),se,sn]] ?_
 by_cases h26:(qS s (qB s a)).1=0
 ·refine vX qD 1 [.k3,.d,.n,.k1,.d,.n,.n] [pb 0 98 (vC s ((qS s (qB s a)).2.2) (k-1)),pb 169 50 [(iv 1),(iv 1),(.osl 361 0 1),(iv 0),(iv 0),se,sn],pb 361 52 [(iv ((qS s (qB s a)).2.1.1)),(iv ((qS s (qB s a)).2.1.2.1)),(iv ((qS s (qB s a)).2.1.2.2))]] (wM [0] 353 (wv (VT s (qB s a) ((k-1:Nat):Int) hs hr (by omega)) h26) oz)<|zM<|qA<|qA ?_
  have hin:=(qdo (by omega) h26).2
  have hgi:=yR hin
  by_cases h27:(qv s ((qS s (qB s a)).2.2) 42)=true
  ·refine vX qD 1 [.k3,.n,.d,.n,.r] [ps 133 (bv true),pb 0 98 (vC s (qB s ((qS s (qB s a)).2.2)+1) (k-1))] (wM [0] 393 (ZS (jG s ((qS s (qB s a)).2.2) ((k-1:Nat):Int) 42 hs (by omega)) h27) oz)<|qU (b:=true) rfl rfl ?_
   have hlt2:=yA h27
   by_cases h28:(qN s (qB s ((qS s (qB s a)).2.2)+1)).1=0
   ·refine vX qD 1 [.k3,.d,.d,.n,.k1,.d,.n,.r] [pb 0 98 (vC s ((qN s (qB s ((qS s (qB s a)).2.2)+1)).2.2) (k-1)),pb 169 50 [(iv 1),(iv ((qN s (qB s ((qS s (qB s a)).2.2)+1)).2.1)),(.osl 361 0 1),(iv 0),(iv 0),se,sn]] (wM [0] 409 (wv (vG s (qB s ((qS s (qB s a)).2.2)+1) ((k-1:Nat):Int) hs hr (by omega)) h28) oz)<|qA<|qA ?_
    have hin2:=(jW (s:=s) (a:=(qB s ((qS s (qB s a)).2.2)+1)) (by omega)).2
    refine qL qD [.k3,.n,.r] [ps 139 (bv true)]<|qU (b:=true) rfl rfl ?_
    by_cases h29:(zv s ((qN s (qB s ((qS s (qB s a)).2.2)+1)).2.2)).1=0
    ·refine vX qD 1 [.d,.k2,.d,.d,.n,.k1,.d,.n,.r] [pb 0 98 (vC s ((zv s ((qN s (qB s ((qS s (qB s a)).2.2)+1)).2.2)).2.2) (k-1)),pb 169 50 [(iv 1),(iv ((qN s (qB s ((qS s (qB s a)).2.2)+1)).2.1)),(.osl 361 0 1),(iv 0),(iv 0),(sv (st ((zv s ((qN s (qB s ((qS s (qB s a)).2.2)+1)).2.2)).2.1))),sn]] (wM [0] 465 (wv (QC s ((qN s (qB s ((qS s (qB s a)).2.2)+1)).2.2) ((k-1:Nat):Int) hs hr (by omega)) h29) oz)<|qA<|qL qD [.k1,.d,.k1,.d,.n,.d,.r] [pb 1 50 [(iv 1),(iv ((qN s (qB s ((qS s (qB s a)).2.2)+1)).2.1)),(.osl 361 0 1),(iv 0),(iv 0),(sv (st ((zv s ((qN s (qB s ((qS s (qB s a)).2.2)+1)).2.2)).2.1))),sn]] ?_
     rw [show (qZ s lv a k)=(0,(setL (WJ (.mk 1 1 [(qS s (qB s a)).2.1] (0,0) [] []) (qN s (qB s ((qS s (qB s a)).2.2)+1)).2.1) (zv s ((qN s (qB s ((qS s (qB s a)).2.2)+1)).2.2)).2.1),(zv s ((qN s (qB s ((qS s (qB s a)).2.2)+1)).2.2)).2.2,(k-1)) from by rw [yZ,if_neg hk0,if_neg h3,if_neg h6,if_neg h9,if_neg h14,if_neg h18,if_pos h26,yB,if_pos h27,if_pos h28,vT,if_pos (by rfl),if_pos h29],if_pos rfl]
     refine qx (Wk.frz (l':=[ps 4 (.opt 1 0),pb 0 98 (vC s ((zv s ((qN s (qB s ((qS s (qB s a)).2.2)+1)).2.2)).2.2) (k-1)),pb 1 50 [(iv 1),(iv ((qN s (qB s ((qS s (qB s a)).2.2)+1)).2.1)),(.ssl [(iv ((qS s (qB s a)).2.1.1)),(iv ((qS s (qB s a)).2.1.2.1)),(iv ((qS s (qB s a)).2.1.2.2))] 0 1),(iv 0),(iv 0),(sv (st ((zv s ((qN s (qB s ((qS s (qB s a)).2.2)+1)).2.2)).2.1))),sn],(kb 361,none)]) 361 (T:=52) (cs:=[(iv ((qS s (qB s a)).2.1.1)),(iv ((qS s (qB s a)).2.1.2.1)),(iv ((qS s (qB s a)).2.1.2.2))]) (by kernel_rfl) (fun p hp=>List.all_eq_true.1 (show [(iv ((qS s (qB s a)).2.1.1)),(iv ((qS s (qB s a)).2.1.2.1)),(iv ((qS s (qB s a)).2.1.2.2))].all PV.shd=true from rfl) p hp) (by kernel_rfl)) ?_
     exact zN hc0 [4] [0,1] (hbk:=by exact oc rfl (oz))
    rw [show (qZ s lv a k)=((zv s ((qN s (qB s ((qS s (qB s a)).2.2)+1)).2.2)).1,qV,(zv s ((qN s (qB s ((qS s (qB s a)).2.2)+1)).2.2)).2.2,(k-1)) from by rw [yZ,if_neg hk0,if_neg h3,if_neg h6,if_neg h9,if_neg h14,if_neg h18,if_pos h26,yB,if_pos h27,if_pos h28,vT,if_pos (by rfl),if_neg h29],if_neg h29]
    exact vM qD [(1,.call [0] [(.opt 0 0)] [some (98,(vC s ((qN s (qB s ((qS s (qB s a)).2.2)+1)).2.2) (k-1)))] (.av (yz ((zv s ((qN s (qB s ((qS s (qB s a)).2.2)+1)).2.2)).1) (((zv s ((qN s (qB s ((qS s (qB s a)).2.2)+1)).2.2)).2.2:Nat):Int))) [none])] [2,3] 1 [] (QK [0] 465 (wQ (QC s ((qN s (qB s ((qS s (qB s a)).2.2)+1)).2.2) ((k-1:Nat):Int) hs hr (by omega)) h29) oz) (fun cx_ a_ hI_=>zW hc0 hI_)
   rw [show (qZ s lv a k)=((qN s (qB s ((qS s (qB s a)).2.2)+1)).1,qV,(qN s (qB s ((qS s (qB s a)).2.2)+1)).2.2,(k-1)) from by rw [yZ,if_neg hk0,if_neg h3,if_neg h6,if_neg h9,if_neg h14,if_neg h18,if_pos h26,yB,if_pos h27,if_neg h28],if_neg h28]
   exact vM qD [(1,.call [0] [(.opt 0 0)] [some (98,(vC s (qB s ((qS s (qB s a)).2.2)+1) (k-1)))] (.av (yz ((qN s (qB s ((qS s (qB s a)).2.2)+1)).1) (((qN s (qB s ((qS s (qB s a)).2.2)+1)).2.2:Nat):Int))) [none])] [2,3] 1 [] (QK [0] 409 (wQ (vG s (qB s ((qS s (qB s a)).2.2)+1) ((k-1:Nat):Int) hs hr (by omega)) h28) oz) (fun cx_ a_ hI_=>zW hc0 hI_)
  refine vX qD 1 [.k3,.n,.d,.n,.r] [ps 133 (bv false),pb 0 98 (vC s (qB s ((qS s (qB s a)).2.2)) (k-1))] (wM [0] 393 (WF (jG s ((qS s (qB s a)).2.2) ((k-1:Nat):Int) 42 hs (by omega)) h27) oz)<|zD (b:=false) rfl rfl<|qF<|qA<|qA<|qL qD [.k3,.d,.n,.r] [ps 139 (bv true)]<|qU (b:=true) rfl rfl ?_
  by_cases h30:(zv s (qB s ((qS s (qB s a)).2.2))).1=0
  ·refine vX qD 1 [.d,.k2,.d,.d,.n,.k1,.d,.n,.r] [pb 0 98 (vC s ((zv s (qB s ((qS s (qB s a)).2.2))).2.2) (k-1)),pb 169 50 [(iv 1),(iv 1),(.osl 361 0 1),(iv 0),(iv 0),(sv (st ((zv s (qB s ((qS s (qB s a)).2.2))).2.1))),sn]] (wM [0] 433 (wv (QC s (qB s ((qS s (qB s a)).2.2)) ((k-1:Nat):Int) hs hr (by omega)) h30) oz)<|qA<|qL qD [.k1,.d,.k1,.d,.n,.d,.r] [pb 1 50 [(iv 1),(iv 1),(.osl 361 0 1),(iv 0),(iv 0),(sv (st ((zv s (qB s ((qS s (qB s a)).2.2))).2.1))),sn]] ?_
   rw [show (qZ s lv a k)=(0,(setL (.mk 1 1 [(qS s (qB s a)).2.1] (0,0) [] []) (zv s (qB s ((qS s (qB s a)).2.2))).2.1),(zv s (qB s ((qS s (qB s a)).2.2))).2.2,(k-1)) from by rw [yZ,if_neg hk0,if_neg h3,if_neg h6,if_neg h9,if_neg h14,if_neg h18,if_pos h26,yB,if_neg h27,vT,if_pos (by rfl),if_pos h30],if_pos rfl]
   refine qx (Wk.frz (l':=[ps 4 (.opt 1 0),pb 0 98 (vC s ((zv s (qB s ((qS s (qB s a)).2.2))).2.2) (k-1)),pb 1 50 [(iv 1),(iv 1),(.ssl [(iv ((qS s (qB s a)).2.1.1)),(iv ((qS s (qB s a)).2.1.2.1)),(iv ((qS s (qB s a)).2.1.2.2))] 0 1),(iv 0),(iv 0),(sv (st ((zv s (qB s ((qS s (qB s a)).2.2))).2.1))),sn],(kb 361,none)]) 361 (T:=52) (cs:=[(iv ((qS s (qB s a)).2.1.1)),(iv ((qS s (qB s a)).2.1.2.1)),(iv ((qS s (qB s a)).2.1.2.2))]) (by kernel_rfl) (fun p hp=>List.all_eq_true.1 (show [(iv ((qS s (qB s a)).2.1.1)),(iv ((qS s (qB s a)).2.1.2.1)),(iv ((qS s (qB s a)).2.1.2.2))].all PV.shd=true from rfl) p hp) (by kernel_rfl)) ?_
   exact zN hc0 [4] [0,1] (hbk:=by exact oc rfl (oz))
  rw [show (qZ s lv a k)=((zv s (qB s ((qS s (qB s a)).2.2))).1,qV,(zv s (qB s ((qS s (qB s a)).2.2))).2.2,(k-1)) from by rw [yZ,if_neg hk0,if_neg h3,if_neg h6,if_neg h9,if_neg h14,if_neg h18,if_pos h26,yB,if_neg h27,vT,if_pos (by rfl),if_neg h30],if_neg h30]
  exact vM qD [(1,.call [0] [(.opt 0 0)] [some (98,(vC s (qB s ((qS s (qB s a)).2.2)) (k-1)))] (.av (yz ((zv s (qB s ((qS s (qB s a)).2.2))).1) (((zv s (qB s ((qS s (qB s a)).2.2))).2.2:Nat):Int))) [none])] [2,3] 1 [] (QK [0] 433 (wQ (QC s (qB s ((qS s (qB s a)).2.2)) ((k-1:Nat):Int) hs hr (by omega)) h30) oz) (fun cx_ a_ hI_=>zW hc0 hI_)
 rw [show (qZ s lv a k)=((qS s (qB s a)).1,qV,(qS s (qB s a)).2.2,0) from by rw [yZ,if_neg hk0,if_neg h3,if_neg h6,if_neg h9,if_neg h14,if_neg h18,if_neg h26],if_neg h26]
 exact vM qD [(1,.call [0] [(.opt 0 0)] [some (98,(vC s (qB s a) (k-1)))] (.av (yz ((qS s (qB s a)).1) (((qS s (qB s a)).2.2:Nat):Int))) [none])] [2,3,4] 1 [] (QK [0] 353 (wQ (VT s (qB s a) ((k-1:Nat):Int) hs hr (by omega)) h26) oz) (fun cx_ a_ hI_=>zW hc0 hI_)
theorem qfz {s:qJ} (hs:s.length≤65536) (hr:Rdy s):∀ (m k:Nat),k<m→k≤4095→∀ (lv:Int),0≤lv∧lv≤32→∀ (a:Nat),a≤s.length→PO Tryz.prog 109 [.opt 0 0,iv lv] [some (98,[sv (st s),nv a,nv k])] (if (qZ s lv a k).1=0 then .ret (.agg (gI (qZ s lv a k).2.1)) [some (98,[sv (st s),nv (qZ s lv a k).2.2.1,nv (qZ s lv a k).2.2.2]),none] else .pan (yz (qZ s lv a k).1 (((qZ s lv a k).2.2.1:Nat):Int)) [none])
 | 0,k,h,_,_,_,_,_=>absurd h (Nat.not_lt_zero k)
 | m+1,k,h,hk,lv,hlv,a,ha=>qla s hs hr lv hlv a k ha hk (fun h0 h1 b hb=>group_step s hs hr lv ⟨hlv.1,h1⟩ b (k-1) hb (by omega) (fun c q hq hc=>qfz hs hr m q (by omega) (by omega) (lv+1) ⟨by omega,by omega⟩ c hc))
theorem item_po {s:qJ} (hs:s.length≤65536) (hr:Rdy s) {k:Nat} (hk:k≤4095) {lv:Int} (hlv:0≤lv∧lv≤32) {a:Nat} (ha:a≤s.length):PO Tryz.prog 109 [.opt 0 0,iv lv] [some (98,[sv (st s),nv a,nv k])] (if (qZ s lv a k).1=0 then .ret (.agg (gI (qZ s lv a k).2.1)) [some (98,[sv (st s),nv (qZ s lv a k).2.2.1,nv (qZ s lv a k).2.2.2]),none] else .pan (yz (qZ s lv a k).1 (((qZ s lv a k).2.2.1:Nat):Int)) [none]):=qfz hs hr (k+1) k (Nat.lt_succ_self k) hk lv hlv a ha
theorem bar_po (s:qJ) (hs:s.length≤65536) (hr:Rdy s) (a:Nat) (k:Int) (ha:a≤s.length):PO Tryz.prog 75 [(.opt 0 0)] [some (98,(r3 s a k))] (if (wH s a).1=0 then .ret (.agg (brC (wH s a).2.1)) [some (98,(vC s ((wH s a).2.2.1) ((wH s a).2.2.2))),none] else .pan (yz ((wH s a).1) (((wH s a).2.2.1:Nat):Int)) [none]):=by
 refine jJ Tryz.func75 rfl (by kernel_rfl) (QT (Nat.le_of_ble_eq_true rfl) (Nat.le_of_ble_eq_true rfl)) (by kernel_rfl) (l0:=[ps 0 (.opt 0 0),pb 0 98 (r3 s a k)]) rfl (fun c0 Bor hc0=>?_)
 refine qA<|qL qD [.k1,.n,.k1,.n] [ps 2 (.opt 1 0),pb 1 47 [(iv 0),(iv 0),sn]]<|qA ?_
 by_cases h1:(qN s a).1=0
 ·refine vX qD 1 [.k2,.n,.d,.n,.k1,.n] [ps 3 (.opt 33 0),pb 0 98 (r3 s ((qN s a).2.2) k),pb 33 47 [(iv ((qN s a).2.1)),(iv 0),sn]] (wM [0] 17 (wv (vG s a k hs hr (by omega)) h1) oz)<|qA ?_
  have hn1:=jW ha
  have hga:=vR s a
  by_cases h2:(qv s ((qN s a).2.2) 47)=true
  ·refine vX qD 1 [.k3,.d,.n,.r] [pb 0 98 (r3 s (qB s ((qN s a).2.2)+1) k)] (wM [0] 57 (wv (qco s ((qN s a).2.2) k 47 hs (by omega)) h2) oz)<|qA ?_
   have hlt:=yA h2
   have hn2:=jW (s:=s) (a:=qB s (qN s a).2.2+1) hlt
   by_cases h3:(qN s (qB s ((qN s a).2.2)+1)).1=0
   ·refine vX qD 1 [.k3,.d,.n,.k1,.d,.n] [pb 0 98 (r3 s ((qN s (qB s ((qN s a).2.2)+1)).2.2) k),pb 33 47 [(iv ((qN s a).2.1)),(iv ((qN s (qB s ((qN s a).2.2)+1)).2.1)),sn]] (wM [0] 73 (wv (vG s (qB s ((qN s a).2.2)+1) k hs hr (by omega)) h3) oz)<|qA<|qL qD [.k3,.d,.n,.r] [pb 0 98 (r3 s ((qN s (qB s ((qN s a).2.2)+1)).2.2) 4095)]<|qx (Wk.eq (show _=[ps 0 (.opt 0 0),ps 2 (.opt 1 0),ps 3 (.opt 33 0),pb 0 98 (vC s ((qN s (qB s ((qN s a).2.2)+1)).2.2) 4095),pb 1 47 [(iv 0),(iv 0),sn],pb 33 47 [(iv ((qN s a).2.1)),(iv ((qN s (qB s ((qN s a).2.2)+1)).2.1)),sn]] from by rfl)) ?_
    refine zI<|qx (Wk.nilc (B:=47) (cells:=[(iv ((qN s a).2.1)),(iv ((qN s (qB s ((qN s a).2.2)+1)).2.1)),sn]) 33 2 50 (by kernel_rfl) rfl)<|qx (Wk.less (l':=[ps 0 (.opt 0 0),ps 2 (.opt 1 0),ps 3 (.opt 33 0),pb 0 98 (vC s ((qN s (qB s ((qN s a).2.2)+1)).2.2) 4095),pb 1 47 [(iv 0),(iv 0),sn],pb 33 47 [(iv ((qN s a).2.1)),(iv ((qN s (qB s ((qN s a).2.2)+1)).2.1)),(.osl 129 0 0)],pb 129 50 []]) 130 (by kernel_rfl) (by kernel_rfl))<|qx (Wk.eq (show _=[ps 0 (.opt 0 0),ps 2 (.opt 1 0),ps 3 (.opt 33 0),pb 0 98 (vC s ((qN s (qB s ((qN s a).2.2)+1)).2.2) 4095),pb 1 47 [(iv 0),(iv 0),sn],pb 33 47 [(iv ((qN s a).2.1)),(iv ((qN s (qB s ((qN s a).2.2)+1)).2.1)),(.osl 129 0 (([]:List It).length))],pb 129 50 (zT ([]:List It))] from by rfl)) ?_
    refine vW (α:={x:List It × Nat × Nat // x.2.1≤s.length∧x.1.length+x.2.2≤4095∧brL s x.1 x.2.1 x.2.2=brL s [] (qN s (qB s (qN s a).2.2+1)).2.2 4095}) (fun x=>[ps 0 (.opt 0 0),ps 2 (.opt 1 0),ps 3 (.opt 2 0),pb 0 98 (vC s x.1.2.1 x.1.2.2),pb 1 47 [(iv 0),(iv 0),sn],pb 2 47 [(iv ((qN s a).2.1)),(iv ((qN s (qB s ((qN s a).2.2)+1)).2.1)),(.osl 3 0 x.1.1.length)],pb 3 50 (zT x.1.1)]) (fun x=>x.1.2.2) 4 ⟨([],(qN s (qB s ((qN s a).2.2)+1)).2.2,4095),⟨hn2.2,Nat.le_of_eq (Nat.zero_add _),rfl⟩⟩ (Wk.ren3 _ 1 hc0 [0,1,33,129] [(kb 3,(zT ([]:List It)))] (oc (ZN _) (oz)) (by kernel_rfl) rfl rfl (by kernel_rfl) (by kernel_rfl)) ?_
    rintro ⟨⟨l,b,q⟩,⟨hb,hq,hg⟩⟩
    dsimp only at hb hq hg
    refine zI<|qA ?_
    by_cases h4:(qZ s 1 b q).1=0
    ·refine jQ qD [(3,.call [0] [(.opt 0 0),(iv 1)] [some (98,(vC s b q))] (.agg [(iv (iK ((qZ s 1 b q).2.1))),(iv (iS ((qZ s 1 b q).2.1))),(.ssl (yI (iP ((qZ s 1 b q).2.1))) 0 ((iP ((qZ s 1 b q).2.1)).length)),(iv ((iB ((qZ s 1 b q).2.1)).1)),(iv ((iB ((qZ s 1 b q).2.1)).2)),(sv (st (iL ((qZ s 1 b q).2.1)))),(.ssl (zT (iC ((qZ s 1 b q).2.1))) 0 ((iC ((qZ s 1 b q).2.1)).length))]) [some (98,(vC s ((qZ s 1 b q).2.2.1) ((qZ s 1 b q).2.2.2))),none]),(5,.app none (some (zT (l++[(qZ s 1 b q).2.1]))))] (bfr [(0,0),(0,1),(0,0),(2,1),(2,2),(0,5),(0,6),(0,7)]) [([30],[6]),([32],[5,30]),([34],[0]),([36,1,57],[1,34]),([38,73],[36]),([40,7,89],[7,32,38,73]),([42],[6]),([5],[5,40,42])] [ps 0 (.opt 0 0),ps 2 (.opt 1 0),ps 3 (.opt 2 0),pb 0 98 (vC s ((qZ s 1 b q).2.2.1) ((qZ s 1 b q).2.2.2)),pb 1 47 [(iv 0),(iv 0),sn],pb 2 47 [(iv ((qN s a).2.1)),(iv ((qN s (qB s ((qN s a).2.2)+1)).2.1)),(.osl 44 0 (l.length+1))],pb 44 50 (zT (l++[(qZ s 1 b q).2.1]))] (wM [0] 28 (wv (item_po hs hr (k:=q) (by omega) (lv:=1) (by decide) (a:=b) (by omega)) h4) (oc (ics_len _:((zT l)).length=l.length*7) (oc (by omega:(l.length+1)*96≤140737488355328∧l.length+1≤9223372036854775807) (oc (qjt l _:(zT l)++[(iv (iK ((qZ s 1 b q).2.1))),(iv (iS ((qZ s 1 b q).2.1))),(.ssl (yI (iP ((qZ s 1 b q).2.1))) 0 ((iP ((qZ s 1 b q).2.1)).length)),(iv ((iB ((qZ s 1 b q).2.1)).1)),(iv ((iB ((qZ s 1 b q).2.1)).2)),(sv (st (iL ((qZ s 1 b q).2.1)))),(.ssl (zT (iC ((qZ s 1 b q).2.1))) 0 ((iC ((qZ s 1 b q).2.1)).length))]=(zT (l++[(qZ s 1 b q).2.1]))) oz))))<|qA ?_
     have hie:=Vz (lv:=1) (k:=q) hb h4
     by_cases h5:(qB s ((qZ s 1 b q).2.2.1):Int)=(s.length:Int)
     ·refine zE qD ([(1,.call [0] [(.opt 0 0)] [some (98,(vC s ((qZ s 1 b q).2.2.1) ((qZ s 1 b q).2.2.2)))] (bv (decide (((qB s ((qZ s 1 b q).2.2.1):Nat):Int)=(s.length:Int)))) [some (98,(vC s (qB s ((qZ s 1 b q).2.2.1)) ((qZ s 1 b q).2.2.2)))])]++gy 3 2++[(5,.yes true)]++gy 7 3) [.k3,.n,.d,.n,.r] [ps 32 (bv true),pb 0 98 (vC s (qB s ((qZ s 1 b q).2.2.1)) ((qZ s 1 b q).2.2.2))] (wM [0] 76 (Vw s ((qZ s 1 b q).2.2.1) (((qZ s 1 b q).2.2.2:Nat):Int) hs (by omega)) (oc (decide_eq_true h5) (oc (decide_eq_true h5) (oc (decide_eq_true h5) (on 3 tt oz)))))<|qU (b:=true) rfl rfl<|qA<|qL qD [.d,.k1,.d,.d,.k1,.d,.n,.d,.r] [pb 1 47 [(iv ((qN s a).2.1)),(iv ((qN s (qB s ((qN s a).2.2)+1)).2.1)),(.osl 44 0 (l.length+1))]] ?_
      have hbl:brL s [] (qN s (qB s (qN s a).2.2+1)).2.2 4095=(0,l++[(qZ s 1 b q).2.1],qB s (qZ s 1 b q).2.2.1,(qZ s 1 b q).2.2.2):=by rw [← hg,ZE,if_pos h4,if_pos (.inl (by omega))]
      rw [show (wH s a)=(0,((qN s a).2.1,(qN s (qB s ((qN s a).2.2)+1)).2.1,l++[(qZ s 1 b q).2.1]),qB s (qZ s 1 b q).2.2.1,(qZ s 1 b q).2.2.2) from by rw [wH,if_pos h1,if_pos h2,if_pos h3,hbl,if_pos rfl],if_pos rfl]
      refine qx (Wk.eq (show _=[ps 2 (.opt 1 0),pb 0 98 (vC s (qB s ((qZ s 1 b q).2.2.1)) ((qZ s 1 b q).2.2.2)),pb 1 47 [(iv ((qN s a).2.1)),(iv ((qN s (qB s ((qN s a).2.2)+1)).2.1)),(.osl 44 0 ((l++[(qZ s 1 b q).2.1]).length))],pb 44 50 (zT (l++[(qZ s 1 b q).2.1]))] from by rw [List.length_append];rfl)) ?_
      refine qx (Wk.frz (l':=[ps 2 (.opt 1 0),pb 0 98 (vC s (qB s ((qZ s 1 b q).2.2.1)) ((qZ s 1 b q).2.2.2)),pb 1 47 [(iv ((qN s a).2.1)),(iv ((qN s (qB s ((qN s a).2.2)+1)).2.1)),(.ssl (zT (l++[(qZ s 1 b q).2.1])) 0 ((l++[(qZ s 1 b q).2.1]).length))],(kb 44,none)]) 44 (T:=50) (cs:=(zT (l++[(qZ s 1 b q).2.1]))) (by kernel_rfl) (ZN _) (by kernel_rfl))<|qx (Wk.less (l':=[ps 2 (.opt 1 0),pb 0 98 (vC s (qB s ((qZ s 1 b q).2.2.1)) ((qZ s 1 b q).2.2.2)),pb 1 47 [(iv ((qN s a).2.1)),(iv ((qN s (qB s ((qN s a).2.2)+1)).2.1)),(.ssl (zT (l++[(qZ s 1 b q).2.1])) 0 ((l++[(qZ s 1 b q).2.1]).length))]]) 172 (by kernel_rfl) (by kernel_rfl)) ?_
      exact wV fun cx_ a_ hI_=>yv (rt hc0 [ps 2 (.opt 1 0),pb 0 98 (vC s (qB s ((qZ s 1 b q).2.2.1)) ((qZ s 1 b q).2.2.2)),pb 1 47 [(iv ((qN s a).2.1)),(iv ((qN s (qB s ((qN s a).2.2)+1)).2.1)),(.ssl (zT (l++[(qZ s 1 b q).2.1])) 0 ((l++[(qZ s 1 b q).2.1]).length))]] [0,1] hI_ (hbk:=by exact oc rfl (oz)))
     by_cases h6:(qv s ((qZ s 1 b q).2.2.1) 124)=true
     ·refine zE qD ([(1,.call [0] [(.opt 0 0)] [some (98,(vC s ((qZ s 1 b q).2.2.1) ((qZ s 1 b q).2.2.2)))] (bv (decide (((qB s ((qZ s 1 b q).2.2.1):Nat):Int)=(s.length:Int)))) [some (98,(vC s (qB s ((qZ s 1 b q).2.2.1)) ((qZ s 1 b q).2.2.2)))]),(3,.gd false .no),(4,.gd false (.call [0] [(.opt 0 0),(.av (.int .u8 124))] [some (98,(vC s (qB s ((qZ s 1 b q).2.2.1)) ((qZ s 1 b q).2.2.2)))] (bv (qv s ((qZ s 1 b q).2.2.1) 124)) [some (98,(vC s (qB s ((qZ s 1 b q).2.2.1)) ((qZ s 1 b q).2.2.2)))])),(5,.yes false)]++gy 7 3++[(10,.yes true)]) [.k3,.n,.d,.n,.r] [ps 32 (bv true),pb 0 98 (vC s (qB s ((qZ s 1 b q).2.2.1)) ((qZ s 1 b q).2.2.2))] (wM [0] 76 (Vw s ((qZ s 1 b q).2.2.1) (((qZ s 1 b q).2.2.2:Nat):Int) hs (by omega)) (oc (decide_eq_false h5) (oc (decide_eq_false h5) (wM [0] 100 (Zx s ((qZ s 1 b q).2.2.1) (((qZ s 1 b q).2.2.2:Nat):Int) 124 hs (by omega)) (oc (decide_eq_false h5) (on 4 (h6:(qv s ((qZ s 1 b q).2.2.1) 124)=true) oz))))))<|qU (b:=true) rfl rfl<|qA<|qL qD [.d,.k1,.d,.d,.k1,.d,.n,.d,.r] [pb 1 47 [(iv ((qN s a).2.1)),(iv ((qN s (qB s ((qN s a).2.2)+1)).2.1)),(.osl 44 0 (l.length+1))]] ?_
      have hbl:brL s [] (qN s (qB s (qN s a).2.2+1)).2.2 4095=(0,l++[(qZ s 1 b q).2.1],qB s (qZ s 1 b q).2.2.1,(qZ s 1 b q).2.2.2):=by rw [← hg,ZE,if_pos h4,if_pos (.inr (.inl h6))]
      rw [show (wH s a)=(0,((qN s a).2.1,(qN s (qB s ((qN s a).2.2)+1)).2.1,l++[(qZ s 1 b q).2.1]),qB s (qZ s 1 b q).2.2.1,(qZ s 1 b q).2.2.2) from by rw [wH,if_pos h1,if_pos h2,if_pos h3,hbl,if_pos rfl],if_pos rfl]
      refine qx (Wk.eq (show _=[ps 2 (.opt 1 0),pb 0 98 (vC s (qB s ((qZ s 1 b q).2.2.1)) ((qZ s 1 b q).2.2.2)),pb 1 47 [(iv ((qN s a).2.1)),(iv ((qN s (qB s ((qN s a).2.2)+1)).2.1)),(.osl 44 0 ((l++[(qZ s 1 b q).2.1]).length))],pb 44 50 (zT (l++[(qZ s 1 b q).2.1]))] from by rw [List.length_append];rfl)) ?_
      refine qx (Wk.frz (l':=[ps 2 (.opt 1 0),pb 0 98 (vC s (qB s ((qZ s 1 b q).2.2.1)) ((qZ s 1 b q).2.2.2)),pb 1 47 [(iv ((qN s a).2.1)),(iv ((qN s (qB s ((qN s a).2.2)+1)).2.1)),(.ssl (zT (l++[(qZ s 1 b q).2.1])) 0 ((l++[(qZ s 1 b q).2.1]).length))],(kb 44,none)]) 44 (T:=50) (cs:=(zT (l++[(qZ s 1 b q).2.1]))) (by kernel_rfl) (ZN _) (by kernel_rfl))<|qx (Wk.less (l':=[ps 2 (.opt 1 0),pb 0 98 (vC s (qB s ((qZ s 1 b q).2.2.1)) ((qZ s 1 b q).2.2.2)),pb 1 47 [(iv ((qN s a).2.1)),(iv ((qN s (qB s ((qN s a).2.2)+1)).2.1)),(.ssl (zT (l++[(qZ s 1 b q).2.1])) 0 ((l++[(qZ s 1 b q).2.1]).length))]]) 172 (by kernel_rfl) (by kernel_rfl)) ?_
      exact wV fun cx_ a_ hI_=>yv (rt hc0 [ps 2 (.opt 1 0),pb 0 98 (vC s (qB s ((qZ s 1 b q).2.2.1)) ((qZ s 1 b q).2.2.2)),pb 1 47 [(iv ((qN s a).2.1)),(iv ((qN s (qB s ((qN s a).2.2)+1)).2.1)),(.ssl (zT (l++[(qZ s 1 b q).2.1])) 0 ((l++[(qZ s 1 b q).2.1]).length))]] [0,1] hI_ (hbk:=by exact oc rfl (oz)))
     refine zE qD [(1,.call [0] [(.opt 0 0)] [some (98,(vC s ((qZ s 1 b q).2.2.1) ((qZ s 1 b q).2.2.2)))] (bv (decide (((qB s ((qZ s 1 b q).2.2.1):Nat):Int)=(s.length:Int)))) [some (98,(vC s (qB s ((qZ s 1 b q).2.2.1)) ((qZ s 1 b q).2.2.2)))]),(3,.gd false .no),(4,.gd false (.call [0] [(.opt 0 0),(.av (.int .u8 124))] [some (98,(vC s (qB s ((qZ s 1 b q).2.2.1)) ((qZ s 1 b q).2.2.2)))] (bv (qv s ((qZ s 1 b q).2.2.1) 124)) [some (98,(vC s (qB s ((qZ s 1 b q).2.2.1)) ((qZ s 1 b q).2.2.2)))])),(5,.yes false),(7,.gd false .no),(8,.gd false (.call [0] [(.opt 0 0)] [some (98,(vC s (qB s ((qZ s 1 b q).2.2.1)) ((qZ s 1 b q).2.2.2)))] (sv (st (qC s ((qZ s 1 b q).2.2.1)))) [some (98,(vC s (qB s ((qZ s 1 b q).2.2.1)) ((qZ s 1 b q).2.2.2)))])),(9,.gd false (.val (.av (.bool (decide ((qC s ((qZ s 1 b q).2.2.1))=([118,111,105,99,101]:TX))))))),(10,.yes false)] [.k3,.n,.d,.n,.r] [ps 32 (bv (decide ((qC s ((qZ s 1 b q).2.2.1))=([118,111,105,99,101]:TX)))),pb 0 98 (vC s (qB s ((qZ s 1 b q).2.2.1)) ((qZ s 1 b q).2.2.2))] (wM [0] 76 (Vw s ((qZ s 1 b q).2.2.1) (((qZ s 1 b q).2.2.2:Nat):Int) hs (by omega)) (oc (decide_eq_false h5) (oc (decide_eq_false h5) (wM [0] 100 (Zx s ((qZ s 1 b q).2.2.1) (((qZ s 1 b q).2.2.2:Nat):Int) 124 hs (by omega)) (oc (decide_eq_false h5) (oc (Bool.eq_false_iff.2 h6:(qv s ((qZ s 1 b q).2.2.1) 124)=false) (oc (Bool.eq_false_iff.2 h6:(qv s ((qZ s 1 b q).2.2.1) 124)=false) (wM [0] 132 (qdq s ((qZ s 1 b q).2.2.1) (((qZ s 1 b q).2.2.2:Nat):Int) hs hr (by omega)) (oc (Bool.eq_false_iff.2 h6:(qv s ((qZ s 1 b q).2.2.1) 124)=false) (oc (zj _ _:((st (qC s ((qZ s 1 b q).2.2.1))).toList == (st ([118,111,105,99,101]:TX)).toList)=decide ((qC s ((qZ s 1 b q).2.2.1))=([118,111,105,99,101]:TX))) (oc (Bool.eq_false_iff.2 h6:(qv s ((qZ s 1 b q).2.2.1) 124)=false) oz))))))))))) ?_
     by_cases h7:(qC s ((qZ s 1 b q).2.2.1))=([118,111,105,99,101]:TX)
     ·refine qX (decide_eq_true h7)<|qA<|qL qD [.d,.k1,.d,.d,.k1,.d,.n,.d,.r] [pb 1 47 [(iv ((qN s a).2.1)),(iv ((qN s (qB s ((qN s a).2.2)+1)).2.1)),(.osl 44 0 (l.length+1))]] ?_
      have hbl:brL s [] (qN s (qB s (qN s a).2.2+1)).2.2 4095=(0,l++[(qZ s 1 b q).2.1],qB s (qZ s 1 b q).2.2.1,(qZ s 1 b q).2.2.2):=by rw [← hg,ZE,if_pos h4,if_pos (.inr (.inr h7))]
      rw [show (wH s a)=(0,((qN s a).2.1,(qN s (qB s ((qN s a).2.2)+1)).2.1,l++[(qZ s 1 b q).2.1]),qB s (qZ s 1 b q).2.2.1,(qZ s 1 b q).2.2.2) from by rw [wH,if_pos h1,if_pos h2,if_pos h3,hbl,if_pos rfl],if_pos rfl]
      refine qx (Wk.eq (show _=[ps 2 (.opt 1 0),pb 0 98 (vC s (qB s ((qZ s 1 b q).2.2.1)) ((qZ s 1 b q).2.2.2)),pb 1 47 [(iv ((qN s a).2.1)),(iv ((qN s (qB s ((qN s a).2.2)+1)).2.1)),(.osl 44 0 ((l++[(qZ s 1 b q).2.1]).length))],pb 44 50 (zT (l++[(qZ s 1 b q).2.1]))] from by rw [List.length_append];rfl)) ?_
      refine qx (Wk.frz (l':=[ps 2 (.opt 1 0),pb 0 98 (vC s (qB s ((qZ s 1 b q).2.2.1)) ((qZ s 1 b q).2.2.2)),pb 1 47 [(iv ((qN s a).2.1)),(iv ((qN s (qB s ((qN s a).2.2)+1)).2.1)),(.ssl (zT (l++[(qZ s 1 b q).2.1])) 0 ((l++[(qZ s 1 b q).2.1]).length))],(kb 44,none)]) 44 (T:=50) (cs:=(zT (l++[(qZ s 1 b q).2.1]))) (by kernel_rfl) (ZN _) (by kernel_rfl))<|qx (Wk.less (l':=[ps 2 (.opt 1 0),pb 0 98 (vC s (qB s ((qZ s 1 b q).2.2.1)) ((qZ s 1 b q).2.2.2)),pb 1 47 [(iv ((qN s a).2.1)),(iv ((qN s (qB s ((qN s a).2.2)+1)).2.1)),(.ssl (zT (l++[(qZ s 1 b q).2.1])) 0 ((l++[(qZ s 1 b q).2.1]).length))]]) 172 (by kernel_rfl) (by kernel_rfl)) ?_
      exact wV fun cx_ a_ hI_=>yv (rt hc0 [ps 2 (.opt 1 0),pb 0 98 (vC s (qB s ((qZ s 1 b q).2.2.1)) ((qZ s 1 b q).2.2.2)),pb 1 47 [(iv ((qN s a).2.1)),(iv ((qN s (qB s ((qN s a).2.2)+1)).2.1)),(.ssl (zT (l++[(qZ s 1 b q).2.1])) 0 ((l++[(qZ s 1 b q).2.1]).length))]] [0,1] hI_ (hbk:=by exact oc rfl (oz)))
     refine qW (decide_eq_false h7)<|qF<|zM ?_
     have hno:¬ (qB s (qZ s 1 b q).2.2.1=s.length∨qv s (qZ s 1 b q).2.2.1 124=true∨qC s (qZ s 1 b q).2.2.1=vow):=fun hh=>hh.elim (fun hh=>by omega) fun hh=>hh.elim (fun hh=>h6 hh) (fun hh=>h7 hh)
     exact vH ⟨(l++[(qZ s 1 b q).2.1],qB s (qZ s 1 b q).2.2.1,(qZ s 1 b q).2.2.2),⟨yR hie.1.2,by have:=hie.2;simp only [List.length_append,List.length_singleton];omega,by rw [ZE,if_pos h4,if_neg hno,if_pos hie.2] at hg;exact hg⟩⟩ (Wk.trans (Wk.eq (show _=[ps 0 (.opt 0 0),ps 2 (.opt 1 0),ps 3 (.opt 2 0),ps 32 (bv (decide ((qC s ((qZ s 1 b q).2.2.1))=([118,111,105,99,101]:TX)))),pb 0 98 (vC s (qB s ((qZ s 1 b q).2.2.1)) ((qZ s 1 b q).2.2.2)),pb 1 47 [(iv 0),(iv 0),sn],pb 2 47 [(iv ((qN s a).2.1)),(iv ((qN s (qB s ((qN s a).2.2)+1)).2.1)),(.osl 44 0 ((l++[(qZ s 1 b q).2.1]).length))],pb 44 50 (zT (l++[(qZ s 1 b q).2.1]))] from by rw [List.length_append];rfl)) (Wk.ren3 _ 1 hc0 [0,1,2,44] [(kb 3,(zT (l++[(qZ s 1 b q).2.1])))] (oc (ZN _) (oz)) (by kernel_rfl) rfl rfl (by kernel_rfl) (by kernel_rfl))) (show ((qZ s 1 b q).2.2.2)<q from hie.2)
    rw [show (wH s a)=((qZ s 1 b q).1,zQ,(qZ s 1 b q).2.2.1,0) from by rw [wH,if_pos h1,if_pos h2,if_pos h3,← hg,ZE,if_neg h4,if_neg h4],if_neg h4]
    exact vM qD [(3,.call [0] [(.opt 0 0),(iv 1)] [some (98,(vC s b q))] (.av (yz ((qZ s 1 b q).1) (((qZ s 1 b q).2.2.1:Nat):Int))) [none])] [4,5,6,7] 3 [] (QK [0] 28 (wQ (item_po hs hr (k:=q) (by omega) (lv:=1) (by decide) (a:=b) (by omega)) h4) oz) (fun cx_ a_ hI_=>vk (zW hc0 hI_))
   rw [show (wH s a)=((qN s (qB s ((qN s a).2.2)+1)).1,zQ,(qN s (qB s ((qN s a).2.2)+1)).2.2,0) from by rw [wH,if_pos h1,if_pos h2,if_neg h3],if_neg h3]
   exact vM qD [(1,.call [0] [(.opt 0 0)] [some (98,(r3 s (qB s ((qN s a).2.2)+1) k))] (.av (yz ((qN s (qB s ((qN s a).2.2)+1)).1) (((qN s (qB s ((qN s a).2.2)+1)).2.2:Nat):Int))) [none])] [2,3] 1 [] (QK [0] 73 (wQ (vG s (qB s ((qN s a).2.2)+1) k hs hr (by omega)) h3) oz) (fun cx_ a_ hI_=>zW hc0 hI_)
  rw [show (wH s a)=(2,zQ,qB s (qN s a).2.2,0) from by rw [wH,if_pos h1,if_neg h2],if_neg (by show ¬ ((2:Int)=0);decide)]
  exact vM qD [(1,.call [0] [(.opt 0 0),(.av (.int .u8 47))] [some (98,(r3 s ((qN s a).2.2) k))] (.av (yz 2 (qB s ((qN s a).2.2):Int))) [none])] [] 1 [] (QK [0] 57 (wQ (qco s ((qN s a).2.2) k 47 hs (by omega)) h2) oz) (fun cx_ a_ hI_=>zW hc0 hI_)
 rw [show (wH s a)=((qN s a).1,zQ,(qN s a).2.2,0) from by rw [wH,if_neg h1],if_neg h1]
 exact vM qD [(1,.call [0] [(.opt 0 0)] [some (98,(r3 s a k))] (.av (yz ((qN s a).1) (((qN s a).2.2:Nat):Int))) [none])] [2,3,4] 1 [] (QK [0] 17 (wQ (vG s a k hs hr (by omega)) h1) oz) (fun cx_ a_ hI_=>zW hc0 hI_)
theorem qib (s:qJ) (hs:s.length≤65536) (hr:Rdy s) (a:Nat) (k:Int) (ha:a≤s.length):PO Tryz.prog 40 [(.opt 0 0)] [some (98,(r3 s a k))] (if (wW s a k).1=0 then .ret (.agg (voC (wW s a k).2.1)) [some (98,(r3 s ((wW s a k).2.2.1) ((wW s a k).2.2.2))),none] else .pan (yz ((wW s a k).1) (((wW s a k).2.2.1:Nat):Int)) [none]):=by
 refine jJ Tryz.func40 rfl (by kernel_rfl) (QT (Nat.le_of_ble_eq_true rfl) (Nat.le_of_ble_eq_true rfl)) (by kernel_rfl) (l0:=[ps 0 (.opt 0 0),pb 0 98 (r3 s a k)]) rfl (fun c0 Bor hc0=>?_)
 refine qA<|qL qD [.k1,.n,.k1,.n] [ps 2 (.opt 1 0),pb 1 44 [se,sn]]<|qA<|vX qD 1 [.k2,.d,.n,.r] [pb 0 98 (r3 s (qB s a) k)] (wM [0] 17 (qhp s a k hs (by omega)) oz)<|qA<|qA ?_
 have hga:=yR ha
 have hgg:=vR s a
 have hwl:=vO ha
 refine zE qD [(1,.call [0] [(.opt 0 0)] [some (98,(r3 s (qB s a) k))] (sv (st (qC s a))) [some (98,(r3 s (qB s a) k))]),(2,.val (.av (.bool (!decide ((qC s a)=([118,111,105,99,101]:TX))))))] [.k2,.n,.r] [ps 9 (bv (!(decide ((qC s a)=([118,111,105,99,101]:TX)))))] (wM [0] 33 (qdq s a k hs hr (by omega)) (oc (zw _ _:(!((st (qC s a)).toList == (st ([118,111,105,99,101]:TX)).toList)) = !decide ((qC s a)=([118,111,105,99,101]:TX))) oz)) ?_
 by_cases h1:(qC s a)=([118,111,105,99,101]:TX)
 ·refine qW (bt h1)<|qF<|qA ?_
  have hw5:(qC s a).length=5:=by rw [h1];rfl
  refine zE qD [] [.k2,.d,.d,.n,.r] [pb 0 98 [(sv (st s)),(iv (((qB s a:Nat):Int)+5)),(iv k)]] (oi (((qB s a:Nat):Int)+5) (by omega) oz)<|qx (Wk.eq (show _=[ps 0 (.opt 0 0),ps 2 (.opt 1 0),pb 0 98 (r3 s (qB s a+5) k),pb 1 44 [se,sn]] from by rfl)) ?_
  refine qA ?_
  have hwl2:=vO (s:=s) (a:=qB s a+5) (by omega)
  have hgg2:=vR s (qB s a+5)
  refine vX qD 1 [.k2,.n,.d,.n,.r] [ps 3 (sv (st (qC s (qB s a+5)))),pb 0 98 (r3 s (qB s (qB s a+5)) k)] (wM [0] 121 (qai s (qB s a+5) k hs hr (by omega)) oz)<|qA<|qA<|yJ qD 1 [.k3,.n,.r] [ps 23 (bv (!(jM (qC s (qB s a+5)))))] (zY 145 (qic (qC s (qB s a+5)) (by omega)) oz) ?_
  by_cases h2:(jM (qC s (qB s a+5)))=true
  ·refine qW (congrArg Bool.not h2)<|qF<|qA<|qL qD [.k3,.n,.d,.k2,.n] [ps 4 (.opt 177 0),pb 177 44 [(sv (st (qC s (qB s a+5)))),sn]]<|qA<|zE qD [] [.k2,.d,.k1,.d,.n,.r] [pb 0 98 [(sv (st s)),(iv (((qB s (qB s a+5):Nat):Int)+(((qC s (qB s a+5)).length:Nat):Int))),(iv k)]] (oi (((qB s (qB s a+5):Nat):Int)+(((qC s (qB s a+5)).length:Nat):Int)) (by omega) oz)<|qx (Wk.eq (show _=[ps 0 (.opt 0 0),ps 2 (.opt 1 0),ps 4 (.opt 177 0),pb 0 98 (r3 s (qB s (qB s a+5)+(qC s (qB s a+5)).length) k),pb 1 44 [se,sn],pb 177 44 [(sv (st (qC s (qB s a+5)))),sn]] from by rfl)) ?_
   refine qA<|zI<|qx (Wk.nilc (B:=44) (cells:=[(sv (st (qC s (qB s a+5)))),sn]) 177 1 47 (by kernel_rfl) rfl)<|qx (Wk.less (l':=[ps 0 (.opt 0 0),ps 2 (.opt 1 0),ps 4 (.opt 177 0),pb 0 98 (r3 s (qB s (qB s a+5)+(qC s (qB s a+5)).length) k),pb 1 44 [se,sn],pb 177 44 [(sv (st (qC s (qB s a+5)))),(.osl 273 0 0)],pb 273 47 []]) 274 (by kernel_rfl) (by kernel_rfl))<|qx (Wk.eq (show _=[ps 0 (.opt 0 0),ps 2 (.opt 1 0),ps 4 (.opt 177 0),pb 0 98 (r3 s (qB s (qB s a+5)+(qC s (qB s a+5)).length) k),pb 1 44 [se,sn],pb 177 44 [(sv (st (qC s (qB s a+5)))),(.osl 273 0 (([]:List Br).length))],pb 273 47 (jA ([]:List Br))] from by rfl)) ?_
   refine vW (α:={x:List Br × Nat × Int // x.2.1≤s.length∧x.1.length≤1024∧YS s (1024-x.1.length) x.1 x.2.1 x.2.2=YS s 1024 [] (qB s (qB s a+5)+(qC s (qB s a+5)).length) k}) (fun x=>[ps 0 (.opt 0 0),ps 2 (.opt 1 0),ps 4 (.opt 2 0),pb 0 98 (r3 s x.1.2.1 x.1.2.2),pb 1 44 [se,sn],pb 2 44 [(sv (st (qC s (qB s a+5)))),(.osl 3 0 x.1.1.length)],pb 3 47 (jA x.1.1)]) (fun x=>1024-x.1.1.length) 4 ⟨([],(qB s (qB s a+5)+(qC s (qB s a+5)).length),k),⟨hwl2,Nat.zero_le _,rfl⟩⟩ (Wk.ren3 _ 1 hc0 [0,1,177,273] [(kb 3,(jA ([]:List Br)))] (oc (qhw _) (oz)) (by kernel_rfl) rfl rfl (by kernel_rfl) (by kernel_rfl)) ?_
   rintro ⟨⟨l,b,z⟩,⟨hb,hl1,hg⟩⟩
   dsimp only at hb hl1 hg
   refine qA<|qA<|T_r1 qD 1 [ps 0 (.opt 0 0),ps 2 (.opt 1 0),ps 4 (.opt 2 0),ps 38 (bv (qv s b 124)),pb 0 98 (r3 s (qB s b) z),pb 1 44 [se,sn],pb 2 44 [(sv (st (qC s (qB s a+5)))),(.osl 3 0 l.length)],pb 3 47 (jA l)] (wM [0] 12 (qen s b z 124 hs (by omega)) oz) ?_
   by_cases h3:(qv s b 124)=true
   ·refine qU (b:=(qv s b 124)) rfl h3<|qF<|zI<|qA<|qA ?_
    have hlt:=yA h3
    refine qL qD [.k3,.d,.n,.r] [ps 42 (bv (decide (((l.length:Nat):Int)=1024)))] ?_
    by_cases h4:(l.length:Int)=1024
    ·refine qX (decide_eq_true h4) ?_
     have hvl:YS s 1024 [] (qB s (qB s a+5)+(qC s (qB s a+5)).length) k=(5,[],qB s b,0):=by rw [← hg,qgo (by omega),if_pos h3,if_pos (by omega)]
     rw [show (wW s a k)=(5,qO,qB s b,0) from by rw [wW,if_pos (show qC s a=vow from h1),if_pos h2,hvl,if_neg (by show ¬ ((5:Int)=0);decide)],if_neg (by show ¬ ((5:Int)=0);decide)]
     exact vM qD [(1,.call [0] [(.opt 0 0),(iv 5)] [some (98,(r3 s (qB s b) z))] (.av (yz 5 (qB s b:Int))) [none])] [] 1 [] (QK [0] 60 (yV s (qB s b) z 5) oz) (fun cx_ a_ hI_=>vk (zW hc0 hI_))
    refine qW (decide_eq_false h4)<|qF<|qA<|zE qD [] [.k3,.d,.d,.n,.r] [pb 0 98 [(sv (st s)),(iv (((qB s b:Nat):Int)+1)),(iv z)]] (oi (((qB s b:Nat):Int)+1) (by omega) oz)<|qx (Wk.eq (show _=[ps 0 (.opt 0 0),ps 2 (.opt 1 0),ps 4 (.opt 2 0),pb 0 98 (r3 s (qB s b+1) z),pb 1 44 [se,sn],pb 2 44 [(sv (st (qC s (qB s a+5)))),(.osl 3 0 l.length)],pb 3 47 (jA l)] from by rfl)) ?_
    by_cases h5:(wH s (qB s b+1)).1=0
    ·refine ZG qD [(3,.call [0] [(.opt 0 0)] [some (98,(r3 s (qB s b+1) z))] (.agg [(iv (((wH s (qB s b+1)).2.1).1)),(iv (((wH s (qB s b+1)).2.1).2.1)),(.ssl (zT (((wH s (qB s b+1)).2.1).2.2)) 0 ((((wH s (qB s b+1)).2.1).2.2).length))]) [some (98,(vC s ((wH s (qB s b+1)).2.2.1) ((wH s (qB s b+1)).2.2.2))),none]),(5,.app none (some (jA (l++[(wH s (qB s b+1)).2.1]))))] (bfr [(0,0),(0,1),(0,0),(2,1),(2,2),(0,5),(0,6),(0,7)]) [([104],[8]),([106],[5,104]),([108],[0]),([110,1,281],[1,108]),([112,297],[110]),([114,7,313],[7,106,112,297]),([116],[8]),([5],[5,114,116])] [.k3,.d,.n,.k1,.d,.n,.d,.n] [pb 0 98 (vC s ((wH s (qB s b+1)).2.2.1) ((wH s (qB s b+1)).2.2.2)),pb 2 44 [(sv (st (qC s (qB s a+5)))),(.osl 156 0 (l.length+1))],pb 156 47 (jA (l++[(wH s (qB s b+1)).2.1]))] (wM [0] 140 (wv (bar_po s hs hr (qB s b+1) z (by omega)) h5) (oc (brs_len _:((jA l)).length=l.length*3) (oc (by omega:(l.length+1)*40≤140737488355328∧l.length+1≤9223372036854775807) (oc (brs_snoc l _:(jA l)++[(iv (((wH s (qB s b+1)).2.1).1)),(iv (((wH s (qB s b+1)).2.1).2.1)),(.ssl (zT (((wH s (qB s b+1)).2.1).2.2)) 0 ((((wH s (qB s b+1)).2.1).2.2).length))]=(jA (l++[(wH s (qB s b+1)).2.1]))) oz))))<|zM ?_
     exact vH ⟨(l++[(wH s (qB s b+1)).2.1],(wH s (qB s b+1)).2.2.1,(((wH s (qB s b+1)).2.2.2:Nat):Int)),⟨(qhx (s:=s) (a:=qB s b+1) hlt h5).2,by simp only [List.length_append,List.length_singleton];omega,by rw [qgo (by omega),if_pos h3,if_neg (by omega),if_pos h5] at hg;rw [List.length_append];exact hg⟩⟩ (Wk.trans (Wk.eq (show _=[ps 0 (.opt 0 0),ps 2 (.opt 1 0),ps 4 (.opt 2 0),pb 0 98 (vC s ((wH s (qB s b+1)).2.2.1) ((wH s (qB s b+1)).2.2.2)),pb 1 44 [se,sn],pb 2 44 [(sv (st (qC s (qB s a+5)))),(.osl 156 0 ((l++[(wH s (qB s b+1)).2.1]).length))],pb 156 47 (jA (l++[(wH s (qB s b+1)).2.1]))] from by rw [List.length_append];rfl)) (Wk.ren3 _ 1 hc0 [0,1,2,156] [(kb 3,(jA (l++[(wH s (qB s b+1)).2.1])))] (oc (qhw _) (oz)) (by kernel_rfl) rfl rfl (by kernel_rfl) (by kernel_rfl))) (show 1024-(l++[(wH s (qB s b+1)).2.1]).length<1024-l.length from by simp only [List.length_append,List.length_singleton];omega)
    have hvl:YS s 1024 [] (qB s (qB s a+5)+(qC s (qB s a+5)).length) k=((wH s (qB s b+1)).1,[],(wH s (qB s b+1)).2.2.1,0):=by rw [← hg,qgo (by omega),if_pos h3,if_neg (by omega),if_neg h5]
    rw [show (wW s a k)=((wH s (qB s b+1)).1,qO,(wH s (qB s b+1)).2.2.1,0) from by rw [wW,if_pos (show qC s a=vow from h1),if_pos h2,hvl,if_neg h5],if_neg h5]
    exact vM qD [(3,.call [0] [(.opt 0 0)] [some (98,(r3 s (qB s b+1) z))] (.av (yz ((wH s (qB s b+1)).1) (((wH s (qB s b+1)).2.2.1:Nat):Int))) [none])] [4,5,6,7] 3 [] (QK [0] 140 (wQ (bar_po s hs hr (qB s b+1) z (by omega)) h5) oz) (fun cx_ a_ hI_=>vk (zW hc0 hI_))
   refine zD (b:=(qv s b 124)) rfl (Bool.eq_false_iff.2 h3)<|vL rfl rfl<|qA<|qL qD [.d,.k1,.d,.d,.k1,.d,.n,.d,.r] [pb 1 44 [(sv (st (qC s (qB s a+5)))),(.osl 3 0 l.length)]] ?_
   have hvl:YS s 1024 [] (qB s (qB s a+5)+(qC s (qB s a+5)).length) k=(0,l,qB s b,z):=by rw [← hg,qgo (by omega),if_neg h3]
   rw [show (wW s a k)=(0,((qC s (qB s a+5)),l),qB s b,z) from by rw [wW,if_pos (show qC s a=vow from h1),if_pos h2,hvl,if_pos rfl],if_pos rfl]
   refine qx (Wk.frz (l':=[ps 2 (.opt 1 0),pb 0 98 (r3 s (qB s b) z),pb 1 44 [(sv (st (qC s (qB s a+5)))),(.ssl (jA l) 0 l.length)],(kb 3,none)]) 3 (T:=47) (cs:=(jA l)) (by kernel_rfl) (qhw _) (by kernel_rfl)) ?_
   exact zN hc0 [2] [0,1] (hbk:=by exact oc rfl (oz))
  refine qX (congrArg Bool.not (Bool.eq_false_iff.2 h2)) ?_
  rw [show (wW s a k)=(2,qO,qB s (qB s a+5),0) from by rw [wW,if_pos (show qC s a=vow from h1),if_neg h2],if_neg (by show ¬ ((2:Int)=0);decide)]
  exact vM qD [(1,.call [0] [(.opt 0 0),(iv 2)] [some (98,(r3 s (qB s (qB s a+5)) k))] (.av (yz 2 (qB s (qB s a+5):Int))) [none])] [] 1 [] (QK [0] 169 (yV s (qB s (qB s a+5)) k 2) oz) (fun cx_ a_ hI_=>zW hc0 hI_)
 refine qX (bf h1) ?_
 rw [show (wW s a k)=(2,qO,qB s a,0) from by rw [wW,if_neg (show ¬ qC s a=vow from h1)],if_neg (by show ¬ ((2:Int)=0);decide)]
 exact vM qD [(1,.call [0] [(.opt 0 0),(iv 2)] [some (98,(r3 s (qB s a) k))] (.av (yz 2 (qB s a:Int))) [none])] [] 1 [] (QK [0] 57 (yV s (qB s a) k 2) oz) (fun cx_ a_ hI_=>zW hc0 hI_)
def PD (P:Program) (f:FuncId) (args:List PV) (H:Hp) (u u':FrameMode) (H':Hp):Prop:=FnOk P f∧H.length≤H'.length∧∀ (c:Cx) (vs:Array Value),Heap (wT P c H) (· < H.length) c (ZF H)→RL P c args vs →
 CallsD P f vs u c.w fun e u2 w'=>∃ v c',e = .returned v∧u2=u'∧c'.w=w'∧Heap (wT P c H) (· < H'.length) c' (ZF H')
def Recs (u:FrameMode) (x:Value) (u':FrameMode):Prop:=∀ (c₀:Frame) (cs:List Frame),c₀.mode=u→recoverD (c₀ :: cs)=some (x,{ c₀ with mode:=u' } :: cs)∨(recoverD (c₀ :: cs)=none∧x = .nilIface∧u'=u)
theorem recs_ret:Recs .returning .nilIface .returning:=fun c₀ cs h=>.inr ⟨by simp only [recoverD,h],rfl,rfl⟩
theorem recs_pan (v:Value):Recs (.panicking [{ v:=v,recovered:=false }]) v (.panicking [{ v:=v,recovered:=true }]):=fun c₀ cs h=>.inl (by simp only [recoverD,h])
theorem qiy {P:Program} {f:FuncId} {fn:Func} {rest:Code} {id:Nat} {o:Oper} {t:Nat} {ts:Array TypeId} {args:List PV} {H H':Hp} {x:Value} {u u':FrameMode} {l0:L} (hf:P.funcs[f]? = some fn) (hb:fn.body=some (.seq (.region id #[o] false) rest))
  (hname : (fn.name == "runtime.NumGoroutine") = false) (hop : o.op = .call { callee := .builtin .recover, args := #[], argTypes := ts }) (hg : o.guard = none) (hdst : o.dst = some t) (ht : Nat.blt t fn.ntmps = true) (hrec : Recs u x u') (hlen : H.length ≤ H'.length)
  (hn:Nat.ble args.length fn.ntmps=true) (hl0:Zj 0 args++ZM 0 H=l0)
  (h:∀ c0 (Bor:Nat→Prop),(∀ i x,c0.own i=some x→i<H.length)→T P fn.ntmps c0 ⟨Bor,[]⟩ (retQ P fn c0 ⟨Bor,[]⟩ (.tup []) H') H.length ([(ks t,some (.pv (.av x)))]++l0) [.code rest]):PD P f args H u u' H':=by
 refine ⟨⟨fn,hf,by rw [hb];rfl,hname⟩,hlen,fun c vs hh hrl=>?_⟩
 have hI:=qjr (Nat.le_of_ble_eq_true hn) hl0 c vs hh hrl
 have ht':t<fn.ntmps:=by simpa [Nat.blt_eq] using ht
 have hI2:=hI.pure (nx':=fun i=>i<H.length) (fun _ h=>h) (some t) (fun y hy=>by cases hy;exact ht') (p:=.av x) (v:=x) fun _=>.sh (.av _)
 have key:=h c (wT P c H).Bor.bor (fun i x hx=>hh.ids i x hx) c _ (by rw [vI];exact hI2)
 refine callsD_of_wpS hf hb fun c₀ cs hu=>wpS_seq (wpS_region ?_)
 have hrun:∀ a:Act,(execOp a.eval o).run P c.w = .ok .recover c.w:=fun a=>by simp [execOp,hop,resolve,invoke,builtin]
 show wpOpsS P #[o] _ [0] _ _ _
 have hw:∀ y,Region.wanted o y=true:=fun y=>by simp [Region.wanted,hg]
 have hrest:∀ cs':List Frame,cs'={ c₀ with mode:=u' } :: cs→rest.wpS P (bodyPostS P fn c₀ cs fun e u2 w'=>∃ v c',e = .returned v∧u2=u'∧c'.w=w'∧Heap (wT P c H) (· < H'.length) c' (ZF H'))
   (Act.put { tmps:=vs++Array.replicate (fn.ntmps-vs.size) undef,defers:=[] } (some t) x) cs' c.w:=by
  intro cs' hcs
  refine wpS_of_wp (wp_mono key ?_)
  rintro e a' w' ⟨cx',rfl,he,hd,v,cx2,h1,h2,h3,h4⟩
  rcases he with rfl|rfl
  ·exact ⟨hd,u',hcs,v,h2,v,cx2,rfl,rfl,h1,h4⟩
  ·exact ⟨hd,u',hcs,v,h2,v,cx2,rfl,rfl,h1,h4⟩
 simp only [wpOpsS,List.getElem?_toArray,List.getElem?_cons_zero,hw,if_true,hrun,hdst]
 rcases hrec c₀ cs hu with h1|⟨h1,rfl,rfl⟩
 ·rw [h1]
  exact hrest _ rfl
 ·rw [h1]
  exact hrest _ (by subst hu;rfl)
theorem Heap.envD {P:Program} {n m:Nat} {c0 c:Cx} {B:Nat→Prop} {d e:List Deferred} {nx:Nat→Prop} {g:St} (h:Heap ⟨P,n,c0,⟨B,d⟩⟩ nx c g):Heap ⟨P,m,c0,⟨B,e⟩⟩ nx c g :=
 { ids:=h.ids,blk:=h.blk,inj:=h.inj,apart:=h.apart,bnd:=h.bnd,sok:=h.sok,os:=h.os,tape:=h.tape,output:=h.output,size:=h.size,same:=h.same,laid:=h.laid,s0:=h.s0,s1:=h.s1,keep:=h.keep }
theorem Heap.bare {E:Env} {nx:Nat→Prop} {c:Cx} {g:St} (h:Heap E nx c g) {k:Nat} (hk:∀ i x,E.c0.own i=some x→i<k):Heap E (· < k) ⟨c.w,c.S,E.c0.own⟩ (fun _=>none) :=
 { ids:=hk,blk:=fun i T cs h=>(by cases h),inj:=fun i j b T T' ⟨_,_,h⟩=>(by cases h),apart:=fun i b T ⟨_,_,h⟩=>(by cases h),bnd:=fun i b T hx=>h.bnd i b T (h.keep.own i _ hx),sok:=h.sok,os:=h.os,tape:=h.tape,output:=h.output,size:=h.size,same:=h.same,laid:=h.laid,s0:=h.s0,s1:=h.s1,keep:=⟨h.keep.S,fun _ _ h=>h,h.keep.shape⟩ }
theorem qjv {H:Hp} (h:∀ i,H.getD i none=none):∀ i T cs,¬ ZF H (kb i)=some (.blk T cs):=fun i T cs hx=>by
 rw [QH,h i] at hx
 cases hx
theorem Heap.bareH {E:Env} {nx:Nat→Prop} {c:Cx} {g:St} (h:Heap E nx c g) {H:Hp} (hH:∀ i,H.getD i none=none) (hk:∀ i x,E.c0.own i=some x→i<H.length):Heap E (· < H.length) ⟨c.w,c.S,E.c0.own⟩ (ZF H) :=
 (h.bare hk).less fun i T cs hx=>absurd hx (qjv hH i T cs)

theorem wp_one {P:Program} {ops:Array Oper} {Q:Exit→Act→World→Prop} {i:Nat} {rest:List Nat} {o:Oper} {a:Act} {w:World} (ho:ops[i]? = some o) (hg:o.guard=none) (h:o.wp P a w (wpOps P ops Q rest) Q):wpOps P ops Q (i :: rest) a w:=by
 rw [wpOps_cons]
 unfold wpOp
 simp only [ho]
 rw [if_pos (by simp [Region.wanted,hg])]
 exact .inl h
section
variable {P:Program} {n:Nat} {c0:Cx} {B:Nat→Prop} {m:Nat} {l:L} {cx:Cx} {a:Act} {d:Deferred} {fn:Func} {fl:FuncId} {t0 t1:Nat} {T0 T1:TypeId} {X0 X1 Y0 Y1:List PV} {u u':FrameMode} {r:PV}
theorem qfs {v0 v1:Value} (hI:Inv ⟨P,n,c0,⟨B,[d]⟩⟩ (· < m) cx (get l) a) (hdd:d={ target:=.fn (.func fl) #[v0,v1],args := #[] }) (hv0:a.tmps.getD t0 undef=v0) (hv1:a.tmps.getD t1 undef=v1)
  (h0:get l (ks t0)=some (.pv (.opt 0 0))) (h1:get l (ks t1)=some (.pv (.opt 1 0))) (hb0:get l (kb 0)=some (.blk T0 X0)) (hb1:get l (kb 1)=some (.blk T1 X1)) (hX0:∀ σ,qT σ X0=X0) (hX1:∀ σ,qT σ X1=X1) (hY0:∀ σ,qT σ Y0=Y0) (hY1:∀ σ,qT σ Y1=Y1)
  (hpd:PD P fl [.opt 0 0,.opt 1 0] [some (T0,X0),some (T1,X1)] u u' [some (T0,Y0),some (T1,Y1)]) (hu:u≠.run) (hs:settle u' = .returning)
  (hr:runv (get [(ks t0,some (.pv (.opt 0 0))),(ks t1,some (.pv (.opt 1 0))),(kb 0,some (.blk T0 Y0)),(kb 1,some (.blk T1 Y1))]) (resP P fn.results.toList fun ps=>.done (qfe ps) [])=some (r,[]))
  {R:Ending→World→Prop} (hR:∀ v own2 (c':Cx),Heap ⟨P,n,c0,⟨B,[d]⟩⟩ (· < m+8) ⟨c'.w,c'.S,own2⟩ (fun _=>none)→Rep P ⟨c'.w,c'.S,own2⟩ r v→R (.returned v) c'.w):Leaves P fn a.tmps R a.defers u cx.w:=by
 have hdf:a.defers=[d]:=hI.dfr
 rw [hdf,hdd]
 obtain ⟨hfn,hHl,hpd⟩:=hpd
 have hinv:(invoke (.fn (.func fl) #[v0,v1]) #[]).run P cx.w = .ok (.enter fl #[v0,v1]) cx.w:=by
  obtain ⟨fn,h1,h2,h3⟩:=hfn
  have h2':¬ fn.body=none:=fun e=>by rw [e] at h2;cases h2
  have h3' : ¬ fn.name = "runtime.NumGoroutine" := by simpa using h3
  simp [invoke,callFunc,h1,h3',h2']
 have hfr:∀ t,t<8→¬ (m+t<m):=fun t _=>by omega
 have hlent:∀ i,i < [0,1].length→∃ T cs,([some (T0,X0),some (T1,X1)]:Hp).getD i none=some (T,cs)∧get l (kb ([0,1].getD i 0))=some (.blk T (qT (qY [0,1] m) cs)):=fun i hi=>by
  match i,hi with
  | 0,_=>exact ⟨T0,X0,rfl,by rw [hX0];exact hb0⟩
  | 1,_=>exact ⟨T1,X1,rfl,by rw [hX1];exact hb1⟩
 have hh:=VY (id:=m) (ids:=[0,1]) (H:=[some (T0,X0),some (T1,X1)]) hfr hI.toHeap rfl rfl hlent
 have hra:RL P (cx.via (qY [0,1] m)) [.opt 0 0,.opt 1 0] #[v0,v1]:=⟨rfl,fun i hi=>by
  match i,hi with
  | 0,_=>exact jI (hv0▸hI.slot t0 _ h0) (.opt 0 0) rfl
  | 1,_=>exact jI (hv1▸hI.slot t1 _ h1) (.opt 1 0) rfl⟩
 refine leaves_cons hu hinv ((hpd _ _ hh hra).mono ?_)
 rintro e u2 w' ⟨v,c',rfl,rfl,rfl,hh'⟩
 obtain ⟨own2,hk,hto,hh2⟩:=qbx (E:=⟨P,n,c0,⟨B,[d]⟩⟩) (id:=m) (ids:=[0,1]) (H:=[some (T0,X0),some (T1,X1)]) (H':=[some (T0,Y0),some (T1,Y1)]) (Nat.le_of_ble_eq_true rfl) hHl hfr hI.toHeap rfl rfl hlent hh'
 have hI2:Inv ⟨P,n,c0,⟨B,[d]⟩⟩ (· < m+8) ⟨c'.w,c'.S,own2⟩ (zC (wk (yK [0,1] m) 0 [some (T0,Y0),some (T1,Y1)]) (get l)) a:=(hI.keeps hk hh2 fun s=>by unfold zC;rw [jX]).more fun i hi=>by
  rcases hi with h|h
  ·omega
  ·omega
 have hI3:Inv ⟨P,n,c0,⟨B,[d]⟩⟩ (· < m+8) ⟨c'.w,c'.S,own2⟩ (get [(ks t0,some (.pv (.opt 0 0))),(ks t1,some (.pv (.opt 1 0))),(kb 0,some (.blk T0 Y0)),(kb 1,some (.blk T1 Y1))]) a:=hI2.less fun k v hx=>by
  simp only [get,lk] at hx
  split at hx
  ·rename_i e
   rw [Nat.eq_of_beq_eq_true e]
   unfold zC
   rw [jX,h0]
   simpa using hx
  split at hx
  ·rename_i e
   rw [Nat.eq_of_beq_eq_true e]
   unfold zC
   rw [jX,h1]
   simpa using hx
  split at hx
  ·rename_i e
   rw [Nat.eq_of_beq_eq_true e]
   show (match lk (kb 0) (wk (yK [0,1] m) 0 [some (T0,Y0),some (T1,Y1)]) with|some x=>x|none=>get l (kb 0))=some v
   rw [show lk (kb 0) (wk (yK [0,1] m) 0 [some (T0,Y0),some (T1,Y1)])=some (some (.blk T0 (qT (yK [0,1] m) Y0))) from rfl,hY0]
   simpa using hx
  split at hx
  ·rename_i e
   rw [Nat.eq_of_beq_eq_true e]
   show (match lk (kb 1) (wk (yK [0,1] m) 0 [some (T0,Y0),some (T1,Y1)]) with|some x=>x|none=>get l (kb 1))=some v
   rw [show lk (kb 1) (wk (yK [0,1] m) 0 [some (T0,Y0),some (T1,Y1)])=some (some (.blk T1 (qT (yK [0,1] m) Y1))) from rfl,hY1]
   simpa using hx
  ·simp at hx
 obtain ⟨v',h2,h3⟩:=yC hr _ a hI3
 show Leaves P fn a.tmps R [] (settle u2) c'.w
 rw [hs]
 exact ⟨v',h2,hR v' own2 c' (hI3.toHeap.less fun i T cs hx=>by cases hx) h3⟩
theorem lend_two {d0:List Deferred} {c0:Cx} {B:Nat→Prop} {n0:Nat} {l:L} {cx:Cx} {a a2:Act} {i1 t0 t1:Nat} {rest:List (Nat × PV)} (hI:Inv ⟨P,n,c0,⟨B,d0⟩⟩ (· < n0) cx (get l) a) (hn:Nat.blt 0 i1=true) (hb0:get l (kb 0)=some (.blk T0 X0)) (hb1:get l (kb i1)=some (.blk T1 X1)) (hX0:∀ σ,qT σ X0=X0) (hX1:∀ σ,qT σ X1=X1)
  (h0:get l (ks t0)=some (.pv (.opt 0 0))) (h1:get l (ks t1)=some (.pv (.opt i1 0))) (hts:a2.tmps.size=a.tmps.size) (hsame:∀ s p,get l (ks s)=some (.pv p)→a2.tmps.getD s undef=a.tmps.getD s undef)
  (hrest:∀ x∈rest,get l (ks x.1)=some (.pv x.2)∧∀ σ,ren σ x.2=x.2) :
  Inv ⟨P,n,cx.via (qY [0,i1] n0),⟨(wT P (cx.via (qY [0,i1] n0)) [some (T0,X0),some (T1,X1)]).Bor.bor,a2.defers⟩⟩ (· < 2) (cx.via (qY [0,i1] n0))
   (get ([(ks t0,some (.pv (.opt 0 0))),(ks t1,some (.pv (.opt 1 0))),(kb 0,some (.blk T0 X0)),(kb 1,some (.blk T1 X1))]++rest.map fun x=>(ks x.1,some (.pv x.2)))) a2:=by
 have hi1:0<i1:=by simpa [Nat.blt_eq] using hn
 have hnd:vE [0,i1]=true:=by
  have:Nat.beq 0 i1=false:=by rw [Bool.eq_false_iff];intro h;have:=Nat.eq_of_beq_eq_true h;omega
  simp [vE,this]
 have hlent:∀ i,i < [0,i1].length→∃ T cs,([some (T0,X0),some (T1,X1)]:Hp).getD i none=some (T,cs)∧get l (kb ([0,i1].getD i 0))=some (.blk T (qT (qY [0,i1] n0) cs)):=fun i hi=>by
  match i,hi with
  | 0,_=>exact ⟨T0,X0,rfl,by rw [hX0];exact hb0⟩
  | 1,_=>exact ⟨T1,X1,rfl,by rw [hX1];exact hb1⟩
 have hh:=VY (E:=⟨P,n,c0,⟨B,d0⟩⟩) (id:=n0) (ids:=[0,i1]) (H:=[some (T0,X0),some (T1,X1)]) (fun t _=>by omega) hI.toHeap hnd rfl hlent
 have hsl:∀ s p,get ([(ks t0,some (.pv (.opt 0 0))),(ks t1,some (.pv (.opt 1 0))),(kb 0,some (.blk T0 X0)),(kb 1,some (.blk T1 X1))]++rest.map fun x=>(ks x.1,some (.pv x.2))) (ks s)=some p→∃ q,p = .pv q∧Rep P (cx.via (qY [0,i1] n0)) q (a2.tmps.getD s undef):=by
  intro s p hx
  simp only [get,List.cons_append,List.nil_append,lk,ZU,jD] at hx
  by_cases e0:s=t0
  ·subst e0
   simp only [decide_true,if_true,Option.join_some,Option.some.injEq] at hx
   exact ⟨_,hx.symm,by rw [hsame s _ h0];exact jI (hI.slot s _ h0) (.opt 0 0) rfl⟩
  by_cases e1:s=t1
  ·subst e1
   simp only [e0,decide_false,decide_true,Bool.false_eq_true,if_true,if_false,Option.join_some,Option.some.injEq] at hx
   exact ⟨_,hx.symm,by rw [hsame s _ h1];exact jI (hI.slot s _ h1) (.opt 1 0) rfl⟩
  simp only [e0,e1,decide_false,Bool.false_eq_true,if_false] at hx
  have key:∀ rs:List (Nat × PV),(∀ x∈rs,x∈rest)→(lk (ks s) (rs.map fun x=>(ks x.1,some (Val.pv x.2)))).join=some p→∃ x∈rs,x.1=s∧p = .pv x.2:=by
   intro rs
   induction rs with
   | nil=>intro _ h;simp [lk] at h
   | cons y rs ih =>
    intro hy h
    simp only [List.map_cons,lk,ZU] at h
    by_cases e:s=y.1
    ·simp only [e,decide_true,if_true,Option.join_some,Option.some.injEq] at h
     exact ⟨y,by simp,e.symm,h.symm⟩
    ·simp only [e,decide_false,Bool.false_eq_true,if_false] at h
     obtain ⟨x,h1,h2,h3⟩:=ih (fun x hx=>hy x (by simp [hx])) h
     exact ⟨x,by simp [h1],h2,h3⟩
  obtain ⟨x,h2,h3,h4⟩:=key rest (fun x hx=>hx) hx
  obtain ⟨h5,h6⟩:=hrest x h2
  subst h3
  exact ⟨x.2,h4,by rw [hsame x.1 _ h5];exact jI (hI.slot x.1 _ h5) x.2 (h6 _).symm⟩
 have hbk:∀ i T cs,get ([(ks t0,some (.pv (.opt 0 0))),(ks t1,some (.pv (.opt 1 0))),(kb 0,some (.blk T0 X0)),(kb 1,some (.blk T1 X1))]++rest.map fun x=>(ks x.1,some (.pv x.2))) (kb i)=some (.blk T cs)→ZF [some (T0,X0),some (T1,X1)] (kb i)=some (.blk T cs):=by
  intro i T cs hx
  simp only [get,List.cons_append,List.nil_append,lk,qba,ZV] at hx
  rw [QH]
  match i,hx with
  | 0,hx=>simpa using hx
  | 1,hx=>simpa using hx
  | i+2,hx =>
   exfalso
   have e0:¬ i+2=0:=by omega
   have e1:¬ i+2=1:=by omega
   simp only [e0,e1,decide_false,Bool.false_eq_true,if_false] at hx
   have:∀ rs:List (Nat × PV),lk (kb (i+2)) (rs.map fun x=>(ks x.1,some (Val.pv x.2)))=none:=by
    intro rs
    induction rs with
    | nil=>rfl
    | cons y rs ih=>simp only [List.map_cons,lk,qba];exact ih
   rw [this rest] at hx
   cases hx
 have hh2:Heap ⟨P,n,cx.via (qY [0,i1] n0),⟨(wT P (cx.via (qY [0,i1] n0)) [some (T0,X0),some (T1,X1)]).Bor.bor,a2.defers⟩⟩ (· < 2) (cx.via (qY [0,i1] n0)) (ZF [some (T0,X0),some (T1,X1)]):=Heap.envD (n:=0) (d:=[]) hh
 exact { hh2.less hbk with
   tmps:=by rw [hts];exact hI.tmps
   dfr:=rfl
   slot:=fun s p hp=>by
     obtain ⟨q,h2,h3⟩:=hsl s _ hp
     cases h2
     exact h3
   isv:=fun s x hx=>by
     obtain ⟨q,h2,_⟩:=hsl s _ hx
     exact ⟨q,h2⟩ }
theorem back_two {d0 ds:List Deferred} {c0:Cx} {B:Nat→Prop} {n0:Nat} {l:L} {cx:Cx} {a:Act} {i1:Nat} (hI:Inv ⟨P,n,c0,⟨B,d0⟩⟩ (· < n0) cx (get l) a) (hn:Nat.blt 0 i1=true) (hb0:get l (kb 0)=some (.blk T0 X0)) (hb1:get l (kb i1)=some (.blk T1 X1)) (hX0:∀ σ,qT σ X0=X0) (hX1:∀ σ,qT σ X1=X1)
  (hc0:∀ i x,c0.own i=some x→i<0) {nx:Nat→Prop} {c':Cx} {g':St} (h:Heap ⟨P,n,cx.via (qY [0,i1] n0),⟨(wT P (cx.via (qY [0,i1] n0)) [some (T0,X0),some (T1,X1)]).Bor.bor,ds⟩⟩ nx c' g') :
  Heap ⟨P,0,c0,⟨B,[]⟩⟩ (· < 0) ⟨c'.w,c'.S,c0.own⟩ (fun _=>none):=by
 have hi1:0<i1:=by simpa [Nat.blt_eq] using hn
 have hnd:vE [0,i1]=true:=by
  have:Nat.beq 0 i1=false:=by rw [Bool.eq_false_iff];intro h;have:=Nat.eq_of_beq_eq_true h;omega
  simp [vE,this]
 have hlent:∀ i,i < [0,i1].length→∃ T cs,([some (T0,X0),some (T1,X1)]:Hp).getD i none=some (T,cs)∧get l (kb ([0,i1].getD i 0))=some (.blk T (qT (qY [0,i1] n0) cs)):=fun i hi=>by
  match i,hi with
  | 0,_=>exact ⟨T0,X0,rfl,by rw [hX0];exact hb0⟩
  | 1,_=>exact ⟨T1,X1,rfl,by rw [hX1];exact hb1⟩
 have hh:=VY (E:=⟨P,n,c0,⟨B,d0⟩⟩) (id:=n0) (ids:=[0,i1]) (H:=[some (T0,X0),some (T1,X1)]) (fun t _=>by omega) hI.toHeap hnd rfl hlent
 have h2:=(h.bareH (H:=[none,none]) (fun i=>by rcases i with _|_|i <;> rfl) (fun i x hx=>hh.ids i x hx)).envD (m:=0) (e:=[])
 obtain ⟨own3,_,_,hh3⟩:=qbx (E:=⟨P,n,c0,⟨B,d0⟩⟩) (id:=n0) (ids:=[0,i1]) (H:=[some (T0,X0),some (T1,X1)]) (H':=[none,none]) (show 2≤2+8 by omega) (Nat.le_refl 2) (fun t _=>by omega) hI.toHeap hnd rfl hlent h2
 exact (hh3.bare hc0).envD
mutual
def dsh:PV→Bool
 | .agg cs=>dshL cs
 | .tup cs=>dshL cs
 | .fn _ cs ds=>dshL cs && dshL ds
 | .osl _ _ _=>false
 | .opt _ _=>false
 | .opn _ _=>false
 | .av _=>true
 | .ssl _ _ _=>true
 | .spt _ _=>true
 | .err=>true
def dshL:List PV→Bool
 | []=>true
 | p :: l=>dsh p && dshL l
end
theorem VJ:∀ {l:List PV} {i:Nat},dshL l=true→i<l.length→dsh (l.getD i P0)=true
 | [],i,_,h=>absurd h (Nat.not_lt_zero i)
 | p :: l,0,h,_=>by
  simp only [dshL,Bool.and_eq_true] at h
  exact h.1
 | p :: l,i+1,h,hi=>by
  simp only [dshL,Bool.and_eq_true] at h
  simpa using VJ (i:=i) h.2 (by simpa using hi)
theorem rep_dsh {c:Cx} {p:PV} {v:Value} (h:Rep P c p v) (hd:dsh p=true):SRep c.w c.S p v:=by
 induction h with
 | sh h=>exact h
 | agg hn _ ih =>
  simp only [dsh] at hd
  exact .agg hn fun i hi=>ih i hi (VJ hd hi)
 | tup hn _ ih =>
  simp only [dsh] at hd
  exact .tup hn fun i hi=>ih i hi (VJ hd hi)
 | osl=>cases hd
 | opt=>cases hd
 | opn=>cases hd
 | fn hn _ hm _ ih ik =>
  simp only [dsh,Bool.and_eq_true] at hd
  exact .fn hn (fun i hi=>ih i hi (VJ hd.1 hi)) hm fun i hi=>ik i hi (VJ hd.2 hi)
theorem cell_av {g:St} {nx:Nat→Prop} {E:Env} {c:Cx} (h:Heap E nx c g) {i:Nat} {T:TypeId} {p:PV} (hg:g (kb i)=some (.blk T [p])):∃ v:Value,v.oneCell'=true∧Heap E nx c (zC [(kb i,some (.blk T [.av v]))] g):=by
 obtain ⟨ob,h1,h2,h3⟩:=h.blk i T _ hg
 have hp:p.one=true:=h2 p (by simp)
 rcases h3 with ⟨_,h4⟩|⟨b,cs,h4,h5,h6,h7⟩
 ·cases h4
 have hr:=h7 0 (by simp)
 refine ⟨cs.getD 0 undef,Rep.one hr hp,?_⟩
 have hl:∀ j,vD (zC [(kb i,some (.blk T [.av (cs.getD 0 undef)]))] g) j→vD g j:=fun j ⟨T',cs',hx⟩=>by
  rw [jK] at hx
  by_cases e:j=i
  ·subst e;exact ⟨T,_,hg⟩
  ·rw [if_neg e] at hx;exact ⟨T',cs',hx⟩
 exact { h with
   blk:=fun j T' cs' hx=>by
     rw [jK] at hx
     by_cases e:j=i
     · subst e
       rw [if_pos rfl] at hx
       simp only [Option.some.injEq,Val.blk.injEq] at hx
       obtain ⟨rfl,rfl⟩:=hx
       refine ⟨ob,h1,fun q hq=>?_,.inr ⟨b,cs,h4,h5,h6,fun k hk=>?_⟩⟩
       · rw [List.mem_singleton.1 hq];exact Rep.one hr hp
       · obtain rfl:k=0:=by simpa using hk
         exact .sh (.av _)
     · rw [if_neg e] at hx
       exact h.blk j T' cs' hx
   inj:=fun j j' b T T' l1 l2=>h.inj j j' b T T' (hl j l1) (hl j' l2)
   apart:=fun j b T l1=>h.apart j b T (hl j l1) }
end
theorem lit_nil (l:List Vo):PD Tryz.prog 37 [.opt 0 0,.opt 1 0] [some (22,[(.ssl (yq l) 0 l.length)]),some (33,[(iv 0),(iv 0)])] (.returning) (.returning) [some (22,[(.ssl (yq l) 0 l.length)]),some (33,[(iv 0),(iv 0)])]:=by
 refine qiy (x:=.nilIface) Tryz.func37 rfl (by kernel_rfl) rfl rfl rfl (by kernel_rfl) recs_ret (Nat.le_of_ble_eq_true rfl) (by kernel_rfl) rfl (fun c0 Bor hc0=>?_)
 refine zI<|qA<|zU qD [] [ps 0 (.opt 0 0),ps 1 (.opt 1 0),ps 5 (.av .nilIface),ps 7 (bv true),pb 0 22 [(.ssl (yq l) 0 l.length)],pb 1 33 [(iv 0),(iv 0)]] (oz)<|qU (b:=true) rfl rfl<|qL qD [.d,.d,.d,.d,.r] []<|zM ?_
 exact fun cx_ a_ hI_=>yw (H':=[some (22,[(.ssl (yq l) 0 l.length)]),some (33,[(iv 0),(iv 0)])]) (.inl rfl) (Wk.ren2 [pb 0 22 [(.ssl (yq l) 0 l.length)],pb 1 33 [(iv 0),(iv 0)]] 2 hc0 [0,1] rfl rfl (by kernel_rfl) (by kernel_rfl)) rfl (oc rfl (oc rfl (oz))) (fun cx_ a_ hI_=>yC (l':=[pb 0 22 [(.ssl (yq l) 0 l.length)],pb 1 33 [(iv 0),(iv 0)]]) (by kernel_rfl) cx_ a_ hI_) hI_
theorem lit_pan (v:Value) (e a:Int):PD Tryz.prog 37 [.opt 0 0,.opt 1 0] [some (22,[(.av v)]),some (33,[(iv 0),(iv 0)])] (.panicking [{ v:=yz e a,recovered:=false }]) (.panicking [{ v:=yz e a,recovered:=true }]) [some (22,[sn]),some (33,[(iv e),(iv a)])]:=by
 refine qiy (x:=(yz e a)) Tryz.func37 rfl (by kernel_rfl) rfl rfl rfl (by kernel_rfl) (recs_pan _) (Nat.le_of_ble_eq_true rfl) (by kernel_rfl) rfl (fun c0 Bor hc0=>?_)
 refine zI<|qA<|zU qD [] [ps 0 (.opt 0 0),ps 1 (.opt 1 0),ps 5 (.av (yz e a)),ps 7 (bv false),pb 0 22 [(.av v)],pb 1 33 [(iv 0),(iv 0)]] (oz)<|zD (b:=false) rfl rfl<|qA<|qL qD [.k3,.d,.n,.n,.r] [ps 9 (bv true),ps 10 (.av (.agg #[.int .i64 e,.int .i64 a]))]<|qU (b:=true) rfl rfl<|qA<|qL qD [.k2,.n,.d,.d,.d,.k2,.n] [ps 3 (.opt 34 0),pb 34 95 [(iv e),(iv a)]]<|jQ qD [] [[],[],[0,1]] [([22],[6,69]),([1],[0,1]),([3],[2,3,22])] [pb 0 22 [sn],pb 1 33 [(iv e),(iv a)]] (oz)<|zM ?_
 exact fun cx_ a_ hI_=>yw (H':=[some (22,[sn]),some (33,[(iv e),(iv a)])]) (.inl rfl) (Wk.ren2 [pb 0 22 [sn],pb 1 33 [(iv e),(iv a)]] 2 hc0 [0,1] rfl rfl (by kernel_rfl) (by kernel_rfl)) rfl (oc rfl (oc rfl (oz))) (fun cx_ a_ hI_=>yC (l':=[pb 0 22 [sn],pb 1 33 [(iv e),(iv a)]]) (by kernel_rfl) cx_ a_ hI_) hI_
abbrev WZ (s:qJ):Int × List Vo × Nat:=Yz s 64 [] 0 0
def RQ (s:qJ) (c0:Cx) (Bor:BorD):Yq:=fun e cx a=>∃ m l,Inv ⟨Tryz.prog,Tryz.f15.ntmps,c0,Bor⟩ (· < m) cx (get l) a∧get l (ks 2)=some (.pv (.opt 0 0))∧get l (ks 3)=some (.pv (.opt 1 0))∧get l (kb 1)=some (.blk 33 [iv 0,iv 0]) ∧
 ((e = .ret∧(WZ s).1=0∧get l (kb 0)=some (.blk 22 [.ssl (yq (WZ s).2.1) 0 (WZ s).2.1.length]))∨(e=chn (yz (WZ s).1 (((WZ s).2.2:Nat):Int))∧¬ (WZ s).1=0∧∃ p,get l (kb 0)=some (.blk 22 [p])))
theorem read_rest (s:qJ) (hs:s.length≤65536) (hr:Rdy s) {o0 o1 o3:Array Oper} {c2 rest:Code} (hb:Tryz.f15.body=some (.seq (.region 0 o0 false) (.seq (.seq (.region 1 o1 false) c2) (.seq (.region 3 o3 false) rest)))) (c0:Cx) (Bor:BorD) (hc0:∀ i x,c0.own i=some x→i<2) :
  T Tryz.prog Tryz.f15.ntmps c0 Bor (RQ s c0 Bor) 2 ([(ks 2,some (.pv (.opt 0 0))),(ks 3,some (.pv (.opt 1 0))),(kb 0,some (.blk 22 [.av (.slice none 0 0)])),(kb 1,some (.blk 33 [iv 0,iv 0]))]++[((0:Nat),(sv (st s)))].map fun x=>(ks x.1,some (.pv x.2))) [.code rest]:=by
 cases hb
 refine qA<|zU qD [] [ps 2 (.opt 0 0),ps 3 (.opt 1 0),ps 4 (.opt 18 0),pb 0 22 [sn],pb 1 33 [(iv 0),(iv 0)],pb 18 98 [(sv (st s)),(iv 0),(iv 0)]] (oz)<|qx (Wk.eq (show _=[ps 2 (.opt 0 0),ps 3 (.opt 1 0),ps 4 (.opt 18 0),pb 0 22 [sn],pb 1 33 [(iv 0),(iv 0)],pb 18 98 (r3 s 0 0)] from by rfl)) ?_
 refine qA<|zI<|qx (Wk.nilc (B:=22) (cells:=[sn]) 0 0 44 (by kernel_rfl) rfl)<|qx (Wk.less (l':=[ps 2 (.opt 0 0),ps 3 (.opt 1 0),ps 4 (.opt 18 0),pb 0 22 [(.osl 34 0 0)],pb 1 33 [(iv 0),(iv 0)],pb 18 98 (r3 s 0 0),pb 34 44 []]) 35 (by kernel_rfl) (by kernel_rfl))<|qx (Wk.eq (show _=[ps 2 (.opt 0 0),ps 3 (.opt 1 0),ps 4 (.opt 18 0),pb 0 22 [(.osl 34 0 (([]:List Vo).length))],pb 1 33 [(iv 0),(iv 0)],pb 18 98 (r3 s 0 0),pb 34 44 (yq ([]:List Vo))] from by rfl)) ?_
 refine vW (α:={x:List Vo × Nat × Int // x.2.1≤s.length∧x.1.length≤64∧Yz s (64-x.1.length) x.1 x.2.1 x.2.2=WZ s}) (fun x=>[ps 2 (.opt 0 0),ps 3 (.opt 1 0),ps 4 (.opt 2 0),pb 0 22 [(.osl 3 0 x.1.1.length)],pb 1 33 [(iv 0),(iv 0)],pb 2 98 (r3 s x.1.2.1 x.1.2.2),pb 3 44 (yq x.1.1)]) (fun x=>64-x.1.1.length) 4 ⟨([],0,0),⟨Nat.zero_le _,Nat.zero_le _,rfl⟩⟩ (Wk.ren3 _ 2 hc0 [0,1,18,34] [(kb 3,(yq ([]:List Vo)))] (oc (qgn _) (oz)) (by kernel_rfl) rfl rfl (by kernel_rfl) (by kernel_rfl)) ?_
 rintro ⟨⟨l,b,z⟩,⟨hb,hl1,hg⟩⟩
 dsimp only at hb hl1 hg
 refine qA<|qA<|T_r1 qD 1 [ps 2 (.opt 0 0),ps 3 (.opt 1 0),ps 4 (.opt 2 0),ps 15 (bv (!(decide (((qB s b:Nat):Int)=(s.length:Int))))),pb 0 22 [(.osl 3 0 l.length)],pb 1 33 [(iv 0),(iv 0)],pb 2 98 (r3 s (qB s b) z),pb 3 44 (yq l)] (wM [2] 12 (Vw s b z hs (by omega)) oz) ?_
 by_cases h1:(qB s b:Int)=(s.length:Int)
 ·refine qW (bt h1)<|vL rfl rfl<|qA<|qL qD [.k2,.d,.d,.k2,.d,.r] [] ?_
  have hR:WZ s=(0,l,0):=by rw [← hg,qgx (by omega),if_pos (by omega)]
  refine qx (Wk.frz (l':=[ps 2 (.opt 0 0),ps 3 (.opt 1 0),pb 0 22 [(.ssl (yq l) 0 l.length)],pb 1 33 [(iv 0),(iv 0)],(kb 3,none)]) 3 (T:=44) (cs:=(yq l)) (by kernel_rfl) (qgn _) (by kernel_rfl))<|qx (Wk.less (l':=[ps 2 (.opt 0 0),ps 3 (.opt 1 0),pb 0 22 [(.ssl (yq l) 0 l.length)],pb 1 33 [(iv 0),(iv 0)]]) 60 (by kernel_rfl) (by kernel_rfl)) ?_
  exact wV fun cx_ a_ hI_=>⟨_,_,hI_,rfl,rfl,rfl,.inl ⟨rfl,by rw [hR],by rw [hR];rfl⟩⟩
 refine qX (bf h1)<|qF<|zI<|qA<|qA ?_
 have hgl:=yR hb
 refine qL qD [.k3,.d,.n,.r] [ps 18 (bv (decide (((l.length:Nat):Int)=64)))] ?_
 by_cases h2:(l.length:Int)=64
 ·refine qX (decide_eq_true h2) ?_
  have hR:WZ s=(5,[],qB s b):=by rw [← hg,qgx (by omega),if_neg (by omega),if_pos (by omega)]
  exact vM qD [(1,.call [2] [(.opt 0 0),(iv 5)] [some (98,(r3 s (qB s b) z))] (.av (yz 5 (qB s b:Int))) [none])] [] 1 [ps 2 (.opt 0 0),ps 3 (.opt 1 0),pb 0 22 [(.osl 3 0 l.length)],pb 1 33 [(iv 0),(iv 0)]] (QK [2] 60 (yV s (qB s b) z 5) oz) (fun cx_ a_ hI_=>vk (⟨_,_,hI_,rfl,rfl,rfl,.inr ⟨by rw [hR],by rw [hR];exact (by show ¬ ((5:Int)=0);decide),_,rfl⟩⟩))
 refine qW (decide_eq_false h2)<|qF ?_
 by_cases h3:(wW s (qB s b) z).1=0
 ·refine ZG qD [(2,.call [2] [(.opt 0 0)] [some (98,(r3 s (qB s b) z))] (.agg [(sv (st (((wW s (qB s b) z).2.1).1))),(.ssl (jA (((wW s (qB s b) z).2.1).2)) 0 ((((wW s (qB s b) z).2.1).2).length))]) [some (98,(r3 s ((wW s (qB s b) z).2.2.1) ((wW s (qB s b) z).2.2.2))),none]),(4,.app none (some (yq (l++[(wW s (qB s b) z).2.1]))))] [[],[],[1],[1,2],[0,1,2,3],[0,1,2,3,4]] [([42],[1,4]),([44],[8]),([46,5,137],[5,44]),([48,153],[46]),([50,7,169],[7,42,48,153]),([1],[1,4,50])] [.k3,.d,.d,.n,.k1,.d,.n,.d,.n] [pb 0 22 [(.osl 84 0 (l.length+1))],pb 2 98 (r3 s ((wW s (qB s b) z).2.2.1) ((wW s (qB s b) z).2.2.2)),pb 84 44 (yq (l++[(wW s (qB s b) z).2.1]))] (wM [2] 68 (wv (qib s hs hr (qB s b) z (by omega)) h3) (oc (vos_len _:((yq l)).length=l.length*2) (oc (by omega:(l.length+1)*40≤140737488355328∧l.length+1≤9223372036854775807) (oc (vos_snoc l _:(yq l)++[(sv (st (((wW s (qB s b) z).2.1).1))),(.ssl (jA (((wW s (qB s b) z).2.1).2)) 0 ((((wW s (qB s b) z).2.1).2).length))]=(yq (l++[(wW s (qB s b) z).2.1]))) oz))))<|zM ?_
  exact vH ⟨(l++[(wW s (qB s b) z).2.1],(wW s (qB s b) z).2.2.1,(wW s (qB s b) z).2.2.2),⟨(vcR_end (s:=s) (a:=qB s b) (yR hb) h3).2,by simp only [List.length_append,List.length_singleton];omega,by rw [qgx (by omega),if_neg (by omega),if_neg (by omega),if_pos h3] at hg;rw [List.length_append];exact hg⟩⟩ (Wk.trans (Wk.eq (show _=[ps 2 (.opt 0 0),ps 3 (.opt 1 0),ps 4 (.opt 2 0),pb 0 22 [(.osl 84 0 ((l++[(wW s (qB s b) z).2.1]).length))],pb 1 33 [(iv 0),(iv 0)],pb 2 98 (r3 s ((wW s (qB s b) z).2.2.1) ((wW s (qB s b) z).2.2.2)),pb 84 44 (yq (l++[(wW s (qB s b) z).2.1]))] from by rw [List.length_append];rfl)) (Wk.ren3 _ 2 hc0 [0,1,2,84] [(kb 3,(yq (l++[(wW s (qB s b) z).2.1])))] (oc (qgn _) (oz)) (by kernel_rfl) rfl rfl (by kernel_rfl) (by kernel_rfl))) (show 64-(l++[(wW s (qB s b) z).2.1]).length<64-l.length from by simp only [List.length_append,List.length_singleton];omega)
 have hR:WZ s=((wW s (qB s b) z).1,[],(wW s (qB s b) z).2.2.1):=by rw [← hg,qgx (by omega),if_neg (by omega),if_neg (by omega),if_neg h3]
 exact vM qD [(2,.call [2] [(.opt 0 0)] [some (98,(r3 s (qB s b) z))] (.av (yz ((wW s (qB s b) z).1) (((wW s (qB s b) z).2.2.1:Nat):Int))) [none])] [3,4,5] 2 [ps 2 (.opt 0 0),ps 3 (.opt 1 0),pb 0 22 [(.osl 3 0 l.length)],pb 1 33 [(iv 0),(iv 0)]] (QK [2] 68 (wQ (qib s hs hr (qB s b) z (by omega)) h3) oz) (fun cx_ a_ hI_=>vk (⟨_,_,hI_,rfl,rfl,rfl,.inr ⟨by rw [hR],by rw [hR];exact h3,_,rfl⟩⟩))
theorem rdL_ok' {s:qJ}:∀ (m:Nat) (l:List Vo) (a:Nat) (z:Int),(Yz s m l a z).1=0→(Yz s m l a z).2.2=0
 | 0,l,a,z,h=>by
  rw [Yz] at h ⊢
  split at h
  ·rename_i c;rw [if_pos c]
  ·cases h
 | m+1,l,a,z,h=>by
  rw [Yz] at h ⊢
  split at h
  ·rename_i c;rw [if_pos c]
  ·rename_i c
   rw [if_neg c]
   split at h
   ·rename_i c2;rw [if_pos c2];exact rdL_ok' m _ _ _ h
   ·rename_i c2;exact absurd h c2
theorem rdL_no' {s:qJ}:∀ (m:Nat) (l:List Vo) (a:Nat) (z:Int),¬ (Yz s m l a z).1=0→(Yz s m l a z).2.1=[]
 | 0,l,a,z,h=>by
  rw [Yz] at h ⊢
  split at h
  ·exact absurd rfl h
  ·rename_i c;rw [if_neg c]
 | m+1,l,a,z,h=>by
  rw [Yz] at h ⊢
  split at h
  ·exact absurd rfl h
  ·rename_i c
   rw [if_neg c]
   split at h
   ·rename_i c2;rw [if_pos c2];exact rdL_no' m _ _ _ h
   ·rename_i c2;rw [if_neg c2]
theorem rdL_ok {s:qJ} (h:(Yz s 64 [] 0 0).1=0):(Yz s 64 [] 0 0).2.2=0:=rdL_ok' _ _ _ _ h
theorem rdL_no {s:qJ} (h:¬ (Yz s 64 [] 0 0).1=0):(Yz s 64 [] 0 0).2.1=[]:=rdL_no' _ _ _ _ h
theorem run_defer {P:Program} {w:World} {ρ:Operand→Value} {o:Oper} {x:Operand} {f:Fn} {fs cs:Array Value} (ho:o.op = .defer { callee:=.value x,args := #[],argTypes := #[] }) (hv:ρ x = .func f fs cs):(execOp ρ o).run P w = .ok (.defer { target:=.fn f cs,args:=fs }) w:=by
 simp [execOp,ho,resolve,hv,Deferred.ofValue]
theorem QD {P:Program} {fn:Func} {tmps:Array Value} {R R':Ending→World→Prop} (hR:∀ e w,R e w→R' e w):∀ {ds:List Deferred} {u:FrameMode} {w:World},Leaves P fn tmps R ds u w→Leaves P fn tmps R' ds u w
 | [],.returning,w,h=>let ⟨v,h1,h2⟩:=h;⟨v,h1,hR _ _ h2⟩
 | [],.panicking _,w,h=>hR _ _ h
 | [],.run,w,h=>h.elim
 | d :: ds,u,w,h=>by
  obtain ⟨h0,fv,cap,f,args,h1,h2,h3⟩:=h
  refine ⟨h0,fv,cap,f,args,h1,h2,h3.mono fun e u' w' h4=>?_⟩
  cases e with
  | returned v=>exact QD hR h4
  | panicked ch=>exact QD hR h4
  | outgrown=>exact hR _ _ h4
def resR (q:Int × List Vo × Nat):PV:=.tup [.ssl (yq q.2.1) 0 q.2.1.length,.agg [iv q.1,iv (q.2.2:Int)]]
def RF (s:qJ) (c0:Cx) (Bor:Nat→Prop):Ending→World→Prop:=fun e w'=>∃ v c',e = .returned v∧c'.w=w'∧Heap ⟨Tryz.prog,0,c0,⟨Bor,[]⟩⟩ (· < 0) c' (fun _=>none)∧Rep Tryz.prog c' (resR (zK s)) v
def QF (s:qJ) (c0:Cx) (Bor:Nat→Prop):Yq:=fun e cx a=>match e with
 | .normal=>Leaves Tryz.prog Tryz.f15 a.tmps (RF s c0 Bor) a.defers .returning cx.w
 | .ret=>Leaves Tryz.prog Tryz.f15 a.tmps (RF s c0 Bor) a.defers .returning cx.w
 | .panic ch=>Leaves Tryz.prog Tryz.f15 a.tmps (RF s c0 Bor) a.defers (.panicking ch) cx.w
 | _=>False
theorem fin_ret {s:qJ} {c0:Cx} {Bor:Nat→Prop} {m:Nat} {cx:Cx} {a:Act} {l:L} {r:PV} (hc0:∀ i x,c0.own i=some x→i<0) (hI:Inv ⟨Tryz.prog,Tryz.f15.ntmps,c0,⟨Bor,[]⟩⟩ (· < m) cx (get l) a)
  (hr:runv (get l) (resP Tryz.prog Tryz.f15.results.toList fun ps=>.done (qfe ps) [])=some (r,[])) (hd:dsh r=true) (he:r=resR (zK s)):QF s c0 Bor .ret cx a:=by
 obtain ⟨v,h1,h2⟩:=yC hr cx a hI
 show Leaves Tryz.prog Tryz.f15 a.tmps (RF s c0 Bor) a.defers .returning cx.w
 rw [show a.defers=[] from hI.dfr]
 exact ⟨v,h1,v,⟨cx.w,cx.S,c0.own⟩,rfl,rfl,(hI.toHeap.bare hc0).envD,by rw [← he];exact .sh (rep_dsh (c:=cx) h2 hd)⟩
theorem rf_of {s:qJ} {c0:Cx} {Bor:Nat→Prop} {c':Cx} {r:PV} {v:Value} {own2:Nat→Option (Option Nat × TypeId)} (h:Heap ⟨Tryz.prog,0,c0,⟨Bor,[]⟩⟩ (· < 0) ⟨c'.w,c'.S,c0.own⟩ (fun _=>none)) (hr:Rep Tryz.prog ⟨c'.w,c'.S,own2⟩ r v) (hd:dsh r=true) (he:r=resR (zK s)):RF s c0 Bor (.returned v) c'.w :=
 ⟨v,⟨c'.w,c'.S,c0.own⟩,rfl,rfl,h,by rw [← he];exact .sh (rep_dsh (c:=⟨c'.w,c'.S,own2⟩) hr hd)⟩
theorem read_defer {s:qJ} (hs:s.length≤65536) (hr:Rdy s) {o0 o1 o3:Array Oper} {c2 rest:Code} (hb:Tryz.f15.body=some (.seq (.region 0 o0 false) (.seq (.seq (.region 1 o1 false) c2) (.seq (.region 3 o3 false) rest)))) {c0:Cx} {Bor:Nat→Prop} (hc0:∀ i x,c0.own i=some x→i<0)
  {n0 i1:Nat} {l:L} (hi1:Nat.blt 0 i1=true) (g0:get l (ks 0)=some (.pv (sv (st s)))) (g2:get l (ks 2)=some (.pv (.opt 0 0))) (g3:get l (ks 3)=some (.pv (.opt i1 0))) (g9:get l (ks 9)=none) (gb0:get l (kb 0)=some (.blk 22 [.av (.slice none 0 0)])) (gb1:get l (kb i1)=some (.blk 33 [iv 0,iv 0])) :
  T Tryz.prog Tryz.f15.ntmps c0 ⟨Bor,[]⟩ (QF s c0 Bor) n0 l [.code (.seq (.region 3 o3 false) rest)]:=by
 intro cx a hI
 have ho3 : o3 = #[{ dst := some 9, op := .makeFunc (.func 37) #[] #[.tmp 2, .tmp 3], type := 1, pos := "read.go:213", after := #[], guard := none }, { dst := none, op := .defer { callee := .value (.tmp 9), args := #[], argTypes := #[] }, type := 0, pos := "read.go:213", after := #[{ on := 0, ground := .data }], guard := none }] := by cases hb; rfl
 have hv2:∃ b T,cx.own 0=some (some b,T)∧a.tmps.getD 2 undef = .pointer (some ⟨b,0,none⟩):=vj (hI.slot 2 _ g2)
 have hv3:∃ b T,cx.own i1=some (some b,T)∧a.tmps.getD 3 undef = .pointer (some ⟨b,0,none⟩):=vj (hI.slot 3 _ g3)
 obtain ⟨b2,T2,hown2,hp2⟩:=hv2
 obtain ⟨b3,T3,hown3,hp3⟩:=hv3
 have hsz:a.tmps.size=Tryz.f15.ntmps:=hI.tmps
 show (Code.seq (.region 3 o3 false) rest).wp Tryz.prog _ a cx.w
 refine wp_seq (wp_region ?_)
 subst ho3
 show wpOps Tryz.prog _ _ [0,1] a cx.w
 refine wp_one (o := { dst := some 9, op := .makeFunc (.func 37) #[] #[.tmp 2, .tmp 3], type := 1, pos := "read.go:213", after := #[], guard := none }) rfl rfl ?_
 unfold Oper.wp
 rw [show (execOp a.eval ({ dst := some 9, op := .makeFunc (.func 37) #[] #[.tmp 2, .tmp 3], type := 1, pos := "read.go:213", after := #[], guard := none } : Oper)).run Tryz.prog cx.w = .ok (.value (.func (.func 37) #[] #[a.tmps.getD 2 undef, a.tmps.getD 3 undef])) cx.w from by simp [execOp, Instr.makeFunc, Act.eval], Oper.upon_value]
 refine wp_one (o := { dst := none, op := .defer { callee := .value (.tmp 9), args := #[], argTypes := #[] }, type := 0, pos := "read.go:213", after := #[{ on := 0, ground := .data }], guard := none }) rfl rfl ?_
 unfold Oper.wp
 generalize hd:({ target:=.fn (.func 37) #[a.tmps.getD 2 undef,a.tmps.getD 3 undef],args := #[] }:Deferred)=d
 have he9:(a.put (some 9) (.func (.func 37) #[] #[a.tmps.getD 2 undef,a.tmps.getD 3 undef])).eval (.tmp 9) = .func (.func 37) #[] #[a.tmps.getD 2 undef,a.tmps.getD 3 undef]:=by
  show (a.put (some 9) _).tmps.getD 9 undef=_
  rw [qhb _ _ _ _ (by rw [hsz];exact Nat.lt_of_lt_of_le (Nat.lt_succ_self 9) (Nat.le_of_ble_eq_true rfl)),if_pos rfl]
 rw [run_defer (f:=.func 37) (fs := #[]) (cs := #[a.tmps.getD 2 undef,a.tmps.getD 3 undef]) rfl he9,hd,Oper.upon_defer]
 show rest.wp Tryz.prog _ _ cx.w
 have hdf:a.defers=[]:=hI.dfr
 have hsame:∀ s p,get l (ks s)=some (.pv p)→(a.put (some 9) (.func (.func 37) #[] #[a.tmps.getD 2 undef,a.tmps.getD 3 undef])).tmps.getD s undef=a.tmps.getD s undef:=fun s p hp=>by
  rw [qhb _ _ _ _ (by rw [hsz];exact Nat.lt_of_lt_of_le (Nat.lt_succ_self 9) (Nat.le_of_ble_eq_true rfl)),if_neg (fun e=>by subst e;rw [g9] at hp;cases hp)]
 have hI1:=lend_two (a2:={ a.put (some 9) (.func (.func 37) #[] #[a.tmps.getD 2 undef,a.tmps.getD 3 undef]) with defers:=d :: a.defers }) (rest:=[((0:Nat),(sv (st s)))]) hI hi1 gb0 gb1 (fun _=>rfl) (fun _=>rfl) g2 g3 (qiu _ _ _) hsame (fun x hx=>by rw [List.mem_singleton.1 hx];exact ⟨g0,fun _=>rfl⟩)
 have hc1:∀ i x,(cx.via (qY [0,i1] n0)).own i=some x→i<2:=fun i x hx=>hI1.ids i x (hI1.keep.own i x hx)
 have key:=read_rest s hs hr hb _ _ hc1 _ _ hI1
 refine wp_mono key ?_
 rintro e a3 w3 ⟨cx3,rfl,m,l3,hI3,q2,q3,q1,hcase⟩
 rw [hdf] at hI3
 have hbk:∀ (nx:Nat→Prop) (c':Cx) (g':St),Heap ⟨Tryz.prog,Tryz.f15.ntmps,cx.via (qY [0,i1] n0),⟨(wT Tryz.prog (cx.via (qY [0,i1] n0)) [some (22,[.av (.slice none 0 0)]),some (33,[iv 0,iv 0])]).Bor.bor,[d]⟩⟩ nx c' g'→Heap ⟨Tryz.prog,0,c0,⟨Bor,[]⟩⟩ (· < 0) ⟨c'.w,c'.S,c0.own⟩ (fun _=>none):=fun nx c' g' h=>back_two hI hi1 gb0 gb1 (fun _=>rfl) (fun _=>rfl) hc0 h
 have hold:∀ i b T,(cx.via (qY [0,i1] n0)).own i=some (some b,T)→cx3.own i=some (some b,T):=fun i b T h=>hI3.keep.own i _ h
 have hw2:a3.tmps.getD 2 undef=a.tmps.getD 2 undef:=by
  obtain ⟨b,T,h1,h2⟩:=vj (hI3.slot 2 _ q2)
  rw [hold 0 b2 T2 hown2] at h1
  cases h1
  rw [h2,hp2]
 have hw3:a3.tmps.getD 3 undef=a.tmps.getD 3 undef:=by
  obtain ⟨b,T,h1,h2⟩:=vj (hI3.slot 3 _ q3)
  rw [hold 1 b3 T3 hown3] at h1
  cases h1
  rw [h2,hp3]
 have hP:zK s=WZ s:=if_neg (by omega)
 refine ⟨cx3,rfl,?_⟩
 rcases hcase with ⟨rfl,hok,q0⟩|⟨rfl,hno,p,q0⟩
 ·show Leaves Tryz.prog Tryz.f15 a3.tmps (RF s c0 Bor) a3.defers .returning cx3.w
  refine qfs (fl:=37) (t0:=2) (t1:=3) (T0:=22) (T1:=33) (Y0:=[.ssl (yq (WZ s).2.1) 0 (WZ s).2.1.length]) (Y1:=[iv 0,iv 0]) (r:=.tup [.ssl (yq (WZ s).2.1) 0 (WZ s).2.1.length,.agg [iv 0,iv 0]]) hI3 hd.symm hw2 hw3 q2 q3 q0 q1 (fun _=>rfl) (fun _=>rfl) (fun _=>rfl) (fun _=>rfl) (lit_nil (WZ s).2.1) (fun h=>by cases h) rfl (by kernel_rfl) ?_
  intro v own2 c' hh hrep
  refine rf_of (c':=c') (hbk _ ⟨c'.w,c'.S,own2⟩ _ hh) hrep rfl ?_
  rw [hP]
  show _=PV.tup [.ssl (yq (WZ s).2.1) 0 (WZ s).2.1.length,.agg [iv (WZ s).1,iv (((WZ s).2.2:Nat):Int)]]
  rw [hok,rdL_ok hok]
  rfl
 ·show Leaves Tryz.prog Tryz.f15 a3.tmps (RF s c0 Bor) a3.defers (.panicking _) cx3.w
  obtain ⟨v,hv,hh4⟩:=cell_av hI3.toHeap q0
  have hI4:Inv ⟨Tryz.prog,Tryz.f15.ntmps,cx.via (qY [0,i1] n0),⟨(wT Tryz.prog (cx.via (qY [0,i1] n0)) [some (22,[.av (.slice none 0 0)]),some (33,[iv 0,iv 0])]).Bor.bor,[d]⟩⟩ (· < m) cx3 (get ([(kb 0,some (.blk 22 [.av v]))]++l3)) a3:=by
   rw [vI]
   exact hI3.keeps (Keep.refl _) hh4 fun s=>by rw [WM]
  have hne:∀ k,k≠kb 0→get ([(kb 0,some (.blk 22 [.av v]))]++l3) k=get l3 k:=fun k hk=>by
   rw [vI]
   exact wZ (by unfold jP lk;rw [if_neg (fun e=>hk (Nat.eq_of_beq_eq_true e))];rfl) _
  refine qfs (fl:=37) (t0:=2) (t1:=3) (T0:=22) (T1:=33) (X0:=[.av v]) (X1:=[iv 0,iv 0]) (Y0:=[.av (.slice none 0 0)]) (Y1:=[iv (WZ s).1,iv (((WZ s).2.2:Nat):Int)]) (r:=.tup [.ssl [] 0 0,.agg [iv (WZ s).1,iv (((WZ s).2.2:Nat):Int)]]) hI4 hd.symm hw2 hw3 ((hne _ (by decide)).trans q2) ((hne _ (by decide)).trans q3) (by rw [vI];rfl) ((hne _ (by decide)).trans q1) (fun _=>rfl) (fun _=>rfl) (fun _=>rfl) (fun _=>rfl) (lit_pan v (WZ s).1 (((WZ s).2.2:Nat):Int)) (fun h=>by cases h) rfl (by kernel_rfl) ?_
  intro v own2 c' hh hrep
  refine rf_of (c':=c') (hbk _ ⟨c'.w,c'.S,own2⟩ _ hh) hrep rfl ?_
  rw [hP]
  show _=PV.tup [.ssl (yq (WZ s).2.1) 0 (WZ s).2.1.length,.agg [iv (WZ s).1,iv (((WZ s).2.2:Nat):Int)]]
  rw [rdL_no hno]
  rfl
theorem read_T (s:qJ) (hl:s.length≤140737488351232) (hr:s.length≤65536→Rdy s) {code:Code} (hb:Tryz.f15.body=some code) (c0:Cx) (Bor:Nat→Prop) (hc0:∀ i x,c0.own i=some x→i<0) :
  T Tryz.prog Tryz.f15.ntmps c0 ⟨Bor,[]⟩ (QF s c0 Bor) 0 [ps 0 (sv (st s))] [.code code]:=by
 have hb0:=hb
 cases hb
 refine qA<|zU qD [] [ps 0 (sv (st s)),ps 2 (.opt 0 0),ps 3 (.opt 8 0),pb 0 22 [sn],pb 8 33 [(iv 0),(iv 0)]] (oz)<|qA<|qA<|zU qD [] [ps 0 (sv (st s)),ps 2 (.opt 0 0),ps 3 (.opt 8 0),ps 7 (bv (decide (65536<(s.length:Int)))),pb 0 22 [sn],pb 8 33 [(iv 0),(iv 0)]] (oz) ?_
 by_cases h1:65536<(s.length:Int)
 ·refine qX (decide_eq_true h1)<|qA<|zU qD [] [ps 2 (.opt 0 0),ps 3 (.opt 8 0),pb 0 22 [sn],pb 8 33 [(iv 4),(iv 0)]] (oz) ?_
  exact wV fun cx_ a_ hI_=>fin_ret hc0 hI_ (by kernel_rfl) rfl (by rw [show zK s=(4,[],0) from if_pos (by omega)])
 refine qW (decide_eq_false h1)<|qF ?_
 exact read_defer (by omega) (hr (by omega)) hb0 hc0 (i1:=8) (by rfl) (by rfl) (by rfl) (by rfl) (by rfl) (by rfl) (by rfl)
theorem qeu (s:qJ) (hl:s.length≤140737488351232) (hr:s.length≤65536→Rdy s):PC Tryz.prog 15 [sv (st s)] [] (resR (zK s)) []:=by
 refine ⟨ww Tryz.func15 (by kernel_rfl) (by kernel_rfl),Nat.le_refl _,fun c vs hh hrl=>calls_of_wp_defers Tryz.func15 rfl (wp_mono (WU (H:=[]) (Q:=QF s) (by kernel_rfl) rfl (fun c0 Bor hc0=>read_T s hl hr rfl c0 Bor hc0) c vs hh hrl) ?_)⟩
 have hR:∀ e w',RF s c (wT Tryz.prog c []).Bor.bor e w'→∃ v c',e = .returned v∧c'.w=w'∧Heap (wT Tryz.prog c []) (· < ([]:Hp).length) c' (ZF [])∧Rep Tryz.prog c' (resR (zK s)) v:=by
  rintro e w' ⟨v,c',rfl,rfl,h1,h2⟩
  exact ⟨v,c',rfl,rfl,h1.less fun i T cs hx=>absurd hx (qjv (fun i=>by simp) i T cs),h2⟩
 rintro e a' w' ⟨cx',rfl,h⟩
 cases e with
 | normal=>exact QD hR h
 | ret=>exact QD hR h
 | panic ch=>exact QD hR h
 | exit id=>exact h.elim
 | goto l=>exact h.elim
 | outgrown=>exact h.elim
theorem qam (s:qJ) (hl:s.length≤140737488351232):PC Tryz.prog 15 [sv (st s)] [] (.tup [(.ssl (yq ((zK s).2.1)) 0 (((zK s).2.1).length)),(.agg [(iv ((zK s).1)),(nv ((zK s).2.2))])]) []:=qeu s hl fun h=>rdy_all h
theorem qdv {l:List Vo} (h:(yG l).2=0):PC Tryz.prog 15 [sv (st (yG l).1)] [] (.tup [(.ssl (yq l) 0 l.length),(.agg [(iv 0),(iv 0)])]) []:=by have:=qam (yG l).1 (by have:=print_len h;omega);rw [print_read h] at this;exact this
theorem qbq (l:List Vo) (hfv:qei l):PC Tryz.prog 10 [(.ssl (yq l) 0 l.length)] [] (.tup [(sv (st ((yG l).1))),(iv ((yG l).2))]) []:=qhc l hfv
theorem alive_read:PC Tryz.prog 15 [sv (st aT)] [] (.tup [(.ssl [(sv (st ([97]:TX))),(.ssl [(iv 1),(iv 1),(.ssl [(iv 1),(iv 1),(.ssl [(iv 0),(iv 0),(iv 4)] 0 1),(iv 0),(iv 0),se,(.ssl [] 0 0)] 0 1)] 0 1)] 0 1),(.agg [(iv 0),(iv 0)])]) []:=by have h:=qam aT (by decide);rw [al_read] at h;exact h
theorem alive_pc  : PC Tryz.prog 18 [] [] (bv true) []:=by
 refine zZ Tryz.func18 rfl (by kernel_rfl) (Nat.le_of_ble_eq_true rfl) (by kernel_rfl) (l0:=[]) rfl (fun c0 Bor hc0=>?_)
 refine qA<|zU qD [] [] (oz)<|qA<|T_r0 qD 0 [ps 1 (.ssl [(sv (st ([97]:TX))),(.ssl [(iv 1),(iv 1),(.ssl [(iv 1),(iv 1),(.ssl [(iv 0),(iv 0),(iv 4)] 0 1),(iv 0),(iv 0),se,(.ssl [] 0 0)] 0 1)] 0 1)] 0 1),ps 2 (.opt 40 0),pb 40 33 [(iv 0),(iv 0)]] (zY 8 alive_read oz)<|qA<|zU qD (gy 4 3++gy 9 6) [ps 0 (bv true)] (on 5 tt (oc (by decide:(0:Int)≤0∧0<((1:Nat):Int)) (on 4 tt oz))) ?_
 exact zN hc0 [0] []
theorem law_turns (l:List Vo) (hfv:qei l) (s:qJ) (hl:s.length≤140737488351232):PC Tryz.prog 5 [(.ssl (yq l) 0 l.length),(sv (st s))] [] (bv true) []:=by
 refine zZ Tryz.func5 rfl (by kernel_rfl) (Nat.le_of_ble_eq_true rfl) (by kernel_rfl) (l0:=[ps 0 (.ssl (yq l) 0 l.length),ps 1 (sv (st s))]) rfl (fun c0 Bor hc0=>?_)
 refine qA<|zU qD [] [ps 0 (.ssl (yq l) 0 l.length),ps 1 (sv (st s))] (oz)<|qA<|qA<|T_r0 qD 0 [ps 0 (.ssl (yq l) 0 l.length),ps 1 (sv (st s)),ps 15 (bv false)] (zY 8 alive_pc oz)<|zD (b:=false) rfl rfl<|qF<|qA<|qA<|T_r0 qD 1 [ps 0 (.ssl (yq l) 0 l.length),ps 1 (sv (st s)),ps 5 (sv (st ((yG l).1))),ps 6 (iv ((yG l).2))] (zY 32 (qbq l hfv) oz)<|qA<|zU qD [] [ps 0 (.ssl (yq l) 0 l.length),ps 1 (sv (st s)),ps 5 (sv (st ((yG l).1))),ps 22 (bv (decide (((yG l).2)=0)))] (oz) ?_
 by_cases h1:((yG l).2)=0
 ·refine qX (zR h1)<|qA<|T_r0 qD 1 [ps 0 (.ssl (yq l) 0 l.length),ps 1 (sv (st s)),ps 7 (.ssl (yq l) 0 l.length),ps 8 (.opt 136 0),pb 136 33 [(iv 0),(iv 0)]] (zY 104 (qdv h1) oz)<|qA<|zU qD (gn 4 3++gn 9 2++[(11,.gd false (.call [] [(.ssl (yq l) 0 l.length),(.ssl (yq l) 0 l.length)] [] (bv true) [])),(12,.gd false .no)]) [ps 1 (sv (st s)),ps 41 (bv false)] (on 6 ff (zY 248 (Qq l (sz_fit hfv) (by have:=hfv.1;omega)) (oc ff oz)))<|zD (b:=false) rfl rfl<|qF<|qA<|T_r0 qD 1 [ps 9 (.ssl (yq ((zK s).2.1)) 0 (((zK s).2.1).length)),ps 10 (.opt 312 0),pb 312 33 [(iv ((zK s).1)),(nv ((zK s).2.2))]] (zY 280 (qam s hl) oz)<|qA<|qA<|zU qD [] [ps 9 (.ssl (yq ((zK s).2.1)) 0 (((zK s).2.1).length)),ps 10 (.opt 312 0),ps 49 (bv (!(decide (((zK s).1)=0)))),pb 312 33 [(iv ((zK s).1)),(nv ((zK s).2.2))]] (oz) ?_
  by_cases h2:((zK s).1)=0
  ·refine qW (bt h2)<|qF<|qA<|T_r0 qD 1 [ps 9 (.ssl (yq ((zK s).2.1)) 0 (((zK s).2.1).length)),ps 10 (.opt 312 0),ps 11 (sv (st ((yG ((zK s).2.1)).1))),ps 12 (iv ((yG ((zK s).2.1)).2)),pb 312 33 [(iv ((zK s).1)),(nv ((zK s).2.2))]] (zY 368 (qbq ((zK s).2.1) (VV h2).2) oz)<|qA<|qA<|zU qD [] [ps 9 (.ssl (yq ((zK s).2.1)) 0 (((zK s).2.1).length)),ps 10 (.opt 312 0),ps 11 (sv (st ((yG ((zK s).2.1)).1))),ps 12 (iv ((yG ((zK s).2.1)).2)),ps 56 (bv (!(decide (((yG ((zK s).2.1)).2)=0)))),pb 312 33 [(iv ((zK s).1)),(nv ((zK s).2.2))]] (oz) ?_
   by_cases h3:((yG ((zK s).2.1)).2)=0
   ·refine qW (bt h3)<|qF<|qA<|T_r0 qD 1 [ps 9 (.ssl (yq ((zK s).2.1)) 0 (((zK s).2.1).length)),ps 10 (.opt 312 0),ps 13 (.ssl (yq ((zK s).2.1)) 0 (((zK s).2.1).length)),pb 312 33 [(iv 0),(iv 0)]] (zY 440 (qdv h3) oz)<|qA<|zU qD (gy 4 2++[(6,.gd true (.call [] [(.ssl (yq ((zK s).2.1)) 0 (((zK s).2.1).length)),(.ssl (yq ((zK s).2.1)) 0 (((zK s).2.1).length))] [] (bv true) []))]) [ps 4 (bv true)] (on 3 tt (zY 536 (Qq ((zK s).2.1) (Wx s).1 (by have:=(Wx s).2;omega)) oz)) ?_
    exact zN hc0 [4] []
   refine qX (bf h3)<|qA<|zU qD [] [ps 4 (bv (decide (((yG ((zK s).2.1)).2)=4)))] (oz)<|qx (Wk.eq (show _=[ps 4 (bv true)] from by rw [qdl (VV h2).1 h3];rfl)) ?_
   exact zN hc0 [4] []
  refine qX (bf h2)<|qA<|zU qD [] [ps 4 (bv true)] (oz) ?_
  exact zN hc0 [4] []
 refine qW (zP h1)<|qF<|qA<|T_r0 qD 1 [ps 9 (.ssl (yq ((zK s).2.1)) 0 (((zK s).2.1).length)),ps 10 (.opt 136 0),pb 136 33 [(iv ((zK s).1)),(nv ((zK s).2.2))]] (zY 104 (qam s hl) oz)<|qA<|qA<|zU qD [] [ps 9 (.ssl (yq ((zK s).2.1)) 0 (((zK s).2.1).length)),ps 10 (.opt 136 0),ps 49 (bv (!(decide (((zK s).1)=0)))),pb 136 33 [(iv ((zK s).1)),(nv ((zK s).2.2))]] (oz) ?_
 by_cases h4:((zK s).1)=0
 ·refine qW (bt h4)<|qF<|qA<|T_r0 qD 1 [ps 9 (.ssl (yq ((zK s).2.1)) 0 (((zK s).2.1).length)),ps 10 (.opt 136 0),ps 11 (sv (st ((yG ((zK s).2.1)).1))),ps 12 (iv ((yG ((zK s).2.1)).2)),pb 136 33 [(iv ((zK s).1)),(nv ((zK s).2.2))]] (zY 192 (qbq ((zK s).2.1) (VV h4).2) oz)<|qA<|qA<|zU qD [] [ps 9 (.ssl (yq ((zK s).2.1)) 0 (((zK s).2.1).length)),ps 10 (.opt 136 0),ps 11 (sv (st ((yG ((zK s).2.1)).1))),ps 12 (iv ((yG ((zK s).2.1)).2)),ps 56 (bv (!(decide (((yG ((zK s).2.1)).2)=0)))),pb 136 33 [(iv ((zK s).1)),(nv ((zK s).2.2))]] (oz) ?_
  by_cases h5:((yG ((zK s).2.1)).2)=0
  ·refine qW (bt h5)<|qF<|qA<|T_r0 qD 1 [ps 9 (.ssl (yq ((zK s).2.1)) 0 (((zK s).2.1).length)),ps 10 (.opt 136 0),ps 13 (.ssl (yq ((zK s).2.1)) 0 (((zK s).2.1).length)),pb 136 33 [(iv 0),(iv 0)]] (zY 264 (qdv h5) oz)<|qA<|zU qD (gy 4 2++[(6,.gd true (.call [] [(.ssl (yq ((zK s).2.1)) 0 (((zK s).2.1).length)),(.ssl (yq ((zK s).2.1)) 0 (((zK s).2.1).length))] [] (bv true) []))]) [ps 4 (bv true)] (on 3 tt (zY 360 (Qq ((zK s).2.1) (Wx s).1 (by have:=(Wx s).2;omega)) oz)) ?_
   exact zN hc0 [4] []
  refine qX (bf h5)<|qA<|zU qD [] [ps 4 (bv (decide (((yG ((zK s).2.1)).2)=4)))] (oz)<|qx (Wk.eq (show _=[ps 4 (bv true)] from by rw [qdl (VV h4).1 h5];rfl)) ?_
  exact zN hc0 [4] []
 refine qX (bf h4)<|qA<|zU qD [] [ps 4 (bv true)] (oz) ?_
 exact zN hc0 [4] []
open Go.Deep Go.ChangeShapes Go.WideShapes Go.ChangeAt Go.RowKit
def ShF (r:TypeId→List PV→Prop):List Field→List PV→Prop
 | [],ps=>ps=[]
 | f :: fs,ps=>∃ a b,ps=a++b∧r f.type a∧ShF r fs b
def Sh (P:Program):Nat→TypeId→List PV→Prop
 | 0,_,_=>False
 | n+1,t,ps=>match P.underlying t with
  | some .bool=>∃ b,ps=[.av (.bool b)]
  | some (.int k)=>∃ m,ps=[.av (.int k m)]∧(Lit.int k m).wf=true
  | some (.float k)=>∃ b,ps=[.av (.float k b)]∧(Lit.float k b).wf=true
  | some .string=>∃ s:ByteArray,ps=[.av (.string s)]∧s.size≤maxLen∧s.data.toList.length≤reachBytes
  | some (.slice e)=>∃ ess:List (List PV),ps=[.ssl ess.flatten 0 ess.length]∧ess.length≤maxLen∧ess.length*P.bytesOf e≤reachBytes∧∀ es∈ess,Sh P n e es
  | some (.struct fs)=>ShF (Sh P n) fs.toList ps
  | _=>False
mutual
def jR {H:Type}:DataW H→Nat
 | .lit (.string bytes)=>bytes.length+1
 | .lit _=>1
 | .nil=>1
 | .ptr d=>jR d+1
 | .slice elems spare=>ZP elems+ZP spare+1
 | .agg parts=>ZP parts+1
 | .iface _ d=>jR d+1
 | .map entries=>qch entries+1
 | .held _=>1
def ZP {H:Type}:List (DataW H)→Nat
 | []=>0
 | d :: r=>jR d+ZP r
def qch {H:Type}:List (Lit × DataW H)→Nat
 | []=>0
 | x :: r=>bulkEntry x+qch r
def bulkEntry {H:Type}:Lit × DataW H→Nat
 | (.string bytes,d)=>bytes.length+jR d+1
 | (_,d)=>jR d+1
end
mutual
def pvw:PV→Nat
 | .av (.string s)=>s.size+1
 | .ssl cs _ _=>QS cs+1
 | .agg cs=>QS cs+1
 | _=>1
def QS:List PV→Nat
 | []=>0
 | p :: l=>pvw p+QS l
end
theorem qdj:∀ a b:List PV,QS (a++b)=QS a+QS b
 | [],b=>by simp [QS]
 | p :: a,b=>by rw [List.cons_append,QS,QS,qdj a b];omega
theorem qad:∀ l:List (List PV),QS l.flatten=(l.map QS).sum
 | []=>rfl
 | a :: l=>by rw [List.flatten_cons,qdj,qad l,List.map_cons,List.sum_cons]
theorem sum_le {H:Type}:∀ (n:Nat) (f:Nat→Nat) (ds:List (DataW H)),ds.length=n→(∀ i (h:i<ds.length),f i≤jR ds[i])→((List.range n).map f).sum≤ZP ds
 | 0,f,ds,hl,h=>by simp
 | n+1,f,[],hl,h=>by simp at hl
 | n+1,f,d :: ds,hl,h=>by
  rw [List.range_succ_eq_map,List.map_cons,List.sum_cons,List.map_map,ZP]
  have h0:=h 0 (by simp)
  have h1:=sum_le n (f ∘ Nat.succ) ds (by simpa using hl) fun i hi=>by have:=h (i+1) (by simpa using hi);simpa using this
  simp only [List.getElem_cons_zero] at h0
  omega
def qem (P:Program):List Field→Nat→Option Nat
 | [],o=>some o
 | f :: fs,o=>if f.offset=o then qem P fs (o+P.cellsOf f.type) else none
def openB (P:Program) (Ts:List TypeId):Bool:=Ts.all fun t=>match P.underlying t with
 | some .bool | some (.int _) | some (.float _) | some .string=>Nat.beq (P.cellsOf t) 1
 | some (.slice e)=>Nat.beq (P.cellsOf t) 1 && Nat.ble 1 (P.cellsOf e) && Ts.contains e
 | some (.struct fs)=>qem P fs.toList 0 == some (P.cellsOf t) && fs.toList.all fun f=>Ts.contains f.type
 | _=>false
theorem List.getD_app {α:Type} {l m:List α} {i:Nat} {d:α} (h:i<l.length):(l++m).getD i d=l.getD i d:=by
 rw [List.getD_eq_getElem?_getD,List.getD_eq_getElem?_getD,List.getElem?_append_left h]
theorem List.getD_app_r {α:Type} {l m:List α} {i:Nat} {d:α} (h:l.length≤i):(l++m).getD i d=m.getD (i-l.length) d:=by
 rw [List.getD_eq_getElem?_getD,List.getD_eq_getElem?_getD,List.getElem?_append_right h]
theorem qce {k:Nat}:∀ {ess:List (List PV)},(∀ es∈ess,es.length=k)→ess.flatten.length=ess.length*k∧∀ i j,j<k→i<ess.length→ess.flatten.getD (i*k+j) P0=(ess.getD i []).getD j P0
 | [],_=>⟨by simp,fun i j _ h=>absurd h (Nat.not_lt_zero _)⟩
 | es :: ess,h=>by
  have h0:=h es (by simp)
  obtain ⟨h1,h2⟩:=qce (ess:=ess) fun x hx=>h x (by simp [hx])
  refine ⟨by rw [List.flatten_cons,List.length_append,h0,h1,List.length_cons,Nat.succ_mul];omega,fun i j hj hi=>?_⟩
  rw [List.flatten_cons]
  cases i with
  | zero=>rw [Nat.zero_mul,Nat.zero_add,List.getD_app (by omega)];rfl
  | succ i =>
   rw [List.getD_app_r (by rw [h0,Nat.succ_mul];omega),h0,show (i+1)*k+j-k=i*k+j from by rw [Nat.succ_mul];omega,h2 i j hj (by simpa using hi)]
   rfl
section
variable {H:Type} {enc:TypeId × Value→H} {P:Program} {w:World} {base:Nat} {held:Bool}
abbrev qby (w:World) (ps:List PV) (cs:List Value):Prop:=wE ps∧ps.length=cs.length∧∀ i,i<ps.length→SRep w (fun b=>b<w.heap.size) (ps.getD i P0) (cs.getD i undef)
theorem jV {p:PV} {v:Value} (h:p.one=true) (hr:SRep w (fun b=>b<w.heap.size) p v):qby w [p] [v] :=
 ⟨fun q hq=>by simp only [List.mem_singleton] at hq;rw [hq];exact h,rfl,fun i hi=>by
  have:i=0:=by simp at hi;omega
  subst this;exact hr⟩
theorem open_fs {Ts:List TypeId} {n:Nat} (ih:∀ (t:TypeId) (cs:List Value) (x:DataW H × List MemPlace),t∈Ts→DataW.trod enc P w base (fun _=>true) held n t cs=some x→(x.1.weights P t).all (· ≤ reachBytes)=true →
  ∃ ps,Sh P n t ps∧qby w ps cs∧cs.length=P.cellsOf t∧QS ps≤jR x.1) (cs:List Value) :
  ∀ (fs:List Field) (xs:List (DataW H × List MemPlace)) (o e:Nat),qem P fs o=some e→e≤cs.length→(∀ f∈fs,f.type∈Ts)→xs.length=fs.length →
   (∀ (i:Nat) (f:Field),fs[i]? = some f→DataW.trod enc P w base (fun _=>true) held n f.type ((cs.drop f.offset).take (P.cellsOf f.type))=xs[i]?) →
   (DataW.weightsEach P (fs.map (·.type)) (xs.map (·.1))).all (· ≤ reachBytes)=true→∃ ps,ShF (Sh P n) fs ps∧qby w ps ((cs.drop o).take (e-o))∧o≤e∧QS ps≤ZP (xs.map (·.1))
 | [],xs,o,e,hc,he,_,_,_,_=>by
  simp only [qem,Option.some.injEq] at hc
  subst hc
  exact ⟨[],rfl,⟨fun p hp=>(by cases hp),by simp,fun i hi=>by simp at hi⟩,Nat.le_refl _,Nat.zero_le _⟩
 | f :: fs,[],o,e,hc,he,hT,hx,hf,hw=>by simp at hx
 | f :: fs,x :: xs,o,e,hc,he,hT,hx,hf,hw=>by
  simp only [qem] at hc
  split at hc
  case isFalse=>cases hc
  rename_i ho
  simp only [List.map_cons,DataW.weightsEach,List.all_append,Bool.and_eq_true] at hw
  obtain ⟨b,hb1,hb2,hb3,hb4⟩:=open_fs ih cs fs xs _ e hc he (fun g hg=>hT g (by simp [hg])) (by simpa using hx) (fun i g hg=>by have:=hf (i+1) g (by simpa using hg);simpa using this) hw.2
  obtain ⟨a,ha1,ha2,ha3,ha4⟩:=ih f.type _ x (hT f (by simp)) (by have:=hf 0 f (by simp);simpa using this) hw.1
  rw [ho] at ha2 ha3
  have hla:(List.take (P.cellsOf f.type) (List.drop o cs)).length=P.cellsOf f.type:=ha3
  have e1:(cs.drop o).take (e-o)=(cs.drop o).take (P.cellsOf f.type)++(cs.drop (o+P.cellsOf f.type)).take (e-(o+P.cellsOf f.type)):=by
   rw [← List.drop_drop,show e-o=P.cellsOf f.type+(e-(o+P.cellsOf f.type)) from by omega,List.take_add]
  refine ⟨a++b,⟨a,b,rfl,ha1,hb1⟩,?_,by omega,by rw [qdj,List.map_cons,ZP];omega⟩
  rw [e1]
  refine ⟨fun p hp=>?_,by rw [List.length_append,List.length_append,ha2.2.1,hb2.2.1],fun i hi=>?_⟩
  ·rcases List.mem_append.1 hp with h|h
   ·exact ha2.1 p h
   ·exact hb2.1 p h
  ·have hl:=ha2.2.1
   rw [List.length_append] at hi
   by_cases h:i<a.length
   ·rw [List.getD_app h,List.getD_app (by omega)]
    exact ha2.2.2 i h
   ·rw [List.getD_app_r (by omega),List.getD_app_r (by omega),← hl]
    exact hb2.2.2 _ (by omega)
theorem qds {Ts:List TypeId} (hT:openB P Ts=true):∀ (n:Nat) (t:TypeId) (cs:List Value) (x:DataW H × List MemPlace),t∈Ts→DataW.trod enc P w base (fun _=>true) held n t cs=some x→(x.1.weights P t).all (· ≤ reachBytes)=true →
  ∃ ps,Sh P n t ps∧qby w ps cs∧cs.length=P.cellsOf t∧QS ps≤jR x.1
 | 0,_,_,_,_,h,_=>by simp [DataW.trod] at h
 | n+1,t,cs,x,ht,h,hw=>by
  have hB:=List.all_eq_true.1 hT t ht
  split at hB
  ·rename_i hu
   obtain ⟨b,rfl,rfl⟩:=DataW.trod_bool hu h
   exact ⟨[.av (.bool b)],by simp only [Sh,hu];exact ⟨b,rfl⟩,jV rfl (.av _),(Nat.eq_of_beq_eq_true hB).symm,by simp [QS,pvw,jR]⟩
  ·rename_i k hu
   obtain ⟨b,rfl,rfl,hwf⟩:=DataW.trod_int hu h
   exact ⟨[.av (.int k b)],by simp only [Sh,hu];exact ⟨b,rfl,hwf⟩,jV rfl (.av _),(Nat.eq_of_beq_eq_true hB).symm,by simp [QS,pvw,jR]⟩
  ·rename_i k hu
   have:∃ b,cs=[.float k b]∧(Lit.float k b).wf=true∧x=(.lit (.float k b),[]):=by
    unfold DataW.trod at h
    rw [hu] at h
    split at h <;> simp_all
   obtain ⟨b,rfl,hwf,rfl⟩:=this
   exact ⟨[.av (.float k b)],by simp only [Sh,hu];exact ⟨b,rfl,hwf⟩,jV rfl (.av _),(Nat.eq_of_beq_eq_true hB).symm,by simp [QS,pvw,jR]⟩
  ·rename_i hu
   obtain ⟨s,rfl,rfl,hs⟩:=DataW.trod_string hu h
   have hw9:([s.data.toList.length].all (· ≤ reachBytes))=true:=hw
   have hw8:s.data.toList.length≤reachBytes:=of_decide_eq_true (List.all_eq_true.1 hw9 s.data.toList.length (List.mem_singleton.2 rfl))
   exact ⟨[.av (.string s)],by simp only [Sh,hu];exact ⟨s,rfl,hs,hw8⟩,jV rfl (.av _),(Nat.eq_of_beq_eq_true hB).symm,by simp [QS,pvw,jR]⟩
  ·rename_i e hu
   simp only [Bool.and_eq_true] at hB
   obtain ⟨⟨hB1,hB2⟩,hB3⟩:=hB
   have hB1:=Nat.eq_of_beq_eq_true hB1
   have hk:=Nat.le_of_ble_eq_true hB2
   have he:e∈Ts:=by simpa using hB3
   rcases DataW.trod_slice hu h with ⟨rfl,rfl⟩|⟨a,len,cap,elems,rest,m,hm,rfl,rfl,hb,hl,hcap,hel,hE,_,_⟩
   ·refine ⟨[.ssl [] 0 0],?_,jV rfl .emp,hB1.symm,by simp [QS,pvw,jR]⟩
    simp only [Sh,hu]
    exact ⟨[],rfl,Nat.zero_le _,by simp,by simp⟩
   ·obtain rfl:m=n:=by omega
    simp only [DataW.weights,hu,List.length_map,List.all_cons,List.all_append,Bool.and_eq_true,decide_eq_true_eq] at hw
    have hwl:∀ i (hi:i<elems.length),((elems[i].1).weights P e).all (· ≤ reachBytes)=true:=by
     intro i hi
     refine List.all_eq_true.2 fun z hz=>?_
     exact List.all_eq_true.1 hw.2.1 z (YQ (List.mem_map.2 ⟨elems[i],List.getElem_mem hi,rfl⟩) z hz)
    have each:∀ i,i<len→∃ q:List PV × List Value,Sh P m e q.1∧qby w q.1 q.2∧q.2.length=P.cellsOf e∧(∀ j,j<P.cellsOf e→w.cell? (a.add (i*P.cellsOf e+j))=some (q.2.getD j undef))∧∀ h:i<elems.length,QS q.1≤jR (elems[i]).1:=by
     intro i hi
     have h1:=hE i hi
     rw [List.getElem?_eq_getElem (by omega),Option.bind_eq_some_iff] at h1
     obtain ⟨cs',h2,h3⟩:=h1
     obtain ⟨ps,h4,h5,h6,h7⟩:=qds hT m e cs' _ he h3 (hwl i (by omega))
     refine ⟨(ps,cs'),h4,h5,h6,fun j hj=>?_,fun _=>h7⟩
     rw [← Addr.add_add,(World.cells?_some h2).2.2 j hj]
     have:j<cs'.length:=by omega
     simp [List.getD_eq_getElem?_getD,this]
    let Q:Nat→List PV × List Value:=fun i=>if hi:i<len then (each i hi).choose else ([],[])
    have hQ:∀ i,i<len→Sh P m e (Q i).1∧qby w (Q i).1 (Q i).2∧(Q i).2.length=P.cellsOf e∧(∀ j,j<P.cellsOf e→w.cell? (a.add (i*P.cellsOf e+j))=some ((Q i).2.getD j undef))∧∀ h:i<elems.length,QS (Q i).1≤jR (elems[i]).1:=by
     intro i hi
     have e1:Q i=(each i hi).choose:=dif_pos hi
     rw [e1]
     exact (each i hi).choose_spec
    have hlen:((List.range len).map fun i=>(Q i).1).length=len:=by simp
    refine ⟨[.ssl ((List.range len).map fun i=>(Q i).1).flatten 0 ((List.range len).map fun i=>(Q i).1).length],?_,jV rfl ?_,hB1.symm,?_⟩
    ·simp only [Sh,hu]
     refine ⟨_,rfl,by rw [hlen];omega,by rw [hlen];exact Nat.le_trans (Nat.mul_le_mul_right _ (by omega)) hw.1,fun es hes=>?_⟩
     obtain ⟨i,hi,rfl⟩:=List.mem_map.1 hes
     exact (hQ i (List.mem_range.1 hi)).1
    ·rw [hlen]
     rcases Nat.eq_zero_or_pos len with h0|h0
     ·subst h0;exact .emp
     ·have hes:∀ es∈(List.range len).map fun i=>(Q i).1,es.length=P.cellsOf e:=fun es hes=>by
       obtain ⟨i,hi,rfl⟩:=List.mem_map.1 hes
       obtain ⟨_,h2,h3,_⟩:=hQ i (List.mem_range.1 hi)
       exact h2.2.1.trans h3
      obtain ⟨hf1,hf2⟩:=qce hes
      rw [hlen] at hf1 hf2
      have hg:∀ i,i<len→((List.range len).map fun i=>(Q i).1).getD i []=(Q i).1:=fun i hi=>by simp [List.getD_eq_getElem?_getD,hi]
      obtain ⟨b,o,rfl,hbs,hcell⟩:=cells_from (w:=w) (a:=a) (n:=len*P.cellsOf e) (f:=fun c=>(Q (c / P.cellsOf e)).2.getD (c % P.cellsOf e) undef) (fun c hc=>by
       have hd:c / P.cellsOf e<len:=Nat.div_lt_of_lt_mul (by rw [Nat.mul_comm];exact hc)
       have:=(hQ _ hd).2.2.2.1 (c % P.cellsOf e) (Nat.mod_lt _ hk)
       rw [Nat.mul_comm,Nat.div_add_mod] at this
       exact this) (Nat.mul_pos h0 hk)
      refine SRep.ssl (a:=o) (off:=0) (vf:=fun c=>(Q (c / P.cellsOf e)).2.getD (c % P.cellsOf e) undef) hbs (fun j hj=>hcell j (by omega)) (fun j hj=>?_) (fun p hp=>?_) hl
      ·rw [hf1] at hj
       have hd:j / P.cellsOf e<len:=Nat.div_lt_of_lt_mul (by rw [Nat.mul_comm];exact hj)
       have hm:=Nat.mod_lt j hk
       have e1:=hf2 (j / P.cellsOf e) (j % P.cellsOf e) hm hd
       rw [Nat.mul_comm,Nat.div_add_mod,hg _ hd] at e1
       rw [e1]
       obtain ⟨_,h2,h3,_⟩:=hQ _ hd
       exact h2.2.2 _ (by rw [h2.2.1,h3];exact hm)
      ·obtain ⟨es,hes',hp'⟩:=List.mem_flatten.1 hp
       obtain ⟨i,hi,rfl⟩:=List.mem_map.1 hes'
       exact (hQ i (List.mem_range.1 hi)).2.1.1 p hp'
    ·simp only [QS,pvw,jR,qad,List.map_map]
     have:=sum_le len (QS ∘ fun i=>(Q i).1) (elems.map (·.1)) (by simpa using hel) fun i hi=>by
      have hi':i<elems.length:=by simpa using hi
      have:=(hQ i (by omega)).2.2.2.2 hi'
      simpa using this
     omega
  ·rename_i fs hu
   simp only [Bool.and_eq_true,beq_iff_eq,List.all_eq_true] at hB
   obtain ⟨xs,m,hm,rfl,hl,hxl,hf⟩:=DataW.trod_struct hu h
   obtain rfl:m=n:=by omega
   simp only [DataW.weights,hu] at hw
   obtain ⟨ps,h1,h2,_,h4⟩:=open_fs (qds hT m) cs fs.toList xs 0 _ hB.1 (by omega) (fun f hf=>by simpa using hB.2 f hf) (by simpa using hxl) (fun i f hif=>hf i f (by simpa using hif)) hw
   rw [List.drop_zero,Nat.sub_zero,← hl,List.take_length] at h2
   exact ⟨ps,by simp only [Sh,hu];exact h1,h2,hl,by simp only [jR];omega⟩
  ·cases hB
end
theorem qcv {H:Type} {P:Program} {ts:List TypeId} {ds:List (DataW H)} (h:(DataW.weightsEach P ts ds).all (· ≤ reachBytes)=true) {j:Nat} {t:TypeId} {d:DataW H} (ht:ts[j]? = some t) (hd:ds[j]? = some d):(d.weights P t).all (· ≤ reachBytes)=true :=
 List.all_eq_true.2 fun n hn=>List.all_eq_true.1 h n (DataW.weights_mem_each ht hd n hn)
theorem arg_any {H:Type} {enc:TypeId × Value→H} {P:Program} {w:World} {base:Nat} {t:TypeId} {v:Value} {d:DataW H} {pl:List MemPlace} {r:Reach} {b0:Nat} {held:Bool} {Ts:List TypeId}
  (hT:openB P Ts=true) (ht:t∈Ts) (hv:Value.okWide P w r b0 t v) (h:DataW.Trod enc P w base (fun _=>true) held t v d pl)
  {ts:List TypeId} {ds:List (DataW H)} (hs:(DataW.weightsEach P ts ds).all (· ≤ reachBytes)=true) {j:Nat} (hj:ts[j]? = some t) (hd:ds[j]? = some d) :
  ∃ n ps,Sh P n t ps∧QS ps≤jR d∧match wC (P.underlying t) with
   | some true=>SRep w (fun b=>b<w.heap.size) (.agg ps) v
   | _=>∃ p,ps=[p]∧SRep w (fun b=>b<w.heap.size) p v:=by
 obtain ⟨n,hf⟩:=h
 obtain ⟨ps,h1,⟨h2,h3,h4⟩,h5,h6⟩:=qds hT n t _ _ ht hf (qcv hs hj hd)
 refine ⟨n,ps,h1,h6,?_⟩
 have hB:=List.all_eq_true.1 hT t ht
 have one:v.cells = #[v]→∃ p,ps=[p]∧SRep w (fun b=>b<w.heap.size) p v:=fun hc=>by
  rw [hc] at h3 h4
  simp only [List.length_cons,List.length_nil] at h3
  obtain ⟨p,rfl⟩:=List.length_eq_one_iff.1 h3
  exact ⟨p,rfl,h4 0 (by simp)⟩
 split at hB
 ·rename_i hu
  obtain ⟨b,rfl⟩:=okWide_bool hu hv
  simp only [hu,wC]
  exact one rfl
 ·rename_i k hu
  obtain ⟨b,rfl⟩:=okWide_int hu hv
  simp only [hu,wC]
  exact one rfl
 ·rename_i k hu
  have:∃ b,v = .float k b:=by
   simp only [Value.okWide,hu,Cell.okWide] at hv
   cases v <;> simp_all [Cell.ok]
  obtain ⟨b,rfl⟩:=this
  simp only [hu,wC]
  exact one rfl
 ·rename_i hu
  obtain ⟨b,rfl⟩:=okWide_string hu hv
  simp only [hu,wC]
  exact one rfl
 ·rename_i e hu
  obtain ⟨a,l,c,rfl⟩:=okWide_slice hu hv
  simp only [hu,wC]
  exact one rfl
 ·rename_i fs hu
  obtain ⟨cs,rfl,hsz⟩:=okWide_struct hu hv
  simp only [hu,wC]
  simp only [Value.cells] at h3 h4
  refine .agg (by simpa using h3.symm) fun i hi=>?_
  have:=h4 i hi
  rwa [show cs.toList.getD i undef=cs.getD i undef from by rw [List.getD_eq_getElem?_getD,Array.getElem?_toList,Array.getD_eq_getD_getElem?]] at this
 ·cases hB
theorem list_of {α:Type} {g:α→List PV} {q:α→Prop}:∀ {ess:List (List PV)},(∀ es∈ess,∃ x,es=g x∧q x)→∃ l:List α,ess=l.map g∧∀ x∈l,q x
 | [],_=>⟨[],rfl,by simp⟩
 | es :: ess,h=>by
  obtain ⟨x,rfl,hx⟩:=h es (by simp)
  obtain ⟨l,rfl,hl⟩:=list_of (ess:=ess) fun e he=>h e (by simp [he])
  exact ⟨x :: l,rfl,fun y hy=>by
   rcases List.mem_cons.1 hy with rfl|hy
   ·exact hx
   ·exact hl y hy⟩
theorem flat_of {α:Type} (g:α→List PV) (l:List α):(l.map g).flatten=l.flatMap g:=List.flatMap_def.symm
theorem sh_num {P:Program} {t:TypeId} {k:IntKind} (ht:P.underlying t=some (.int k)) {n:Nat} {ps:List PV} (h:Sh P n t ps):∃ m,ps=[.av (.int k m)]∧(Lit.int k m).wf=true:=by
 cases n with
 | zero=>exact h.elim
 | succ n=>simpa only [Sh,ht] using h
theorem sh_str' {P:Program} {t:TypeId} (ht:P.underlying t=some .string) {n:Nat} {ps:List PV} (h:Sh P n t ps):∃ s:ByteArray,ps=[.av (.string s)]∧s.size≤maxLen∧s.data.toList.length≤reachBytes:=by
 cases n with
 | zero=>exact h.elim
 | succ n=>simpa only [Sh,ht] using h
theorem sh_str {P:Program} {t:TypeId} (ht:P.underlying t=some .string) {n:Nat} {ps:List PV} (h:Sh P n t ps):∃ s:ByteArray,ps=[.av (.string s)]∧s.size≤maxLen:=by
 obtain ⟨s,h1,h2,_⟩:=sh_str' ht h
 exact ⟨s,h1,h2⟩
theorem qaa {P:Program} {t e:TypeId} (ht:P.underlying t=some (.slice e)) {α:Type} {g:α→List PV} {q:α→Prop} {n:Nat} {ps:List PV} (h:Sh P n t ps) (hg:∀ m es,m<n→Sh P m e es→∃ x,es=g x∧q x) :
  ∃ l:List α,ps=[.ssl (l.flatMap g) 0 l.length]∧(∀ x∈l,q x)∧l.length≤maxLen∧l.length*P.bytesOf e≤reachBytes:=by
 cases n with
 | zero=>exact h.elim
 | succ n =>
  simp only [Sh,ht] at h
  obtain ⟨ess,rfl,h1,h2,h3⟩:=h
  obtain ⟨l,rfl,hl⟩:=list_of fun es hes=>hg n es (Nat.lt_succ_self _) (h3 es hes)
  rw [List.length_map] at h1 h2
  refine ⟨l,by rw [flat_of,List.length_map],hl,h1,h2⟩
theorem wf_of {m:Int} (h:(Lit.int .i64 m).wf=true):QG m:=by
 simp [Lit.wf,IntKind.min,IntKind.max,IntKind.signed,IntKind.bits] at h;unfold QG;omega
theorem YF {n:Nat} {ps:List PV} (h:Sh Tryz.prog n 3 ps):∃ m,ps=[iv m]∧QG m:=by
 obtain ⟨m,h1,h2⟩:=sh_num Tryz.underlying3 h
 exact ⟨m,h1,wf_of h2⟩
theorem sc_str {n:Nat} {ps:List PV} (h:Sh Tryz.prog n 9 ps):∃ s:qJ,ps=[sv (st s)]∧s.length≤140737488351232:=by
 obtain ⟨s,h1,_,h2⟩:=sh_str' Tryz.underlying9 h
 exact ⟨s.data.toList,h1,h2⟩
theorem sc_pit {n:Nat} {ps:List PV} (h:Sh Tryz.prog n 52 ps):∃ p:Pt,ps=ptC p:=by
 cases n with
 | zero=>exact h.elim
 | succ n =>
  simp only [Sh,Tryz.underlying52,ShF] at h
  obtain ⟨a,b,rfl,h1,c,d,rfl,h2,e,f,rfl,h3,rfl⟩:=h
  obtain ⟨x,rfl,_⟩:=YF h1
  obtain ⟨y,rfl,_⟩:=YF h2
  obtain ⟨z,rfl,_⟩:=YF h3
  exact ⟨(x,y,z),rfl⟩
theorem sc_pts {n:Nat} {ps:List PV} (h:Sh Tryz.prog n 48 ps):∃ l:List Pt,ps=[.ssl (yI l) 0 l.length]∧l.length≤5864062014634:=by
 obtain ⟨l,h1,_,_,h4⟩:=qaa (g:=ptC) (q:=fun _=>True) Tryz.underlying48 h fun m es _ hs=>by obtain ⟨p,hp⟩:=sc_pit hs;exact ⟨p,hp,trivial⟩
 rw [show Tryz.prog.bytesOf 52=24 from by kernel_rfl] at h4
 have h5:l.length*24≤140737488351232:=h4
 exact ⟨l,h1,by omega⟩
theorem sc_iv {n:Nat} {ps:List PV} (h:Sh Tryz.prog n 41 ps):∃ i:Int × Int,ps=[iv i.1,iv i.2]∧QG i.1∧QG i.2:=by
 cases n with
 | zero=>exact h.elim
 | succ n =>
  simp only [Sh,Tryz.underlying41,ShF] at h
  obtain ⟨a,b,rfl,h1,c,d,rfl,h2,rfl⟩:=h
  obtain ⟨x,rfl,hx⟩:=YF h1
  obtain ⟨y,rfl,hy⟩:=YF h2
  exact ⟨(x,y),rfl,hx,hy⟩
theorem qht:∀ {l:List It},(∀ x∈l,YZ x)→jH l
 | [],_=>trivial
 | x :: l,h=>⟨h x (by simp),qht fun y hy=>h y (by simp [hy])⟩
theorem item_of:∀ (n:Nat) (ps:List PV),Sh Tryz.prog n 50 ps→∃ x,ps=gI x∧YZ x:=by
 intro n
 induction n using Nat.strongRecOn with
 | ind n ih =>
  intro ps h
  cases n with
  | zero=>exact h.elim
  | succ n =>
   simp only [Sh,Tryz.underlying50,ShF] at h
   obtain ⟨_,_,rfl,h1,_,_,rfl,h2,_,_,rfl,h3,_,_,rfl,h4,_,_,rfl,h5,_,_,rfl,h6,rfl⟩:=h
   obtain ⟨k,rfl,_⟩:=YF h1
   obtain ⟨s,rfl,_⟩:=YF h2
   obtain ⟨P,rfl,hP⟩:=sc_pts h3
   obtain ⟨i,rfl,hi1,hi2⟩:=sc_iv h4
   obtain ⟨y,rfl,hy⟩:=sc_str h5
   obtain ⟨l,rfl,hl,_,hb⟩:=qaa (g:=gI) (q:=YZ) Tryz.underlying45 h6 fun m es hm hs=>ih m (by omega) es hs
   rw [show Tryz.prog.bytesOf 50=96 from by kernel_rfl] at hb
   have hb':l.length*96≤140737488351232:=hb
   refine ⟨.mk k s P i y l,?_,⟨⟨hi1,hi2⟩,hP,hy,by omega,qht hl⟩⟩
   simp only [gI,iK,iS,iP,iB,iL,iC,QE]
   rfl
theorem sc_items {n:Nat} {ps:List PV} (h:Sh Tryz.prog n 45 ps):∃ l:List It,ps=[.ssl (zT l) 0 l.length]∧l.length≤1466015503658∧jH l:=by
 obtain ⟨l,h1,hl,_,hb⟩:=qaa (g:=gI) (q:=YZ) Tryz.underlying45 h fun m es _ hs=>item_of m es hs
 rw [show Tryz.prog.bytesOf 50=96 from by kernel_rfl] at hb
 have hb':l.length*96≤140737488351232:=hb
 exact ⟨l,by rw [QE];exact h1,by omega,qht hl⟩
theorem bar_of (n:Nat) (ps:List PV) (h:Sh Tryz.prog n 47 ps):∃ b:Br,ps=brC b∧qhu b:=by
 cases n with
 | zero=>exact h.elim
 | succ n =>
  simp only [Sh,Tryz.underlying47,ShF] at h
  obtain ⟨_,_,rfl,h1,_,_,rfl,h2,_,_,rfl,h3,rfl⟩:=h
  obtain ⟨u,rfl,hu⟩:=YF h1
  obtain ⟨d,rfl,hd⟩:=YF h2
  obtain ⟨l,rfl,hl,hf⟩:=sc_items h3
  exact ⟨(u,d,l),rfl,hu,hd,hl,hf⟩
theorem vo_of (n:Nat) (ps:List PV) (h:Sh Tryz.prog n 44 ps):∃ v:Vo,ps=voC v∧fitVo v:=by
 cases n with
 | zero=>exact h.elim
 | succ n =>
  simp only [Sh,Tryz.underlying44,ShF] at h
  obtain ⟨_,_,rfl,h1,_,_,rfl,h2,rfl⟩:=h
  obtain ⟨nm,rfl,hn⟩:=sc_str h1
  obtain ⟨B,rfl,hB,_,hb⟩:=qaa (g:=brC) (q:=qhu) Tryz.underlying42 h2 fun m es _ hs=>bar_of m es hs
  rw [show Tryz.prog.bytesOf 47=40 from by kernel_rfl] at hb
  have hb':B.length*40≤140737488351232:=hb
  refine ⟨(nm,B),rfl,hn,by show B.length≤_;omega,fun i hi=>?_⟩
  rw [List.getD_eq_getElem?_getD,List.getElem?_eq_getElem hi]
  exact hB _ (List.getElem_mem hi)
theorem vos_of (n:Nat) (p:PV) (h:Sh Tryz.prog n 22 [p]):∃ l:List Vo,p = .ssl (yq l) 0 l.length∧qei l:=by
 obtain ⟨l,h1,hl,_,hb⟩:=qaa (g:=voC) (q:=fitVo) Tryz.underlying22 h fun m es _ hs=>vo_of m es hs
 simp only [List.cons.injEq,and_true] at h1
 rw [show Tryz.prog.bytesOf 44=40 from by kernel_rfl] at hb
 have hb':l.length*40≤140737488351232:=hb
 refine ⟨l,h1,by omega,fun i hi=>?_⟩
 rw [List.getD_eq_getElem?_getD,List.getElem?_eq_getElem hi]
 exact hl _ (List.getElem_mem hi)
theorem qkx {H:Type} {enc:TypeId × Value→H} {P:Program} {w:World} {base:Nat} {t:TypeId} {v:Value} {d:DataW H} {pl:List MemPlace} {held:Bool} {sp:Nat→Bool} (hu:P.underlying t=some .string) (h:DataW.Trod enc P w base sp held t v d pl)
  {ts:List TypeId} {ds:List (DataW H)} (hs:(DataW.weightsEach P ts ds).all (· ≤ reachBytes)=true) {j:Nat} (hj:ts[j]? = some t) (hd:ds[j]? = some d) {S:Nat→Prop} {s:ByteArray} (hv:SRep w S (.av (.string s)) v):s.data.toList.length≤140737488351232:=by
 have e:v=Value.string s:=by cases hv;rfl
 subst e
 obtain ⟨n,hf⟩:=h
 obtain ⟨s',hc,hx,_⟩:=DataW.trod_string hu hf
 have hw:=qcv hs hj hd
 have hx1:=congrArg Prod.fst hx
 simp only at hx1
 subst hx1
 have hc:[Value.string s]=[Value.string s']:=hc
 injection hc with hc _
 injection hc with hc
 subst hc
 have hw:([s.data.toList.length].all (· ≤ reachBytes))=true:=hw
 have:s.data.toList.length≤reachBytes:=by
  have h9:=List.all_eq_true.1 hw s.data.toList.length (List.mem_singleton.2 rfl)
  exact of_decide_eq_true h9
 exact this
end Go.Proofs.YtmlnilkbolcknaaGreatDoor.Pm
