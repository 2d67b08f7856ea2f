/-
  SCORE: a text read: numbers and pitches: walks. (Printed by wip/pm.) | SCORE: how many runes a text has: the kit's contract,by values. | SCORE: names,runes: walks. (Printed by wip/pm.) | SCORE: a text read: lyrics: walk. (Printed by wip/pm.) | SCORE: the document's reader: numbers,pitches,lyrics: walks. (Printed by wip/pm.) | SCORE: plain: rows of items,bars,voices that grow. No program in sight. | SCORE: plain: what the document's reader holds in its hands where a text is wrong: an item,items,pitches. No program in sight. | THE DOCUMENT's TEXTS: intervals read: walk. (Printed by wip/pm.) | CHORDS: plain,for the walks of their notes. No program in sight. | SCORE: the document's reader: items: walk. (Printed by wip/pm.) | THE VALUE MACHINE (DF): a function that puts off one call of a literal that recovers,with its two result cells lent to it. No program in sight. | SCORE: plain: what is read ends in no place,or in no piece;endings that hand on what is known. No program in sight.
-/
import Derived.Test.YtmlnilkbolcknaaGreatDoorJLawSReads2
import Derived.Test.YtmlnilkbolcknaaGreatDoorJLawSReads3
import Derived.Shelf.Utf8.RuneCount
import Derived.Recover
set_option linter.unusedVariables false
set_option linter.unusedSimpArgs false
set_option linter.deprecated false
set_option maxRecDepth 100000
set_option maxHeartbeats 4000000
namespace Go.Proofs.YtmlnilkbolcknaaGreatDoor.Pm
open Go Go.Proofs.YtmlnilkbolcknaaGreatDoor.Pi
theorem vO (s:zX) (a:Nat) (k:Int) (hs:s.length≤65536) (hr:Rdy s) (ha:a≤s.length):PO Tryz.prog 107 [(.opt 0 0)] [some (98,(r3 s a k))] (if (qE s a).1=0 then .ret (iv ((qE s a).2.1)) [some (98,(r3 s ((qE s a).2.2) k))] else .pan (yY (qE s a).1 (((qE s a).2.2:Nat):Int)) [none]):=by
 refine jk Tryz.func107 rfl (by kernel_rfl) (ZF (Nat.le_of_ble_eq_true rfl) (Nat.le_of_ble_eq_true rfl)) (by kernel_rfl) (l0:=[ps 0 (.opt 0 0),pb 0 98 (r3 s a k)]) rfl (fun c0 Bor hc0=>?_)
 refine qB<|qH qD [.r] []<|qB<|QB qD 1 [ps 0 (.opt 0 0),ps 3 (sv (st (qC s a))),pb 0 98 (r3 s (qA s a) k)] (zY [0] 17 (qbg s a k hs hr (by omega)) oz)<|qB<|qB ?_
 have hwl:=yV ha
 have hga:=zR ha
 by_cases h1:(qC s a)=([]:TX)
 ·refine qQ qD ([(1,.val (.av (.bool (decide ((qC s a)=([]:TX))))))]++gy 3 3++[(6,.yes true)]++gy 8 4++[(15,.gd true .no)]) [.k2,.n,.r] [ps 24 (bv true)] (oc (qv _ _:((st (qC s a)).toList == (st ([]:TX)).toList)=decide ((qC s a)=([]:TX))) (on 4 (qT h1) (on 5 tt oz)))<|qL (b:=true) rfl rfl ?_
  rw [show qE s a=(2,0,qA s a) from by unfold qE;rw [if_pos h1],if_neg (by show ¬ ((2:Int)=0);decide)]
  exact vV qD [(1,.call [0] [(.opt 0 0),(iv 2)] [some (98,(r3 s (qA s a) k))] (.av (yY 2 (qA s a:Int))) [none])] [] 1 [] (Qx [0] 177 (yT s (qA s a) k 2) oz) (fun cx_ a_ hI_=>zv hc0 hI_)
 by_cases h2:(Lib.trimS (qC s a) digs)=([]:TX)
 ·by_cases h3:1<(((qC s a).length:Nat):Int)
  ·refine qQ qD ([(1,.val (.av (.bool (decide ((qC s a)=([]:TX)))))),(3,.gd false .no),(4,.gd false (.call [] [(sv (st (qC s a))),(sv (st digs))] [] (sv (st (Lib.trimS (qC s a) digs))) [])),(5,.gd false (.val (.av (.bool (!decide ((Lib.trimS (qC s a) digs)=([]:TX))))))),(6,.yes false)]++gn 8 4++gy 12 3++[(15,.gd false (.yes true)),(16,.yes false)]) [.k2,.n,.r] [ps 24 (bv (decide (((((qC s a).getD 0 0).toNat:Nat):Int)=48)))] (oc (qv _ _:((st (qC s a)).toList == (st ([]:TX)).toList)=decide ((qC s a)=([]:TX))) (on 2 (qV h1) (zO 65 (yR (qC s a) digs (by omega) (by decide) QN) (oc (qV h1) (oc (yW _ _:(!((st (Lib.trimS (qC s a) digs)).toList == (st ([]:TX)).toList)) = !decide ((Lib.trimS (qC s a) digs)=([]:TX))) (oc (qV h1) (on 4 (bt h2) (on 2 (qT h3) (oc (by have:=List.length_pos_iff.2 h1;omega:(0:Int)≤0∧0<(((qC s a).length:Nat):Int)) (oc (qT h3) (oc (bt h2) (oc (qT h3) (oc (bt h2) oz))))))))))))) ?_
   by_cases h4:((((qC s a).getD 0 0).toNat:Nat):Int)=48
   ·refine qS (qT h4) ?_
    rw [show qE s a=(2,0,qA s a) from by unfold qE;rw [if_neg h1,if_pos h2,if_pos (by omega)],if_neg (by show ¬ ((2:Int)=0);decide)]
    exact vV qD [(1,.call [0] [(.opt 0 0),(iv 2)] [some (98,(r3 s (qA s a) k))] (.av (yY 2 (qA s a:Int))) [none])] [] 1 [] (Qx [0] 177 (yT s (qA s a) k 2) oz) (fun cx_ a_ hI_=>zv hc0 hI_)
   refine qR (qV h4)<|qF<|qB ?_
   have hdg:=qfw h2
   have hno:¬ (1<(qC s a).length∧((qC s a).getD 0 0).toNat=48):=by omega
   have hv0:¬ 18<(qC s a).length→Lib.atoi (qC s a)=some (yG (qC s a))∧0≤yG (qC s a)∧yG (qC s a)≤1000000000000000000:=fun hl=>qdz hdg h1 hl
   have hw0:18<(qC s a).length→¬ Lib.atoiAll (qC s a) = .range→Lib.atoiAll (qC s a) = .ok (okV (qC s a))∧65536<okV (qC s a)∧okV (qC s a)≤9223372036854775807:=fun hl hq=>(qgi hdg hl (by omega)).resolve_left hq
   by_cases h5:18<(qC s a).length
   ·by_cases h6:Lib.atoiAll (qC s a) = .range
    ·refine yC qD 1 [.k2,.n,.n,.d,.r] [ps 4 (iv (Lib.atoiSat (qC s a))),ps 5 .err] (zO 177 (hr.atr (qC s a) (by omega) (by omega) h6) oz)<|qB<|qB<|qQ qD (gy 3 2++gy 7 2) [.k3,.d,.n,.r] [ps 41 (bv true)] (on 4 tt oz)<|qL (b:=true) rfl rfl ?_
     rw [show qE s a=(3,0,qA s a) from by unfold qE;rw [if_neg h1,if_pos h2,if_neg hno,if_pos h5],if_neg (by show ¬ ((3:Int)=0);decide)]
     exact vV qD [(1,.call [0] [(.opt 0 0),(iv 3)] [some (98,(r3 s (qA s a) k))] (.av (yY 3 (qA s a:Int))) [none])] [] 1 [] (Qx [0] 313 (yT s (qA s a) k 3) oz) (fun cx_ a_ hI_=>zv hc0 hI_)
    have hw:=hw0 h5 h6
    refine yC qD 1 [.k2,.n,.n,.d,.r] [ps 4 (iv (okV (qC s a))),ps 5 (.av .nilIface)] (zO 177 (hr.ato (qC s a) (by omega) (by omega) hw.1) oz)<|qB<|qB ?_
    by_cases h7:(okV (qC s a))<1
    ·refine qQ qD (gn 3 2++gy 7 2++[(9,.yes true)]) [.k3,.d,.n,.r] [ps 41 (bv true)] (on 2 ff (on 3 (qT h7) oz))<|qL (b:=true) rfl rfl ?_
     rw [show qE s a=(3,0,qA s a) from by unfold qE;rw [if_neg h1,if_pos h2,if_neg hno,if_pos h5],if_neg (by show ¬ ((3:Int)=0);decide)]
     exact vV qD [(1,.call [0] [(.opt 0 0),(iv 3)] [some (98,(r3 s (qA s a) k))] (.av (yY 3 (qA s a:Int))) [none])] [] 1 [] (Qx [0] 313 (yT s (qA s a) k 3) oz) (fun cx_ a_ hI_=>zv hc0 hI_)
    refine qQ qD (gn 3 2++gn 7 2++[(9,.yes false)]) [.k3,.d,.n,.r] [ps 41 (bv (decide (65536<(okV (qC s a)))))] (on 2 ff (on 3 (qV h7) oz)) ?_
    by_cases h8:65536<(okV (qC s a))
    ·refine qS (qT h8) ?_
     rw [show qE s a=(3,0,qA s a) from by unfold qE;rw [if_neg h1,if_pos h2,if_neg hno,if_pos h5],if_neg (by show ¬ ((3:Int)=0);decide)]
     exact vV qD [(1,.call [0] [(.opt 0 0),(iv 3)] [some (98,(r3 s (qA s a) k))] (.av (yY 3 (qA s a:Int))) [none])] [] 1 [] (Qx [0] 313 (yT s (qA s a) k 3) oz) (fun cx_ a_ hI_=>zv hc0 hI_)
    refine qR (qV h8)<|qF<|qB<|qQ qD [] [.d,.d,.k1,.d,.d,.n] [pb 0 98 [(sv (st s)),(iv (((qA s a:Nat):Int)+(((qC s a).length:Nat):Int))),(iv k)]] (oi (((qA s a:Nat):Int)+(((qC s a).length:Nat):Int)) (by omega) oz)<|qj (Wk.eq (show _=[ps 4 (iv (okV (qC s a))),pb 0 98 (r3 s (qA s a+(qC s a).length) k)] from by rfl)) ?_
    refine qB<|qH qD [.n,.d,.r] [ps 2 (iv (okV (qC s a)))] ?_
    exfalso;omega
   have hv:=hv0 h5
   refine yC qD 1 [.k2,.n,.n,.d,.r] [ps 4 (iv (yG (qC s a))),ps 5 (.av .nilIface)] (zO 177 (qbw (qC s a) _ (by omega) hv.1:PC Tryz.prog 137 [(sv (st (qC s a)))] [] (.tup [(iv (yG (qC s a))),(.av .nilIface)]) []) oz)<|qB<|qB ?_
   by_cases h9:(yG (qC s a))<1
   ·refine qQ qD (gn 3 2++gy 7 2++[(9,.yes true)]) [.k3,.d,.n,.r] [ps 41 (bv true)] (on 2 ff (on 3 (qT h9) oz))<|qL (b:=true) rfl rfl ?_
    rw [show qE s a=(3,0,qA s a) from by unfold qE;rw [if_neg h1,if_pos h2,if_neg hno,if_neg h5,if_pos (by omega)],if_neg (by show ¬ ((3:Int)=0);decide)]
    exact vV qD [(1,.call [0] [(.opt 0 0),(iv 3)] [some (98,(r3 s (qA s a) k))] (.av (yY 3 (qA s a:Int))) [none])] [] 1 [] (Qx [0] 313 (yT s (qA s a) k 3) oz) (fun cx_ a_ hI_=>zv hc0 hI_)
   refine qQ qD (gn 3 2++gn 7 2++[(9,.yes false)]) [.k3,.d,.n,.r] [ps 41 (bv (decide (65536<(yG (qC s a)))))] (on 2 ff (on 3 (qV h9) oz)) ?_
   by_cases h10:65536<(yG (qC s a))
   ·refine qS (qT h10) ?_
    rw [show qE s a=(3,0,qA s a) from by unfold qE;rw [if_neg h1,if_pos h2,if_neg hno,if_neg h5,if_pos (by omega)],if_neg (by show ¬ ((3:Int)=0);decide)]
    exact vV qD [(1,.call [0] [(.opt 0 0),(iv 3)] [some (98,(r3 s (qA s a) k))] (.av (yY 3 (qA s a:Int))) [none])] [] 1 [] (Qx [0] 313 (yT s (qA s a) k 3) oz) (fun cx_ a_ hI_=>zv hc0 hI_)
   refine qR (qV h10)<|qF<|qB<|qQ qD [] [.d,.d,.k1,.d,.d,.n] [pb 0 98 [(sv (st s)),(iv (((qA s a:Nat):Int)+(((qC s a).length:Nat):Int))),(iv k)]] (oi (((qA s a:Nat):Int)+(((qC s a).length:Nat):Int)) (by omega) oz)<|qj (Wk.eq (show _=[ps 4 (iv (yG (qC s a))),pb 0 98 (r3 s (qA s a+(qC s a).length) k)] from by rfl)) ?_
   refine qB<|qH qD [.n,.d,.r] [ps 2 (iv (yG (qC s a)))] ?_
   have hR:qE s a=(0,yG (qC s a),qA s a+(qC s a).length):=by unfold qE;rw [if_neg h1,if_pos h2,if_neg hno,if_neg h5,if_neg (by omega)]
   rw [hR,if_pos rfl]
   exact qk hc0 [2] [0] (hbk:=by exact oc rfl (oz))
  refine qQ qD ([(1,.val (.av (.bool (decide ((qC s a)=([]:TX)))))),(3,.gd false .no),(4,.gd false (.call [] [(sv (st (qC s a))),(sv (st digs))] [] (sv (st (Lib.trimS (qC s a) digs))) [])),(5,.gd false (.val (.av (.bool (!decide ((Lib.trimS (qC s a) digs)=([]:TX))))))),(6,.yes false)]++gn 8 7++[(15,.gd false (.yes false)),(16,.yes false)]) [.k2,.n,.r] [ps 24 (bv false)] (oc (qv _ _:((st (qC s a)).toList == (st ([]:TX)).toList)=decide ((qC s a)=([]:TX))) (on 2 (qV h1) (zO 65 (yR (qC s a) digs (by omega) (by decide) QN) (oc (qV h1) (oc (yW _ _:(!((st (Lib.trimS (qC s a) digs)).toList == (st ([]:TX)).toList)) = !decide ((Lib.trimS (qC s a) digs)=([]:TX))) (oc (qV h1) (on 4 (bt h2) (on 3 (qV h3) (oc (bt h2) (oc (qV h3) (oc (bt h2) oz)))))))))))<|qO (b:=false) rfl rfl<|qF<|qB ?_
  have hdg:=qfw h2
  have hno:¬ (1<(qC s a).length∧((qC s a).getD 0 0).toNat=48):=by omega
  have hv0:¬ 18<(qC s a).length→Lib.atoi (qC s a)=some (yG (qC s a))∧0≤yG (qC s a)∧yG (qC s a)≤1000000000000000000:=fun hl=>qdz hdg h1 hl
  have hw0:18<(qC s a).length→¬ Lib.atoiAll (qC s a) = .range→Lib.atoiAll (qC s a) = .ok (okV (qC s a))∧65536<okV (qC s a)∧okV (qC s a)≤9223372036854775807:=fun hl hq=>(qgi hdg hl (by omega)).resolve_left hq
  by_cases h11:18<(qC s a).length
  ·by_cases h12:Lib.atoiAll (qC s a) = .range
   ·refine yC qD 1 [.k2,.n,.n,.d,.r] [ps 4 (iv (Lib.atoiSat (qC s a))),ps 5 .err] (zO 177 (hr.atr (qC s a) (by omega) (by omega) h12) oz)<|qB<|qB<|qQ qD (gy 3 2++gy 7 2) [.k3,.d,.n,.r] [ps 41 (bv true)] (on 4 tt oz)<|qL (b:=true) rfl rfl ?_
    rw [show qE s a=(3,0,qA s a) from by unfold qE;rw [if_neg h1,if_pos h2,if_neg hno,if_pos h11],if_neg (by show ¬ ((3:Int)=0);decide)]
    exact vV qD [(1,.call [0] [(.opt 0 0),(iv 3)] [some (98,(r3 s (qA s a) k))] (.av (yY 3 (qA s a:Int))) [none])] [] 1 [] (Qx [0] 313 (yT s (qA s a) k 3) oz) (fun cx_ a_ hI_=>zv hc0 hI_)
   have hw:=hw0 h11 h12
   refine yC qD 1 [.k2,.n,.n,.d,.r] [ps 4 (iv (okV (qC s a))),ps 5 (.av .nilIface)] (zO 177 (hr.ato (qC s a) (by omega) (by omega) hw.1) oz)<|qB<|qB ?_
   by_cases h13:(okV (qC s a))<1
   ·refine qQ qD (gn 3 2++gy 7 2++[(9,.yes true)]) [.k3,.d,.n,.r] [ps 41 (bv true)] (on 2 ff (on 3 (qT h13) oz))<|qL (b:=true) rfl rfl ?_
    rw [show qE s a=(3,0,qA s a) from by unfold qE;rw [if_neg h1,if_pos h2,if_neg hno,if_pos h11],if_neg (by show ¬ ((3:Int)=0);decide)]
    exact vV qD [(1,.call [0] [(.opt 0 0),(iv 3)] [some (98,(r3 s (qA s a) k))] (.av (yY 3 (qA s a:Int))) [none])] [] 1 [] (Qx [0] 313 (yT s (qA s a) k 3) oz) (fun cx_ a_ hI_=>zv hc0 hI_)
   refine qQ qD (gn 3 2++gn 7 2++[(9,.yes false)]) [.k3,.d,.n,.r] [ps 41 (bv (decide (65536<(okV (qC s a)))))] (on 2 ff (on 3 (qV h13) oz)) ?_
   by_cases h14:65536<(okV (qC s a))
   ·refine qS (qT h14) ?_
    rw [show qE s a=(3,0,qA s a) from by unfold qE;rw [if_neg h1,if_pos h2,if_neg hno,if_pos h11],if_neg (by show ¬ ((3:Int)=0);decide)]
    exact vV qD [(1,.call [0] [(.opt 0 0),(iv 3)] [some (98,(r3 s (qA s a) k))] (.av (yY 3 (qA s a:Int))) [none])] [] 1 [] (Qx [0] 313 (yT s (qA s a) k 3) oz) (fun cx_ a_ hI_=>zv hc0 hI_)
   refine qR (qV h14)<|qF<|qB<|qQ qD [] [.d,.d,.k1,.d,.d,.n] [pb 0 98 [(sv (st s)),(iv (((qA s a:Nat):Int)+(((qC s a).length:Nat):Int))),(iv k)]] (oi (((qA s a:Nat):Int)+(((qC s a).length:Nat):Int)) (by omega) oz)<|qj (Wk.eq (show _=[ps 4 (iv (okV (qC s a))),pb 0 98 (r3 s (qA s a+(qC s a).length) k)] from by rfl)) ?_
   refine qB<|qH qD [.n,.d,.r] [ps 2 (iv (okV (qC s a)))] ?_
   exfalso;omega
  have hv:=hv0 h11
  refine yC qD 1 [.k2,.n,.n,.d,.r] [ps 4 (iv (yG (qC s a))),ps 5 (.av .nilIface)] (zO 177 (qbw (qC s a) _ (by omega) hv.1:PC Tryz.prog 137 [(sv (st (qC s a)))] [] (.tup [(iv (yG (qC s a))),(.av .nilIface)]) []) oz)<|qB<|qB ?_
  by_cases h15:(yG (qC s a))<1
  ·refine qQ qD (gn 3 2++gy 7 2++[(9,.yes true)]) [.k3,.d,.n,.r] [ps 41 (bv true)] (on 2 ff (on 3 (qT h15) oz))<|qL (b:=true) rfl rfl ?_
   rw [show qE s a=(3,0,qA s a) from by unfold qE;rw [if_neg h1,if_pos h2,if_neg hno,if_neg h11,if_pos (by omega)],if_neg (by show ¬ ((3:Int)=0);decide)]
   exact vV qD [(1,.call [0] [(.opt 0 0),(iv 3)] [some (98,(r3 s (qA s a) k))] (.av (yY 3 (qA s a:Int))) [none])] [] 1 [] (Qx [0] 313 (yT s (qA s a) k 3) oz) (fun cx_ a_ hI_=>zv hc0 hI_)
  refine qQ qD (gn 3 2++gn 7 2++[(9,.yes false)]) [.k3,.d,.n,.r] [ps 41 (bv (decide (65536<(yG (qC s a)))))] (on 2 ff (on 3 (qV h15) oz)) ?_
  by_cases h16:65536<(yG (qC s a))
  ·refine qS (qT h16) ?_
   rw [show qE s a=(3,0,qA s a) from by unfold qE;rw [if_neg h1,if_pos h2,if_neg hno,if_neg h11,if_pos (by omega)],if_neg (by show ¬ ((3:Int)=0);decide)]
   exact vV qD [(1,.call [0] [(.opt 0 0),(iv 3)] [some (98,(r3 s (qA s a) k))] (.av (yY 3 (qA s a:Int))) [none])] [] 1 [] (Qx [0] 313 (yT s (qA s a) k 3) oz) (fun cx_ a_ hI_=>zv hc0 hI_)
  refine qR (qV h16)<|qF<|qB<|qQ qD [] [.d,.d,.k1,.d,.d,.n] [pb 0 98 [(sv (st s)),(iv (((qA s a:Nat):Int)+(((qC s a).length:Nat):Int))),(iv k)]] (oi (((qA s a:Nat):Int)+(((qC s a).length:Nat):Int)) (by omega) oz)<|qj (Wk.eq (show _=[ps 4 (iv (yG (qC s a))),pb 0 98 (r3 s (qA s a+(qC s a).length) k)] from by rfl)) ?_
  refine qB<|qH qD [.n,.d,.r] [ps 2 (iv (yG (qC s a)))] ?_
  have hR:qE s a=(0,yG (qC s a),qA s a+(qC s a).length):=by unfold qE;rw [if_neg h1,if_pos h2,if_neg hno,if_neg h11,if_neg (by omega)]
  rw [hR,if_pos rfl]
  exact qk hc0 [2] [0] (hbk:=by exact oc rfl (oz))
 refine qQ qD ([(1,.val (.av (.bool (decide ((qC s a)=([]:TX)))))),(3,.gd false .no),(4,.gd false (.call [] [(sv (st (qC s a))),(sv (st digs))] [] (sv (st (Lib.trimS (qC s a) digs))) [])),(5,.gd false (.val (.av (.bool (!decide ((Lib.trimS (qC s a) digs)=([]:TX))))))),(6,.yes false)]++gy 8 4++[(15,.gd true .no),(16,.yes true)]) [.k2,.n,.r] [ps 24 (bv true)] (oc (qv _ _:((st (qC s a)).toList == (st ([]:TX)).toList)=decide ((qC s a)=([]:TX))) (on 2 (qV h1) (zO 65 (yR (qC s a) digs (by omega) (by decide) QN) (oc (qV h1) (oc (yW _ _:(!((st (Lib.trimS (qC s a) digs)).toList == (st ([]:TX)).toList)) = !decide ((Lib.trimS (qC s a) digs)=([]:TX))) (oc (qV h1) (on 6 (bf h2) oz)))))))<|qL (b:=true) rfl rfl ?_
 rw [show qE s a=(2,0,qA s a) from by unfold qE;rw [if_neg h1,if_neg h2],if_neg (by show ¬ ((2:Int)=0);decide)]
 exact vV qD [(1,.call [0] [(.opt 0 0),(iv 2)] [some (98,(r3 s (qA s a) k))] (.av (yY 2 (qA s a:Int))) [none])] [] 1 [] (Qx [0] 177 (yT s (qA s a) k 2) oz) (fun cx_ a_ hI_=>zv hc0 hI_)
theorem WQ (s:zX) (a:Nat) (k:Int) (hs:s.length≤65536) (hr:Rdy s) (ha:a≤s.length):PO Tryz.prog 141 [(.opt 0 0)] [some (98,(r3 s a k))] (if (qJ s a).1=0 then .ret (.agg [(iv ((qJ s a).2.1.1)),(iv ((qJ s a).2.1.2.1)),(iv ((qJ s a).2.1.2.2))]) [some (98,(r3 s ((qJ s a).2.2) k)),none] else .pan (yY (qJ s a).1 (((qJ s a).2.2:Nat):Int)) [none]):=by
 refine jk Tryz.func141 rfl (by kernel_rfl) (ZF (Nat.le_of_ble_eq_true rfl) (Nat.le_of_ble_eq_true rfl)) (by kernel_rfl) (l0:=[ps 0 (.opt 0 0),pb 0 98 (r3 s a k)]) rfl (fun c0 Bor hc0=>?_)
 refine qB<|qH qD [.k1,.n,.k1,.n] [ps 2 (.opt 1 0),pb 1 52 [(iv 0),(iv 0),(iv 0)]]<|qB<|zC qD 1 [.k2,.n,.d,.n,.r] [ps 3 (sv (st (qC s a))),pb 0 98 (r3 s (qA s a) k)] (zY [0] 17 (qbg s a k hs hr (by omega)) oz)<|qB ?_
 have hwl:=yV ha
 have hga:=zR ha
 have hat:=qjd (qC s a)
 refine yC qD 1 [.k3,.n,.n,.k2,.n,.n] [ps 4 (.opt 73 0),ps 5 (.opt 81 0),pb 73 52 [(iv ((qW (qC s a)).1.1)),(iv ((qW (qC s a)).1.2.1)),(iv ((qW (qC s a)).1.2.2))],pb 81 33 [(iv ((qW (qC s a)).2.1)),(iv ((qW (qC s a)).2.2))]] (zO 41 (read_pc (qC s a) (by omega)) oz)<|qB<|qB<|qH qD [.k5,.n,.r] [ps 15 (bv (!(decide (((qW (qC s a)).2.1)=0))))] ?_
 by_cases h1:((qW (qC s a)).2.1)=0
 ·refine qR (bt h1)<|qF<|qB<|qQ qD [] [.d,.k1,.d,.k1,.d,.d,.d,.n,.k2,.d] [pb 0 98 [(sv (st s)),(iv (((qA s a:Nat):Int)+(((qC s a).length:Nat):Int))),(iv k)]] (oi (((qA s a:Nat):Int)+(((qC s a).length:Nat):Int)) (by omega) oz)<|qj (Wk.eq (show _=[ps 2 (.opt 1 0),ps 4 (.opt 73 0),pb 0 98 (r3 s (qA s a+(qC s a).length) k),pb 1 52 [(iv 0),(iv 0),(iv 0)],pb 73 52 [(iv ((qW (qC s a)).1.1)),(iv ((qW (qC s a)).1.2.1)),(iv ((qW (qC s a)).1.2.2))]] from by rfl)) ?_
  refine qB<|qH qD [.k1,.d,.k1,.d,.n,.d] [pb 1 52 [(iv ((qW (qC s a)).1.1)),(iv ((qW (qC s a)).1.2.1)),(iv ((qW (qC s a)).1.2.2))]] ?_
  rw [show qJ s a=(0,(qW (qC s a)).1,qA s a+(qC s a).length) from if_pos h1,if_pos rfl]
  exact qk hc0 [2] [0,1] (hbk:=by exact oc rfl (oz))
 refine qS (bf h1)<|qB<|wC qD [] (VB [(0,0),(0,1),(0,2),(0,3),(0,0),(4,1),(0,6),(0,7),(0,8),(0,9)]) [([32],[0]),([34],[32]),([36],[34]),([38],[1,36]),([40],[10]),([42],[40,163]),([44],[38,42]),([46],[32]),([48],[46]),([1],[1,44,48])] [.k5,.d,.d,.n,.r] [pb 0 98 [(sv (st s)),(iv (((qA s a:Nat):Int)+((qW (qC s a)).2.2))),(iv k)]] (oi (((qA s a:Nat):Int)+((qW (qC s a)).2.2)) (by omega) oz) ?_
 have hcs:(qA s a:Int)+(qW (qC s a)).2.2=((qA s a+(qW (qC s a)).2.2.toNat:Nat):Int):=by omega
 refine qj (Wk.eq (show _=[ps 0 (.opt 0 0),ps 2 (.opt 1 0),ps 3 (sv (st (qC s a))),ps 4 (.opt 73 0),ps 5 (.opt 81 0),pb 0 98 (r3 s (qA s a+(qW (qC s a)).2.2.toNat) k),pb 1 52 [(iv 0),(iv 0),(iv 0)],pb 73 52 [(iv ((qW (qC s a)).1.1)),(iv ((qW (qC s a)).1.2.1)),(iv ((qW (qC s a)).1.2.2))],pb 81 33 [(iv ((qW (qC s a)).2.1)),(iv ((qW (qC s a)).2.2))]] from by rw [hcs])) ?_
 rw [show qJ s a=((qW (qC s a)).2.1,(0,0,0),qA s a+(qW (qC s a)).2.2.toNat) from if_neg h1,if_neg h1]
 exact vV qD [(3,.call [0] [(.opt 0 0),(iv ((qW (qC s a)).2.1))] [some (98,(r3 s (qA s a+(qW (qC s a)).2.2.toNat) k))] (.av (yY ((qW (qC s a)).2.1) ((qA s a+(qW (qC s a)).2.2.toNat:Nat):Int))) [none])] [] 3 [] (Qx [0] 233 (yT s (qA s a+(qW (qC s a)).2.2.toNat) k ((qW (qC s a)).2.1)) oz) (fun cx_ a_ hI_=>zv hc0 hI_)
end Go.Proofs.YtmlnilkbolcknaaGreatDoor.Pm
namespace Go.Proofs
open Go.Shelf
end Go.Proofs
namespace Go.Proofs.YtmlnilkbolcknaaGreatDoor.Pm
open Go Go.RowKit
end Go.Proofs.YtmlnilkbolcknaaGreatDoor.Pm
set_option maxRecDepth 100000
set_option maxHeartbeats 4000000
namespace Go.Proofs.YtmlnilkbolcknaaGreatDoor.Pm
open Go Go.Proofs.YtmlnilkbolcknaaGreatDoor.Pi
theorem vname_pc (s:List UInt8) (hs:s.length≤9223372036854775807):PC Tryz.prog 23 [(sv (st s))] [] (bv (jF s)) []:=by
 refine zG Tryz.func23 rfl (by kernel_rfl) (Nat.le_of_ble_eq_true rfl) (by kernel_rfl) (l0:=[ps 0 (sv (st s))]) rfl (fun c0 Bor hc0=>?_)
 refine qB<|qH qD [.r] []<|qB ?_
 by_cases h1:s=([]:TX)
 ·refine zD qD ([(1,.val (.av (.bool (!decide (s=([]:TX))))))]++gn 3 3++[(6,.yes false)]++gn 8 3) [ps 2 (bv false)] (oc (yW _ _:(!((st s).toList == (st ([]:TX)).toList)) = !decide (s=([]:TX))) (on 4 (bt h1) (on 3 ff oz))) ?_
  rw [show jF s=false from by unfold jF;rw [Bool.eq_iff_iff];simp only [← trim_nil,decide_eq_true_eq,reduceCtorEq];constructor <;> intro hh <;> simp_all <;> omega]
  exact qk hc0 [2] []
 by_cases h2:(s.length:Int)≤32
 ·refine zD qD ([(1,.val (.av (.bool (!decide (s=([]:TX))))))]++gy 3 3++[(6,.yes true),(8,.gd true .no),(9,.gd true (.call [] [(sv (st s)),(sv (st ([97,98,99,100,101,102,103,104,105,106,107,108,109,110,111,112,113,114,115,116,117,118,119,120,121,122]:TX)))] [] (sv (st (Lib.trimS s abc))) [])),(10,.gd true (.val (.av (.bool (decide ((Lib.trimS s abc)=([]:TX))))))),(11,.yes true)]) [ps 2 (bv (decide ((Lib.trimS s abc)=([]:TX))))] (oc (yW _ _:(!((st s).toList == (st ([]:TX)).toList)) = !decide (s=([]:TX))) (on 4 (bf h1) (on 2 (qT h2) (zO 80 (yR s abc hs (by decide) abc_ascii) (oc (qT h2) (oc (qv _ _:((st (Lib.trimS s abc)).toList == (st ([]:TX)).toList)=decide ((Lib.trimS s abc)=([]:TX))) (oc (qT h2) oz))))))) ?_
  rw [show jF s=(decide ((Lib.trimS s abc)=([]:TX))) from by unfold jF;rw [Bool.eq_iff_iff];simp only [← trim_nil,decide_eq_true_eq,reduceCtorEq];constructor <;> intro hh <;> simp_all <;> omega]
  exact qk hc0 [2] []
 refine zD qD ([(1,.val (.av (.bool (!decide (s=([]:TX))))))]++gy 3 3++[(6,.yes true)]++gn 8 3++[(11,.yes false)]) [ps 2 (bv false)] (oc (yW _ _:(!((st s).toList == (st ([]:TX)).toList)) = !decide (s=([]:TX))) (on 4 (bf h1) (on 4 (qV h2) oz))) ?_
 rw [show jF s=false from by unfold jF;rw [Bool.eq_iff_iff];simp only [← trim_nil,decide_eq_true_eq,reduceCtorEq];constructor <;> intro hh <;> simp_all <;> omega]
 exact qk hc0 [2] []
theorem qid (r l:Int):PC Tryz.prog 120 [(.av (.int .i32 r)),(iv l)] [] (bv (vj r l)) []:=by
 refine zG Tryz.func120 rfl (by kernel_rfl) (Nat.le_of_ble_eq_true rfl) (by kernel_rfl) (l0:=[ps 0 (.av (.int .i32 r)),ps 1 (iv l)]) rfl (fun c0 Bor hc0=>?_)
 refine qB<|qH qD [.r] []<|qB ?_
 by_cases h1:32≤r
 ·by_cases h2:r=34
  ·refine zD qD (gy 3 2++[(5,.yes true)]++gn 7 2++[(9,.yes false)]++gn 11 3++[(16,.gd false .no)]) [ps 4 (bv false)] (on 3 (qT h1) (on 3 (bt h2) (on 4 ff oz))) ?_
   rw [show vj r l=false from by unfold vj;rw [Bool.eq_iff_iff];simp only [decide_eq_true_eq];constructor <;> intro hh <;> first|trivial|rfl|omega|(cases hh;done)]
   exact qk hc0 [4] []
  by_cases h3:r=127
  ·refine zD qD (gy 3 2++[(5,.yes true)]++gy 7 2++[(9,.yes true)]++gn 11 3++[(16,.gd false .no),(17,.yes false)]) [ps 4 (bv false)] (on 3 (qT h1) (on 3 (bf h2) (on 5 (bt h3) oz))) ?_
   rw [show vj r l=false from by unfold vj;rw [Bool.eq_iff_iff];simp only [decide_eq_true_eq];constructor <;> intro hh <;> first|trivial|rfl|omega|(cases hh;done)]
   exact qk hc0 [4] []
  by_cases h4:r=65533
  ·refine zD qD (gy 3 2++[(5,.yes true)]++gy 7 2++[(9,.yes true)]++gy 11 3++gn 14 2++[(16,.gd true (.yes false)),(17,.yes true)]) [ps 4 (bv (decide (1<l)))] (on 3 (qT h1) (on 3 (bf h2) (on 3 (bf h3) (on 2 (bt h4) (oc (bf h3) (oc (bt h4) (oc (bf h3) oz))))))) ?_
   rw [show vj r l=(decide (1<l)) from by unfold vj;rw [Bool.eq_iff_iff];simp only [decide_eq_true_eq];constructor <;> intro hh <;> first|trivial|rfl|omega|(cases hh;done)]
   exact qk hc0 [4] []
  refine zD qD (gy 3 2++[(5,.yes true)]++gy 7 2++[(9,.yes true)]++gy 11 5++[(16,.gd true (.yes true)),(17,.yes true)]) [ps 4 (bv true)] (on 3 (qT h1) (on 3 (bf h2) (on 3 (bf h3) (on 2 (bf h4) (oc (bf h3) (oc (bf h4) (oc (bf h3) oz))))))) ?_
  rw [show vj r l=true from by unfold vj;rw [Bool.eq_iff_iff];simp only [decide_eq_true_eq];constructor <;> intro hh <;> first|trivial|rfl|omega|(cases hh;done)]
  exact qk hc0 [4] []
 refine zD qD (gn 3 2++[(5,.yes false)]++gn 7 2++gn 11 3++[(16,.gd false .no)]) [ps 4 (bv false)] (on 3 (qV h1) (on 6 ff oz)) ?_
 rw [show vj r l=false from by unfold vj;rw [Bool.eq_iff_iff];simp only [decide_eq_true_eq];constructor <;> intro hh <;> first|trivial|rfl|omega|(cases hh;done)]
 exact qk hc0 [4] []
theorem duo {α:Type} {x:α} {m n:Nat} (h:m=n):(x,m)=(x,n):=by rw [h]
theorem tri {α β:Type} {x:α} {y:β} {m n:Nat} (h:m=n):(x,y,m)=(x,y,n):=by rw [h]
theorem QZ (s:zX) (a:Nat) (k:Int) (hs:s.length≤65536) (hr:Rdy s) (ha:a≤s.length):PO Tryz.prog 142 [(.opt 0 0)] [some (98,(r3 s a k))] (if (zA s a).1=0 then .ret (sv (st ((zA s a).2.1))) [some (98,(r3 s ((zA s a).2.2) k))] else .pan (yY (zA s a).1 (((zA s a).2.2:Nat):Int)) [none]):=by
 refine jk Tryz.func142 rfl (by kernel_rfl) (ZF (Nat.le_of_ble_eq_true rfl) (Nat.le_of_ble_eq_true rfl)) (by kernel_rfl) (l0:=[ps 0 (.opt 0 0),pb 0 98 (r3 s a k)]) rfl (fun c0 Bor hc0=>?_)
 refine qB<|qH qD [.r] []<|qB<|qB ?_
 by_cases h1:(qP s a 34)=true
 ·refine QB qD 1 [ps 0 (.opt 0 0),ps 9 (bv false),pb 0 98 (r3 s (qA s a+1) k)] (zY [0] 17 (YO (jW s a k 34 hs (by omega)) h1) oz)<|qO (b:=false) rfl rfl<|qF<|qB ?_
  have hlt:=zM h1
  refine qH qD [.k1,.n,.d,.r] [ps 3 (nv (qA s a+1))]<|qB<|qH qD [.k2,.n,.r] [ps 4 (iv 0)]<|qX<|zy (α:={x:Nat × Nat // (qA s a+1)≤x.1∧x.1≤s.length∧x.2≤100∧(Qq (s.drop (qA s a+1)) 0)=((Qq (s.drop x.1) x.2).1,x.1-(qA s a+1)+(Qq (s.drop x.1) x.2).2)}) (fun x=>[ps 0 (.opt 0 0),ps 3 (nv (qA s a+1)),ps 4 (nv x.1.2),pb 0 98 (r3 s x.1.1 k)]) (fun x=>s.length-x.1.1) 1 ⟨((qA s a+1),0),⟨Nat.le_refl _,hlt,Nat.zero_le _,Prod.ext rfl (by dsimp only;omega)⟩⟩ (Wk.ren2 _ 1 hc0 [0] rfl rfl (by kernel_rfl) (by kernel_rfl)) ?_
  rintro ⟨⟨b,n⟩,⟨hb0,hb1,hn,hl⟩⟩
  dsimp only at hb0 hb1 hn hl
  refine qB<|qX<|qB ?_
  have hdl:=QU (s.drop b)
  rw [List.length_drop] at hdl
  refine VA qD [(8,.val (.av (.string (st (s.drop b))))),(9,.call [] [(sv (st (s.drop b)))] [] (.tup [(.av (.int .i32 (zU (s.drop b):Int))),(nv (zj (s.drop b)))]) [])] (VB [(0,0),(0,1),(0,2),(0,3),(0,0),(4,1),(4,2),(4,3),(0,8),(0,9),(0,10),(0,11),(0,11),(0,12),(0,14)]) [([34],[0]),([36],[34]),([38],[36]),([40],[1,38]),([42],[0]),([44],[42]),([46],[44]),([48],[1,46]),([50],[40,48]),([52],[50]),([32],[52]),([54],[32]),([56],[32]),([10],[54]),([12],[56])] [ps 0 (.opt 0 0),ps 3 (nv (qA s a+1)),ps 4 (nv n),ps 5 (.av (.int .i32 (zU (s.drop b):Int))),ps 6 (nv (zj (s.drop b))),pb 0 98 (r3 s b k)] (oc (by first|omega|(simp <;> omega):(0:Int)≤(b:Int)∧(b:Int)≤(s.length:Int)∧(s.length:Int)≤(s.length:Int)) (oc (ww _ _ _ rfl:(st s).extract (((b:Nat):Int):Int).toNat (((s.length:Nat):Int):Int).toNat=st (s.drop b)) (zO 73 (qgt (s.drop b)) oz)))<|qB<|qB ?_
  by_cases h2:(zj (s.drop b):Int)=1
  ·by_cases h3:(zU (s.drop b):Int)=34
   ·refine qQ qD (gy 3 2++[(5,.yes true)]++gy 7 2++[(9,.yes true)]) [.k5,.n,.r] [ps 38 (bv (decide (0<(n:Int))))] (oc (decide_eq_true h2) (oc (decide_eq_true h2) (oc (decide_eq_true h2) (oc (decide_eq_true h3) (oc (decide_eq_true h3) (oc (decide_eq_true h3) oz)))))) ?_
    by_cases h4:0<(n:Int)
    ·refine qS (decide_eq_true h4)<|qB<|qQ qD [] [.k2,.d,.d,.d,.d,.d,.n] [pb 0 98 [(sv (st s)),(iv (((b:Nat):Int)+1)),(iv k)]] (oi (((b:Nat):Int)+1) (by omega) oz)<|qj (Wk.eq (show _=[ps 0 (.opt 0 0),ps 3 (nv (qA s a+1)),pb 0 98 (r3 s (b+1) k)] from by rfl)) ?_
     refine qB<|wC qD [(10,.val (.av (.string (st ((s.drop (qA s a+1)).take (b-(qA s a+1)))))))] (VB [(0,0),(0,1),(0,2),(0,3),(0,0),(0,0),(5,1),(5,2),(5,3),(5,4),(0,10),(0,11)]) [([92],[0]),([94],[92]),([96],[94]),([98],[1,96]),([100],[6]),([102],[0]),([104],[102]),([106],[104]),([108],[1,106]),([110],[108]),([112],[98,100,110]),([4],[112])] [.d,.n,.d,.r] [ps 2 (sv (st ((s.drop (qA s a+1)).take (b-(qA s a+1)))))] (oi (((b+1:Nat):Int)-1) (by omega) (oc (by first|omega|(simp <;> omega):(0:Int)≤(((qA s a+1):Nat):Int)∧(((qA s a+1):Nat):Int)≤(((b+1:Nat):Int)-1)∧(((b+1:Nat):Int)-1)≤(s.length:Int)) (oc (by rw [ZP,show (((qA s a+1):Nat):Int).toNat=(qA s a+1) from rfl,show (((b+1:Nat):Int)-1).toNat-(qA s a+1)=b-(qA s a+1) by omega]:(st s).extract ((((qA s a+1):Nat):Int):Int).toNat ((((b+1:Nat):Int)-1):Int).toNat=st ((s.drop (qA s a+1)).take (b-(qA s a+1)))) oz))) ?_
     have hen:=qer (l:=(s.drop b)) (n:=n) (by omega)
     rw [hen] at hl
     have hR:zA s a=(0,(s.drop (qA s a+1)).take (b-(qA s a+1)),b+1):=by unfold zA;rw [if_pos h1,hl,if_pos rfl];exact tri (by dsimp only;omega)
     rw [hR,if_pos rfl]
     exact yk fun cx_ a_ hI_=>zB (rt hc0 [ps 2 (sv (st ((s.drop (qA s a+1)).take (b-(qA s a+1))))),pb 0 98 (r3 s (b+1) k)] [0] hI_ (hbk:=by exact oc rfl (oz)))
    refine qR (decide_eq_false h4)<|qF<|qB<|qB<|yC qD 2 [.k3,.d,.k1,.d,.n,.r] [ps 60 (bv (!(vj (zU (s.drop b):Int) (zj (s.drop b):Int))))] (zO 217 (qid _ _:PC Tryz.prog 120 [(.av (.int .i32 (zU (s.drop b):Int))),(nv (zj (s.drop b)))] [] (bv (vj (zU (s.drop b):Int) (zj (s.drop b):Int))) []) oz) ?_
    by_cases h5:(vj (zU (s.drop b):Int) (zj (s.drop b):Int))=true
    ·refine qR (congrArg Bool.not h5)<|qF<|qB<|qB<|qH qD [.k4,.d,.n,.r] [ps 64 (bv (decide (((n:Nat):Int)=100)))] ?_
     by_cases h6:(n:Int)=100
     ·refine qS (decide_eq_true h6) ?_
      have hne:¬ (zj (s.drop b)=1∧zU (s.drop b)=34∧0<n):=by omega
      have hbd:=QK (l:=(s.drop b)) (n:=n) hne h5 (by omega)
      rw [hbd] at hl
      have hR:zA s a=(4,[],b):=by unfold zA;rw [if_pos h1,hl,if_neg (by show ¬ ((4:Int)=0);decide)];exact tri (by dsimp only;omega)
      rw [hR,if_neg (by show ¬ ((4:Int)=0);decide)]
      exact vV qD [(1,.call [0] [(.opt 0 0),(iv 4)] [some (98,(r3 s b k))] (.av (yY 4 (b:Int))) [none])] [] 1 [] (Qx [0] 257 (yT s b k 4) oz) (fun cx_ a_ hI_=>wH (zv hc0 hI_))
     refine qR (decide_eq_false h6)<|qF<|qQ qD [] [.k3,.d,.d,.d,.n] [pb 0 98 [(sv (st s)),(iv (((b:Nat):Int)+(zj (s.drop b):Int))),(iv k)]] (oi (((b:Nat):Int)+(zj (s.drop b):Int)) (by omega) oz)<|qZ<|qQ qD [] [.k2,.d,.n,.r] [ps 4 (iv (((n:Nat):Int)+1))] (oi (((n:Nat):Int)+1) (by omega) oz) ?_
     have hne:¬ (zj (s.drop b)=1∧zU (s.drop b)=34∧0<n):=by omega
     have hnx:=QJ (l:=(s.drop b)) (n:=n) hne h5 (by omega)
     rw [List.drop_drop] at hnx
     have hps:=jx (l:=(s.drop b)) h5
     exact qq ⟨(b+zj (s.drop b),n+1),⟨by show (qA s a+1)≤b+_;omega,by show b+_≤s.length;omega,by show n+1≤100;omega,by rw [hl,hnx];exact duo (by dsimp only;omega)⟩⟩ (Wk.trans (Wk.eq (show _=[ps 0 (.opt 0 0),ps 3 (nv (qA s a+1)),ps 4 (nv (n+1)),pb 0 98 (r3 s (b+zj (s.drop b)) k)] from by rfl)) (Wk.ren2 _ 1 hc0 [0] rfl rfl (by kernel_rfl) (by kernel_rfl))) (show s.length-(b+zj (s.drop b))<s.length-b from by show s.length-(b+zj (s.drop b))<s.length-b;omega)
    refine qS (congrArg Bool.not (Bool.eq_false_iff.2 h5)) ?_
    have hne:¬ (zj (s.drop b)=1∧zU (s.drop b)=34∧0<n):=by omega
    have hbd:=ZT (l:=(s.drop b)) (n:=n) hne h5
    rw [hbd] at hl
    have hR:zA s a=(2,[],b):=by unfold zA;rw [if_pos h1,hl,if_neg (by show ¬ ((2:Int)=0);decide)];exact tri (by dsimp only;omega)
    rw [hR,if_neg (by show ¬ ((2:Int)=0);decide)]
    exact vV qD [(1,.call [0] [(.opt 0 0),(iv 2)] [some (98,(r3 s b k))] (.av (yY 2 (b:Int))) [none])] [] 1 [] (Qx [0] 241 (yT s b k 2) oz) (fun cx_ a_ hI_=>wH (zv hc0 hI_))
   refine qQ qD (gy 3 2++[(5,.yes true)]++gn 7 2++[(9,.yes false)]) [.k5,.n,.r] [ps 38 (bv false)] (oc (decide_eq_true h2) (oc (decide_eq_true h2) (oc (decide_eq_true h2) (oc (decide_eq_false h3) (oc (decide_eq_false h3) (oc (decide_eq_false h3) oz))))))<|qO (b:=false) rfl rfl<|qF<|qB<|qB<|yC qD 2 [.k3,.d,.k1,.d,.n,.r] [ps 60 (bv (!(vj (zU (s.drop b):Int) (zj (s.drop b):Int))))] (zO 217 (qid _ _:PC Tryz.prog 120 [(.av (.int .i32 (zU (s.drop b):Int))),(nv (zj (s.drop b)))] [] (bv (vj (zU (s.drop b):Int) (zj (s.drop b):Int))) []) oz) ?_
   by_cases h7:(vj (zU (s.drop b):Int) (zj (s.drop b):Int))=true
   ·refine qR (congrArg Bool.not h7)<|qF<|qB<|qB<|qH qD [.k4,.d,.n,.r] [ps 64 (bv (decide (((n:Nat):Int)=100)))] ?_
    by_cases h8:(n:Int)=100
    ·refine qS (decide_eq_true h8) ?_
     have hne:¬ (zj (s.drop b)=1∧zU (s.drop b)=34∧0<n):=by omega
     have hbd:=QK (l:=(s.drop b)) (n:=n) hne h7 (by omega)
     rw [hbd] at hl
     have hR:zA s a=(4,[],b):=by unfold zA;rw [if_pos h1,hl,if_neg (by show ¬ ((4:Int)=0);decide)];exact tri (by dsimp only;omega)
     rw [hR,if_neg (by show ¬ ((4:Int)=0);decide)]
     exact vV qD [(1,.call [0] [(.opt 0 0),(iv 4)] [some (98,(r3 s b k))] (.av (yY 4 (b:Int))) [none])] [] 1 [] (Qx [0] 257 (yT s b k 4) oz) (fun cx_ a_ hI_=>wH (zv hc0 hI_))
    refine qR (decide_eq_false h8)<|qF<|qQ qD [] [.k3,.d,.d,.d,.n] [pb 0 98 [(sv (st s)),(iv (((b:Nat):Int)+(zj (s.drop b):Int))),(iv k)]] (oi (((b:Nat):Int)+(zj (s.drop b):Int)) (by omega) oz)<|qZ<|qQ qD [] [.k2,.d,.n,.r] [ps 4 (iv (((n:Nat):Int)+1))] (oi (((n:Nat):Int)+1) (by omega) oz) ?_
    have hne:¬ (zj (s.drop b)=1∧zU (s.drop b)=34∧0<n):=by omega
    have hnx:=QJ (l:=(s.drop b)) (n:=n) hne h7 (by omega)
    rw [List.drop_drop] at hnx
    have hps:=jx (l:=(s.drop b)) h7
    exact qq ⟨(b+zj (s.drop b),n+1),⟨by show (qA s a+1)≤b+_;omega,by show b+_≤s.length;omega,by show n+1≤100;omega,by rw [hl,hnx];exact duo (by dsimp only;omega)⟩⟩ (Wk.trans (Wk.eq (show _=[ps 0 (.opt 0 0),ps 3 (nv (qA s a+1)),ps 4 (nv (n+1)),pb 0 98 (r3 s (b+zj (s.drop b)) k)] from by rfl)) (Wk.ren2 _ 1 hc0 [0] rfl rfl (by kernel_rfl) (by kernel_rfl))) (show s.length-(b+zj (s.drop b))<s.length-b from by show s.length-(b+zj (s.drop b))<s.length-b;omega)
   refine qS (congrArg Bool.not (Bool.eq_false_iff.2 h7)) ?_
   have hne:¬ (zj (s.drop b)=1∧zU (s.drop b)=34∧0<n):=by omega
   have hbd:=ZT (l:=(s.drop b)) (n:=n) hne h7
   rw [hbd] at hl
   have hR:zA s a=(2,[],b):=by unfold zA;rw [if_pos h1,hl,if_neg (by show ¬ ((2:Int)=0);decide)];exact tri (by dsimp only;omega)
   rw [hR,if_neg (by show ¬ ((2:Int)=0);decide)]
   exact vV qD [(1,.call [0] [(.opt 0 0),(iv 2)] [some (98,(r3 s b k))] (.av (yY 2 (b:Int))) [none])] [] 1 [] (Qx [0] 241 (yT s b k 2) oz) (fun cx_ a_ hI_=>wH (zv hc0 hI_))
  refine qQ qD (gn 3 2++[(5,.yes false)]++gn 7 2) [.k5,.n,.r] [ps 38 (bv false)] (oc (decide_eq_false h2) (oc (decide_eq_false h2) (oc (decide_eq_false h2) (on 2 ff oz))))<|qO (b:=false) rfl rfl<|qF<|qB<|qB<|yC qD 2 [.k3,.d,.k1,.d,.n,.r] [ps 60 (bv (!(vj (zU (s.drop b):Int) (zj (s.drop b):Int))))] (zO 217 (qid _ _:PC Tryz.prog 120 [(.av (.int .i32 (zU (s.drop b):Int))),(nv (zj (s.drop b)))] [] (bv (vj (zU (s.drop b):Int) (zj (s.drop b):Int))) []) oz) ?_
  by_cases h9:(vj (zU (s.drop b):Int) (zj (s.drop b):Int))=true
  ·refine qR (congrArg Bool.not h9)<|qF<|qB<|qB<|qH qD [.k4,.d,.n,.r] [ps 64 (bv (decide (((n:Nat):Int)=100)))] ?_
   by_cases h10:(n:Int)=100
   ·refine qS (decide_eq_true h10) ?_
    have hne:¬ (zj (s.drop b)=1∧zU (s.drop b)=34∧0<n):=by omega
    have hbd:=QK (l:=(s.drop b)) (n:=n) hne h9 (by omega)
    rw [hbd] at hl
    have hR:zA s a=(4,[],b):=by unfold zA;rw [if_pos h1,hl,if_neg (by show ¬ ((4:Int)=0);decide)];exact tri (by dsimp only;omega)
    rw [hR,if_neg (by show ¬ ((4:Int)=0);decide)]
    exact vV qD [(1,.call [0] [(.opt 0 0),(iv 4)] [some (98,(r3 s b k))] (.av (yY 4 (b:Int))) [none])] [] 1 [] (Qx [0] 257 (yT s b k 4) oz) (fun cx_ a_ hI_=>wH (zv hc0 hI_))
   refine qR (decide_eq_false h10)<|qF<|qQ qD [] [.k3,.d,.d,.d,.n] [pb 0 98 [(sv (st s)),(iv (((b:Nat):Int)+(zj (s.drop b):Int))),(iv k)]] (oi (((b:Nat):Int)+(zj (s.drop b):Int)) (by omega) oz)<|qZ<|qQ qD [] [.k2,.d,.n,.r] [ps 4 (iv (((n:Nat):Int)+1))] (oi (((n:Nat):Int)+1) (by omega) oz) ?_
   have hne:¬ (zj (s.drop b)=1∧zU (s.drop b)=34∧0<n):=by omega
   have hnx:=QJ (l:=(s.drop b)) (n:=n) hne h9 (by omega)
   rw [List.drop_drop] at hnx
   have hps:=jx (l:=(s.drop b)) h9
   exact qq ⟨(b+zj (s.drop b),n+1),⟨by show (qA s a+1)≤b+_;omega,by show b+_≤s.length;omega,by show n+1≤100;omega,by rw [hl,hnx];exact duo (by dsimp only;omega)⟩⟩ (Wk.trans (Wk.eq (show _=[ps 0 (.opt 0 0),ps 3 (nv (qA s a+1)),ps 4 (nv (n+1)),pb 0 98 (r3 s (b+zj (s.drop b)) k)] from by rfl)) (Wk.ren2 _ 1 hc0 [0] rfl rfl (by kernel_rfl) (by kernel_rfl))) (show s.length-(b+zj (s.drop b))<s.length-b from by show s.length-(b+zj (s.drop b))<s.length-b;omega)
  refine qS (congrArg Bool.not (Bool.eq_false_iff.2 h9)) ?_
  have hne:¬ (zj (s.drop b)=1∧zU (s.drop b)=34∧0<n):=by omega
  have hbd:=ZT (l:=(s.drop b)) (n:=n) hne h9
  rw [hbd] at hl
  have hR:zA s a=(2,[],b):=by unfold zA;rw [if_pos h1,hl,if_neg (by show ¬ ((2:Int)=0);decide)];exact tri (by dsimp only;omega)
  rw [hR,if_neg (by show ¬ ((2:Int)=0);decide)]
  exact vV qD [(1,.call [0] [(.opt 0 0),(iv 2)] [some (98,(r3 s b k))] (.av (yY 2 (b:Int))) [none])] [] 1 [] (Qx [0] 241 (yT s b k 2) oz) (fun cx_ a_ hI_=>wH (zv hc0 hI_))
 refine QB qD 1 [ps 0 (.opt 0 0),ps 9 (bv true),pb 0 98 (r3 s (qA s a) k)] (zY [0] 17 (qad (jW s a k 34 hs (by omega)) h1) oz)<|qL (b:=true) rfl rfl<|qB<|qH qD [.d,.n,.d,.r] [ps 2 se] ?_
 rw [show zA s a=(0,[],qA s a) from if_neg h1,if_pos rfl]
 exact qk hc0 [2] [0] (hbk:=by exact oc rfl (oz))
theorem jE {P:Program} {f:FuncId} {args:List PV} {H H1 H2:Hp} {r1 r2:PV} {c:Prop} [Decidable c] (h:PC P f args H (if c then r1 else r2) (if c then H1 else H2)) (hc:c):PC P f args H r1 H1:=by rwa [if_pos hc,if_pos hc] at h
theorem le_if {α:Type} {c:Prop} [Decidable c] {n:Nat} {A B:List α} (h1:n≤A.length) (h2:n≤B.length):n≤(if c then A else B).length:=by split <;> assumption
theorem QY {P:Program} {f:FuncId} {args:List PV} {H H1 H2:Hp} {r1 r2:PV} {c:Prop} [Decidable c] (h:PC P f args H (if c then r1 else r2) (if c then H1 else H2)) (hc:¬ c):PC P f args H r2 H2:=by rwa [if_neg hc,if_neg hc] at h
theorem wO (s:zX) (a:Nat) (k:Int) (hs:s.length≤65536) (ha:a≤s.length):PC Tryz.prog 45 [(.opt 0 0)] [some (103,(r5 s a 0 0 k))] (if (qE s a).1=0 then (iv ((qE s a).2.1)) else (iv 0)) (if (qE s a).1=0 then [some (103,(r5 s ((qE s a).2.2) 0 0 k))] else [some (103,(yz s ((qE s a).2.2) ((qE s a).1) ((qE s a).2.2) k))]):=by
 refine zG Tryz.func45 rfl (by kernel_rfl) (le_if (Nat.le_of_ble_eq_true rfl) (Nat.le_of_ble_eq_true rfl)) (by kernel_rfl) (l0:=[ps 0 (.opt 0 0),pb 0 103 (r5 s a 0 0 k)]) rfl (fun c0 Bor hc0=>?_)
 refine qB<|qH qD [.r] []<|qB<|QB qD 1 [ps 0 (.opt 0 0),ps 3 (sv (st (qC s a))),pb 0 103 (r5 s (qA s a) 0 0 k)] (zY [0] 17 (QG s a k hs (by omega)) oz)<|qB ?_
 by_cases h1:0<(((qC s a).length:Nat):Int)
 ·by_cases h2:(((qC s a).length:Nat):Int)=1
  ·refine wC qD (gy 4 7++[(11,.gd true (.yes true)),(12,.yes true)]) (VB [(0,0),(0,1),(0,2),(0,3),(0,4),(0,5),(0,6),(0,7),(0,8),(0,9),(0,10),(0,11),(0,12),(0,8),(0,14)]) [([18],[6]),([20],[18]),([22],[20]),([24],[22]),([26],[6,24]),([28],[24,26]),([30],[24,28]),([32],[24,30]),([34],[32]),([36],[32]),([38],[32]),([40],[24,32,38]),([42],[24,40]),([8],[]),([10],[42])] [.k2,.n,.n,.r] [ps 4 (iv 0),ps 5 (bv true)] (on 4 (qT h1) (on 3 (qT h2) (oc (qT h1) (oc (qT h2) (oc (qT h1) oz)))))<|qB<|qB<|qH qD [.k4,.n,.r] [ps 6 (iv 0)]<|qX ?_
   have hwl:=yV ha
   have hgl:=zR ha
   have hg0:g0N (qC s a)=true:=qT (by omega)
   refine zy (α:={x:Nat × Bool × Int // x.1≤(qC s a).length∧((qC s a).drop x.1).foldl zx (x.2.1,x.2.2)=jY (qC s a)∧0≤x.2.2∧x.2.2≤655369}) (fun x=>[ps 0 (.opt 0 0),ps 3 (sv (st (qC s a))),ps 4 (iv x.1.2.2),ps 5 (bv x.1.2.1),ps 6 (nv x.1.1),pb 0 103 (r5 s (qA s a) 0 0 k)]) (fun x=>(qC s a).length-x.1.1) 1 ⟨(0,true,0),⟨Nat.zero_le _,by rw [← hg0];rfl,by show (0:Int)≤0;decide,by show (0:Int)≤655369;decide⟩⟩ (Wk.ren2 _ 1 hc0 [0] rfl rfl (by kernel_rfl) (by kernel_rfl)) ?_
   rintro ⟨⟨i,g,n⟩,⟨hi,hr,hn0,hn1⟩⟩
   dsimp only at hi hr hn0 hn1
   refine qB<|qB<|zD qD [] [ps 0 (.opt 0 0),ps 3 (sv (st (qC s a))),ps 4 (iv n),ps 5 (bv g),ps 6 (nv i),ps 25 (bv (decide (((i:Nat):Int)<(((qC s a).length:Nat):Int)))),pb 0 103 (r5 s (qA s a) 0 0 k)] (oz) ?_
   by_cases h3:(i:Int)<(((qC s a).length:Nat):Int)
   ·refine qS (qT h3)<|qF<|qB<|qX<|qB ?_
    by_cases h4:((((qC s a).getD i 0).toNat:Nat):Int)<48
    ·refine qQ qD (gy 5 4++[(9,.yes true)]) [.k5,.d,.n,.r] [ps 37 (bv true)] (oc (by first|omega|(simp <;> omega):(0:Int)≤(i:Int)∧(i:Int)<(((qC s a).length:Nat):Int)) (on 5 (qT h4) oz))<|qL (b:=true) rfl rfl<|qH qD [.k3,.d,.n,.k1,.d,.r] [ps 5 (bv false)]<|qZ<|qQ qD [] [.k4,.d,.n,.r] [ps 6 (iv (((i:Nat):Int)+1))] (oi (((i:Nat):Int)+1) (by omega) oz) ?_
     have hst:zx (g,n) ((qC s a).getD i 0)=(false,n):=by unfold zx;rw [if_pos (by omega)]
     exact qq ⟨(i+1,false,n),⟨by show i+1≤(qC s a).length;omega,by rw [vk (by omega),hst] at hr;exact hr,by show (0:Int)≤n;omega,by show n≤655369;omega⟩⟩ (Wk.trans (Wk.eq (show _=[ps 0 (.opt 0 0),ps 3 (sv (st (qC s a))),ps 4 (iv n),ps 5 (bv false),ps 6 (nv (i+1)),pb 0 103 (r5 s (qA s a) 0 0 k)] from by rfl)) (Wk.ren2 _ 1 hc0 [0] rfl rfl (by kernel_rfl) (by kernel_rfl))) (show (qC s a).length-(i+1)<(qC s a).length-i from by show (qC s a).length-(i+1)<(qC s a).length-i;omega)
    refine qQ qD (gn 5 4++[(9,.yes false)]) [.k5,.d,.n,.r] [ps 37 (bv (decide (57<((((qC s a).getD i 0).toNat:Nat):Int))))] (oc (by first|omega|(simp <;> omega):(0:Int)≤(i:Int)∧(i:Int)<(((qC s a).length:Nat):Int)) (on 3 (qV h4) (oc (by first|omega|(simp <;> omega):(0:Int)≤(i:Int)∧(i:Int)<(((qC s a).length:Nat):Int)) (on 2 (qV h4) oz)))) ?_
    by_cases h5:57<((((qC s a).getD i 0).toNat:Nat):Int)
    ·refine qS (qT h5)<|qH qD [.k3,.d,.n,.k1,.d,.r] [ps 5 (bv false)]<|qZ<|qQ qD [] [.k4,.d,.n,.r] [ps 6 (iv (((i:Nat):Int)+1))] (oi (((i:Nat):Int)+1) (by omega) oz) ?_
     have hst:zx (g,n) ((qC s a).getD i 0)=(false,n):=by unfold zx;rw [if_pos (by omega)]
     exact qq ⟨(i+1,false,n),⟨by show i+1≤(qC s a).length;omega,by rw [vk (by omega),hst] at hr;exact hr,by show (0:Int)≤n;omega,by show n≤655369;omega⟩⟩ (Wk.trans (Wk.eq (show _=[ps 0 (.opt 0 0),ps 3 (sv (st (qC s a))),ps 4 (iv n),ps 5 (bv false),ps 6 (nv (i+1)),pb 0 103 (r5 s (qA s a) 0 0 k)] from by rfl)) (Wk.ren2 _ 1 hc0 [0] rfl rfl (by kernel_rfl) (by kernel_rfl))) (show (qC s a).length-(i+1)<(qC s a).length-i from by show (qC s a).length-(i+1)<(qC s a).length-i;omega)
    refine qR (qV h5)<|qB<|qH qD [.k5,.d,.n,.r] [ps 39 (bv (decide (n≤65536)))] ?_
    by_cases h6:n≤65536
    ·refine qS (qT h6)<|qQ qD [] [.k2,.d,.n,.k2,.d,.r] [ps 4 (iv ((10*n)+(((((qC s a).getD i 0).toNat:Nat):Int)-48)))] (oi (10*n) (by omega) (oc (by first|omega|(simp <;> omega):(0:Int)≤(i:Int)∧(i:Int)<(((qC s a).length:Nat):Int)) (oc (by simp only [InK];omega:InK .u8 (((((qC s a).getD i 0).toNat:Nat):Int)-48)) (oi (((((qC s a).getD i 0).toNat:Nat):Int)-48) (by omega) (oi ((10*n)+(((((qC s a).getD i 0).toNat:Nat):Int)-48)) (by omega) oz)))))<|qZ<|qQ qD [] [.k4,.d,.n,.r] [ps 6 (iv (((i:Nat):Int)+1))] (oi (((i:Nat):Int)+1) (by omega) oz) ?_
     have hst:zx (g,n) ((qC s a).getD i 0)=(g,((10*n)+(((((qC s a).getD i 0).toNat:Nat):Int)-48))):=by unfold zx;rw [if_neg (by omega),if_pos (by dsimp only;omega)]
     exact qq ⟨(i+1,g,((10*n)+(((((qC s a).getD i 0).toNat:Nat):Int)-48))),⟨by show i+1≤(qC s a).length;omega,by rw [vk (by omega),hst] at hr;exact hr,by show (0:Int)≤((10*n)+(((((qC s a).getD i 0).toNat:Nat):Int)-48));omega,by show ((10*n)+(((((qC s a).getD i 0).toNat:Nat):Int)-48))≤655369;omega⟩⟩ (Wk.trans (Wk.eq (show _=[ps 0 (.opt 0 0),ps 3 (sv (st (qC s a))),ps 4 (iv ((10*n)+(((((qC s a).getD i 0).toNat:Nat):Int)-48))),ps 5 (bv g),ps 6 (nv (i+1)),pb 0 103 (r5 s (qA s a) 0 0 k)] from by rfl)) (Wk.ren2 _ 1 hc0 [0] rfl rfl (by kernel_rfl) (by kernel_rfl))) (show (qC s a).length-(i+1)<(qC s a).length-i from by show (qC s a).length-(i+1)<(qC s a).length-i;omega)
    refine qR (qV h6)<|qF<|qZ<|qQ qD [] [.k4,.d,.n,.d,.r] [ps 6 (iv (((i:Nat):Int)+1))] (oi (((i:Nat):Int)+1) (by omega) oz) ?_
    have hst:zx (g,n) ((qC s a).getD i 0)=(g,n):=by unfold zx;rw [if_neg (by omega),if_neg (by dsimp only;omega)]
    exact qq ⟨(i+1,g,n),⟨by show i+1≤(qC s a).length;omega,by rw [vk (by omega),hst] at hr;exact hr,by show (0:Int)≤n;omega,by show n≤655369;omega⟩⟩ (Wk.trans (Wk.eq (show _=[ps 0 (.opt 0 0),ps 3 (sv (st (qC s a))),ps 4 (iv n),ps 5 (bv g),ps 6 (nv (i+1)),pb 0 103 (r5 s (qA s a) 0 0 k)] from by rfl)) (Wk.ren2 _ 1 hc0 [0] rfl rfl (by kernel_rfl) (by kernel_rfl))) (show (qC s a).length-(i+1)<(qC s a).length-i from by show (qC s a).length-(i+1)<(qC s a).length-i;omega)
   refine qR (qV h3)<|zI rfl rfl<|qB<|qB ?_
   have hnw:jY (qC s a)=(g,n):=by rw [← hr,List.drop_eq_nil_of_le (by omega)];rfl
   have hR:=numW_R s a
   rw [hnw] at hR
   refine qH qD [.k3,.d,.d,.d,.n,.r] [ps 49 (bv (!g))] ?_
   by_cases h7:g=true
   ·refine qR (congrArg Bool.not h7)<|qF<|qB<|qB ?_
    by_cases h8:n<1
    ·refine qQ qD (gy 3 2++[(5,.yes true)]) [.k3,.d,.n,.r] [ps 57 (bv true)] (on 3 (qT h8) oz)<|qL (b:=true) rfl rfl<|qB<|QB qD 1 [pb 0 103 (yz s (qA s a) 3 (qA s a) k)] (zY [0] 105 (yy s (qA s a) k 3) oz)<|qB<|qH qD [.n,.r] [ps 2 (iv 0)] ?_
     rw [show qE s a=(3,0,qA s a) from hR.2.1 h7 (by omega),if_neg (by show ¬ ((3:Int)=0);decide),if_neg (by show ¬ ((3:Int)=0);decide)]
     exact qk hc0 [2] [0] (hbk:=by exact oc rfl (oz))
    refine qQ qD (gn 3 2++[(5,.yes false)]) [.k3,.d,.n,.r] [ps 57 (bv (decide (65536<n)))] (on 3 (qV h8) oz) ?_
    by_cases h9:65536<n
    ·refine qS (qT h9)<|qB<|QB qD 1 [pb 0 103 (yz s (qA s a) 3 (qA s a) k)] (zY [0] 105 (yy s (qA s a) k 3) oz)<|qB<|qH qD [.n,.r] [ps 2 (iv 0)] ?_
     rw [show qE s a=(3,0,qA s a) from hR.2.1 h7 (by omega),if_neg (by show ¬ ((3:Int)=0);decide),if_neg (by show ¬ ((3:Int)=0);decide)]
     exact qk hc0 [2] [0] (hbk:=by exact oc rfl (oz))
    refine qR (qV h9)<|qF<|qB<|qB<|zC qD 1 [.k3,.d,.n,.r] [ps 61 (bv true)] (zY [0] 105 (jS s (qA s a) k) oz)<|qL (b:=true) rfl rfl<|zD qD [] [ps 4 (iv n),pb 0 103 [(sv (st s)),(iv (((qA s a:Nat):Int)+(((qC s a).length:Nat):Int))),(iv 0),(iv 0),(iv k)]] (oi (((qA s a:Nat):Int)+(((qC s a).length:Nat):Int)) (by omega) oz)<|qj (Wk.eq (show _=[ps 4 (iv n),pb 0 103 (r5 s (qA s a+(qC s a).length) 0 0 k)] from by rfl)) ?_
    refine qB<|qH qD [.n,.d,.r] [ps 2 (iv n)] ?_
    rw [show qE s a=(0,n,qA s a+(qC s a).length) from hR.2.2 h7 (by omega),if_pos rfl,if_pos rfl]
    exact qk hc0 [2] [0] (hbk:=by exact oc rfl (oz))
   refine qS (congrArg Bool.not (Bool.eq_false_iff.2 h7))<|qB<|QB qD 1 [pb 0 103 (yz s (qA s a) 2 (qA s a) k)] (zY [0] 57 (yy s (qA s a) k 2) oz)<|qB<|qH qD [.n,.r] [ps 2 (iv 0)] ?_
   rw [show qE s a=(2,0,qA s a) from hR.1 (eq_false_of_ne_true h7),if_neg (by show ¬ ((2:Int)=0);decide),if_neg (by show ¬ ((2:Int)=0);decide)]
   exact qk hc0 [2] [0] (hbk:=by exact oc rfl (oz))
  refine wC qD (gy 4 4++gn 8 3++[(11,.gd true (.yes false)),(12,.yes true)]) (VB [(0,0),(0,1),(0,2),(0,3),(0,4),(0,5),(0,6),(0,7),(0,8),(0,9),(0,10),(0,11),(0,12),(0,8),(0,14)]) [([18],[6]),([20],[18]),([22],[20]),([24],[22]),([26],[6,24]),([28],[24,26]),([30],[24,28]),([32],[24,30]),([34],[6,32]),([36],[32,34]),([38],[32,36]),([40],[24,32,38]),([42],[24,40]),([8],[]),([10],[42])] [.k2,.n,.n,.r] [ps 4 (iv 0),ps 5 (bv (!(decide (((((qC s a).getD 0 0).toNat:Nat):Int)=48))))] (on 4 (qT h1) (on 2 (qV h2) (oc (by first|omega|(simp <;> omega):(0:Int)≤0∧0<(((qC s a).length:Nat):Int)) (oc (qV h2) (oc (qT h1) (oc (qV h2) (oc (qT h1) oz)))))))<|qB<|qB<|qH qD [.k4,.n,.r] [ps 6 (iv 0)]<|qX ?_
  have hwl:=yV ha
  have hgl:=zR ha
  have hg0:g0N (qC s a)=(!(decide (((((qC s a).getD 0 0).toNat:Nat):Int)=48))):=by unfold g0N;rw [Bool.eq_iff_iff];simp only [decide_eq_true_eq,Bool.not_eq_true',decide_eq_false_iff_not];omega
  refine zy (α:={x:Nat × Bool × Int // x.1≤(qC s a).length∧((qC s a).drop x.1).foldl zx (x.2.1,x.2.2)=jY (qC s a)∧0≤x.2.2∧x.2.2≤655369}) (fun x=>[ps 0 (.opt 0 0),ps 3 (sv (st (qC s a))),ps 4 (iv x.1.2.2),ps 5 (bv x.1.2.1),ps 6 (nv x.1.1),pb 0 103 (r5 s (qA s a) 0 0 k)]) (fun x=>(qC s a).length-x.1.1) 1 ⟨(0,(!(decide (((((qC s a).getD 0 0).toNat:Nat):Int)=48))),0),⟨Nat.zero_le _,by rw [← hg0];rfl,by show (0:Int)≤0;decide,by show (0:Int)≤655369;decide⟩⟩ (Wk.ren2 _ 1 hc0 [0] rfl rfl (by kernel_rfl) (by kernel_rfl)) ?_
  rintro ⟨⟨i,g,n⟩,⟨hi,hr,hn0,hn1⟩⟩
  dsimp only at hi hr hn0 hn1
  refine qB<|qB<|zD qD [] [ps 0 (.opt 0 0),ps 3 (sv (st (qC s a))),ps 4 (iv n),ps 5 (bv g),ps 6 (nv i),ps 25 (bv (decide (((i:Nat):Int)<(((qC s a).length:Nat):Int)))),pb 0 103 (r5 s (qA s a) 0 0 k)] (oz) ?_
  by_cases h10:(i:Int)<(((qC s a).length:Nat):Int)
  ·refine qS (qT h10)<|qF<|qB<|qX<|qB ?_
   by_cases h11:((((qC s a).getD i 0).toNat:Nat):Int)<48
   ·refine qQ qD (gy 5 4++[(9,.yes true)]) [.k5,.d,.n,.r] [ps 37 (bv true)] (oc (by first|omega|(simp <;> omega):(0:Int)≤(i:Int)∧(i:Int)<(((qC s a).length:Nat):Int)) (on 5 (qT h11) oz))<|qL (b:=true) rfl rfl<|qH qD [.k3,.d,.n,.k1,.d,.r] [ps 5 (bv false)]<|qZ<|qQ qD [] [.k4,.d,.n,.r] [ps 6 (iv (((i:Nat):Int)+1))] (oi (((i:Nat):Int)+1) (by omega) oz) ?_
    have hst:zx (g,n) ((qC s a).getD i 0)=(false,n):=by unfold zx;rw [if_pos (by omega)]
    exact qq ⟨(i+1,false,n),⟨by show i+1≤(qC s a).length;omega,by rw [vk (by omega),hst] at hr;exact hr,by show (0:Int)≤n;omega,by show n≤655369;omega⟩⟩ (Wk.trans (Wk.eq (show _=[ps 0 (.opt 0 0),ps 3 (sv (st (qC s a))),ps 4 (iv n),ps 5 (bv false),ps 6 (nv (i+1)),pb 0 103 (r5 s (qA s a) 0 0 k)] from by rfl)) (Wk.ren2 _ 1 hc0 [0] rfl rfl (by kernel_rfl) (by kernel_rfl))) (show (qC s a).length-(i+1)<(qC s a).length-i from by show (qC s a).length-(i+1)<(qC s a).length-i;omega)
   refine qQ qD (gn 5 4++[(9,.yes false)]) [.k5,.d,.n,.r] [ps 37 (bv (decide (57<((((qC s a).getD i 0).toNat:Nat):Int))))] (oc (by first|omega|(simp <;> omega):(0:Int)≤(i:Int)∧(i:Int)<(((qC s a).length:Nat):Int)) (on 3 (qV h11) (oc (by first|omega|(simp <;> omega):(0:Int)≤(i:Int)∧(i:Int)<(((qC s a).length:Nat):Int)) (on 2 (qV h11) oz)))) ?_
   by_cases h12:57<((((qC s a).getD i 0).toNat:Nat):Int)
   ·refine qS (qT h12)<|qH qD [.k3,.d,.n,.k1,.d,.r] [ps 5 (bv false)]<|qZ<|qQ qD [] [.k4,.d,.n,.r] [ps 6 (iv (((i:Nat):Int)+1))] (oi (((i:Nat):Int)+1) (by omega) oz) ?_
    have hst:zx (g,n) ((qC s a).getD i 0)=(false,n):=by unfold zx;rw [if_pos (by omega)]
    exact qq ⟨(i+1,false,n),⟨by show i+1≤(qC s a).length;omega,by rw [vk (by omega),hst] at hr;exact hr,by show (0:Int)≤n;omega,by show n≤655369;omega⟩⟩ (Wk.trans (Wk.eq (show _=[ps 0 (.opt 0 0),ps 3 (sv (st (qC s a))),ps 4 (iv n),ps 5 (bv false),ps 6 (nv (i+1)),pb 0 103 (r5 s (qA s a) 0 0 k)] from by rfl)) (Wk.ren2 _ 1 hc0 [0] rfl rfl (by kernel_rfl) (by kernel_rfl))) (show (qC s a).length-(i+1)<(qC s a).length-i from by show (qC s a).length-(i+1)<(qC s a).length-i;omega)
   refine qR (qV h12)<|qB<|qH qD [.k5,.d,.n,.r] [ps 39 (bv (decide (n≤65536)))] ?_
   by_cases h13:n≤65536
   ·refine qS (qT h13)<|qQ qD [] [.k2,.d,.n,.k2,.d,.r] [ps 4 (iv ((10*n)+(((((qC s a).getD i 0).toNat:Nat):Int)-48)))] (oi (10*n) (by omega) (oc (by first|omega|(simp <;> omega):(0:Int)≤(i:Int)∧(i:Int)<(((qC s a).length:Nat):Int)) (oc (by simp only [InK];omega:InK .u8 (((((qC s a).getD i 0).toNat:Nat):Int)-48)) (oi (((((qC s a).getD i 0).toNat:Nat):Int)-48) (by omega) (oi ((10*n)+(((((qC s a).getD i 0).toNat:Nat):Int)-48)) (by omega) oz)))))<|qZ<|qQ qD [] [.k4,.d,.n,.r] [ps 6 (iv (((i:Nat):Int)+1))] (oi (((i:Nat):Int)+1) (by omega) oz) ?_
    have hst:zx (g,n) ((qC s a).getD i 0)=(g,((10*n)+(((((qC s a).getD i 0).toNat:Nat):Int)-48))):=by unfold zx;rw [if_neg (by omega),if_pos (by dsimp only;omega)]
    exact qq ⟨(i+1,g,((10*n)+(((((qC s a).getD i 0).toNat:Nat):Int)-48))),⟨by show i+1≤(qC s a).length;omega,by rw [vk (by omega),hst] at hr;exact hr,by show (0:Int)≤((10*n)+(((((qC s a).getD i 0).toNat:Nat):Int)-48));omega,by show ((10*n)+(((((qC s a).getD i 0).toNat:Nat):Int)-48))≤655369;omega⟩⟩ (Wk.trans (Wk.eq (show _=[ps 0 (.opt 0 0),ps 3 (sv (st (qC s a))),ps 4 (iv ((10*n)+(((((qC s a).getD i 0).toNat:Nat):Int)-48))),ps 5 (bv g),ps 6 (nv (i+1)),pb 0 103 (r5 s (qA s a) 0 0 k)] from by rfl)) (Wk.ren2 _ 1 hc0 [0] rfl rfl (by kernel_rfl) (by kernel_rfl))) (show (qC s a).length-(i+1)<(qC s a).length-i from by show (qC s a).length-(i+1)<(qC s a).length-i;omega)
   refine qR (qV h13)<|qF<|qZ<|qQ qD [] [.k4,.d,.n,.d,.r] [ps 6 (iv (((i:Nat):Int)+1))] (oi (((i:Nat):Int)+1) (by omega) oz) ?_
   have hst:zx (g,n) ((qC s a).getD i 0)=(g,n):=by unfold zx;rw [if_neg (by omega),if_neg (by dsimp only;omega)]
   exact qq ⟨(i+1,g,n),⟨by show i+1≤(qC s a).length;omega,by rw [vk (by omega),hst] at hr;exact hr,by show (0:Int)≤n;omega,by show n≤655369;omega⟩⟩ (Wk.trans (Wk.eq (show _=[ps 0 (.opt 0 0),ps 3 (sv (st (qC s a))),ps 4 (iv n),ps 5 (bv g),ps 6 (nv (i+1)),pb 0 103 (r5 s (qA s a) 0 0 k)] from by rfl)) (Wk.ren2 _ 1 hc0 [0] rfl rfl (by kernel_rfl) (by kernel_rfl))) (show (qC s a).length-(i+1)<(qC s a).length-i from by show (qC s a).length-(i+1)<(qC s a).length-i;omega)
  refine qR (qV h10)<|zI rfl rfl<|qB<|qB ?_
  have hnw:jY (qC s a)=(g,n):=by rw [← hr,List.drop_eq_nil_of_le (by omega)];rfl
  have hR:=numW_R s a
  rw [hnw] at hR
  refine qH qD [.k3,.d,.d,.d,.n,.r] [ps 49 (bv (!g))] ?_
  by_cases h14:g=true
  ·refine qR (congrArg Bool.not h14)<|qF<|qB<|qB ?_
   by_cases h15:n<1
   ·refine qQ qD (gy 3 2++[(5,.yes true)]) [.k3,.d,.n,.r] [ps 57 (bv true)] (on 3 (qT h15) oz)<|qL (b:=true) rfl rfl<|qB<|QB qD 1 [pb 0 103 (yz s (qA s a) 3 (qA s a) k)] (zY [0] 105 (yy s (qA s a) k 3) oz)<|qB<|qH qD [.n,.r] [ps 2 (iv 0)] ?_
    rw [show qE s a=(3,0,qA s a) from hR.2.1 h14 (by omega),if_neg (by show ¬ ((3:Int)=0);decide),if_neg (by show ¬ ((3:Int)=0);decide)]
    exact qk hc0 [2] [0] (hbk:=by exact oc rfl (oz))
   refine qQ qD (gn 3 2++[(5,.yes false)]) [.k3,.d,.n,.r] [ps 57 (bv (decide (65536<n)))] (on 3 (qV h15) oz) ?_
   by_cases h16:65536<n
   ·refine qS (qT h16)<|qB<|QB qD 1 [pb 0 103 (yz s (qA s a) 3 (qA s a) k)] (zY [0] 105 (yy s (qA s a) k 3) oz)<|qB<|qH qD [.n,.r] [ps 2 (iv 0)] ?_
    rw [show qE s a=(3,0,qA s a) from hR.2.1 h14 (by omega),if_neg (by show ¬ ((3:Int)=0);decide),if_neg (by show ¬ ((3:Int)=0);decide)]
    exact qk hc0 [2] [0] (hbk:=by exact oc rfl (oz))
   refine qR (qV h16)<|qF<|qB<|qB<|zC qD 1 [.k3,.d,.n,.r] [ps 61 (bv true)] (zY [0] 105 (jS s (qA s a) k) oz)<|qL (b:=true) rfl rfl<|zD qD [] [ps 4 (iv n),pb 0 103 [(sv (st s)),(iv (((qA s a:Nat):Int)+(((qC s a).length:Nat):Int))),(iv 0),(iv 0),(iv k)]] (oi (((qA s a:Nat):Int)+(((qC s a).length:Nat):Int)) (by omega) oz)<|qj (Wk.eq (show _=[ps 4 (iv n),pb 0 103 (r5 s (qA s a+(qC s a).length) 0 0 k)] from by rfl)) ?_
   refine qB<|qH qD [.n,.d,.r] [ps 2 (iv n)] ?_
   rw [show qE s a=(0,n,qA s a+(qC s a).length) from hR.2.2 h14 (by omega),if_pos rfl,if_pos rfl]
   exact qk hc0 [2] [0] (hbk:=by exact oc rfl (oz))
  refine qS (congrArg Bool.not (Bool.eq_false_iff.2 h14))<|qB<|QB qD 1 [pb 0 103 (yz s (qA s a) 2 (qA s a) k)] (zY [0] 57 (yy s (qA s a) k 2) oz)<|qB<|qH qD [.n,.r] [ps 2 (iv 0)] ?_
  rw [show qE s a=(2,0,qA s a) from hR.1 (eq_false_of_ne_true h14),if_neg (by show ¬ ((2:Int)=0);decide),if_neg (by show ¬ ((2:Int)=0);decide)]
  exact qk hc0 [2] [0] (hbk:=by exact oc rfl (oz))
 refine wC qD (gn 4 4++[(11,.gd false .no),(12,.yes false)]) (VB [(0,0),(0,1),(0,2),(0,3),(0,4),(0,5),(0,6),(0,7),(0,8),(0,9),(0,10),(0,11),(0,12),(0,8),(0,14)]) [([18],[6]),([20],[18]),([22],[20]),([24],[22]),([26],[24]),([28],[24]),([30],[24]),([32],[24]),([34],[32]),([36],[32]),([38],[32]),([40],[24]),([42],[24,40]),([8],[]),([10],[42])] [.k2,.n,.n,.r] [ps 4 (iv 0),ps 5 (bv false)] (on 6 (qV h1) oz)<|qB<|qB<|qH qD [.k4,.n,.r] [ps 6 (iv 0)]<|qX ?_
 have hwl:=yV ha
 have hgl:=zR ha
 have hg0:g0N (qC s a)=false:=qV (by omega)
 refine zy (α:={x:Nat × Bool × Int // x.1≤(qC s a).length∧((qC s a).drop x.1).foldl zx (x.2.1,x.2.2)=jY (qC s a)∧0≤x.2.2∧x.2.2≤655369}) (fun x=>[ps 0 (.opt 0 0),ps 3 (sv (st (qC s a))),ps 4 (iv x.1.2.2),ps 5 (bv x.1.2.1),ps 6 (nv x.1.1),pb 0 103 (r5 s (qA s a) 0 0 k)]) (fun x=>(qC s a).length-x.1.1) 1 ⟨(0,false,0),⟨Nat.zero_le _,by rw [← hg0];rfl,by show (0:Int)≤0;decide,by show (0:Int)≤655369;decide⟩⟩ (Wk.ren2 _ 1 hc0 [0] rfl rfl (by kernel_rfl) (by kernel_rfl)) ?_
 rintro ⟨⟨i,g,n⟩,⟨hi,hr,hn0,hn1⟩⟩
 dsimp only at hi hr hn0 hn1
 refine qB<|qB<|zD qD [] [ps 0 (.opt 0 0),ps 3 (sv (st (qC s a))),ps 4 (iv n),ps 5 (bv g),ps 6 (nv i),ps 25 (bv (decide (((i:Nat):Int)<(((qC s a).length:Nat):Int)))),pb 0 103 (r5 s (qA s a) 0 0 k)] (oz) ?_
 by_cases h17:(i:Int)<(((qC s a).length:Nat):Int)
 ·refine qS (qT h17)<|qF<|qB<|qX<|qB ?_
  by_cases h18:((((qC s a).getD i 0).toNat:Nat):Int)<48
  ·refine qQ qD (gy 5 4++[(9,.yes true)]) [.k5,.d,.n,.r] [ps 37 (bv true)] (oc (by first|omega|(simp <;> omega):(0:Int)≤(i:Int)∧(i:Int)<(((qC s a).length:Nat):Int)) (on 5 (qT h18) oz))<|qL (b:=true) rfl rfl<|qH qD [.k3,.d,.n,.k1,.d,.r] [ps 5 (bv false)]<|qZ<|qQ qD [] [.k4,.d,.n,.r] [ps 6 (iv (((i:Nat):Int)+1))] (oi (((i:Nat):Int)+1) (by omega) oz) ?_
   have hst:zx (g,n) ((qC s a).getD i 0)=(false,n):=by unfold zx;rw [if_pos (by omega)]
   exact qq ⟨(i+1,false,n),⟨by show i+1≤(qC s a).length;omega,by rw [vk (by omega),hst] at hr;exact hr,by show (0:Int)≤n;omega,by show n≤655369;omega⟩⟩ (Wk.trans (Wk.eq (show _=[ps 0 (.opt 0 0),ps 3 (sv (st (qC s a))),ps 4 (iv n),ps 5 (bv false),ps 6 (nv (i+1)),pb 0 103 (r5 s (qA s a) 0 0 k)] from by rfl)) (Wk.ren2 _ 1 hc0 [0] rfl rfl (by kernel_rfl) (by kernel_rfl))) (show (qC s a).length-(i+1)<(qC s a).length-i from by show (qC s a).length-(i+1)<(qC s a).length-i;omega)
  refine qQ qD (gn 5 4++[(9,.yes false)]) [.k5,.d,.n,.r] [ps 37 (bv (decide (57<((((qC s a).getD i 0).toNat:Nat):Int))))] (oc (by first|omega|(simp <;> omega):(0:Int)≤(i:Int)∧(i:Int)<(((qC s a).length:Nat):Int)) (on 3 (qV h18) (oc (by first|omega|(simp <;> omega):(0:Int)≤(i:Int)∧(i:Int)<(((qC s a).length:Nat):Int)) (on 2 (qV h18) oz)))) ?_
  by_cases h19:57<((((qC s a).getD i 0).toNat:Nat):Int)
  ·refine qS (qT h19)<|qH qD [.k3,.d,.n,.k1,.d,.r] [ps 5 (bv false)]<|qZ<|qQ qD [] [.k4,.d,.n,.r] [ps 6 (iv (((i:Nat):Int)+1))] (oi (((i:Nat):Int)+1) (by omega) oz) ?_
   have hst:zx (g,n) ((qC s a).getD i 0)=(false,n):=by unfold zx;rw [if_pos (by omega)]
   exact qq ⟨(i+1,false,n),⟨by show i+1≤(qC s a).length;omega,by rw [vk (by omega),hst] at hr;exact hr,by show (0:Int)≤n;omega,by show n≤655369;omega⟩⟩ (Wk.trans (Wk.eq (show _=[ps 0 (.opt 0 0),ps 3 (sv (st (qC s a))),ps 4 (iv n),ps 5 (bv false),ps 6 (nv (i+1)),pb 0 103 (r5 s (qA s a) 0 0 k)] from by rfl)) (Wk.ren2 _ 1 hc0 [0] rfl rfl (by kernel_rfl) (by kernel_rfl))) (show (qC s a).length-(i+1)<(qC s a).length-i from by show (qC s a).length-(i+1)<(qC s a).length-i;omega)
  refine qR (qV h19)<|qB<|qH qD [.k5,.d,.n,.r] [ps 39 (bv (decide (n≤65536)))] ?_
  by_cases h20:n≤65536
  ·refine qS (qT h20)<|qQ qD [] [.k2,.d,.n,.k2,.d,.r] [ps 4 (iv ((10*n)+(((((qC s a).getD i 0).toNat:Nat):Int)-48)))] (oi (10*n) (by omega) (oc (by first|omega|(simp <;> omega):(0:Int)≤(i:Int)∧(i:Int)<(((qC s a).length:Nat):Int)) (oc (by simp only [InK];omega:InK .u8 (((((qC s a).getD i 0).toNat:Nat):Int)-48)) (oi (((((qC s a).getD i 0).toNat:Nat):Int)-48) (by omega) (oi ((10*n)+(((((qC s a).getD i 0).toNat:Nat):Int)-48)) (by omega) oz)))))<|qZ<|qQ qD [] [.k4,.d,.n,.r] [ps 6 (iv (((i:Nat):Int)+1))] (oi (((i:Nat):Int)+1) (by omega) oz) ?_
   have hst:zx (g,n) ((qC s a).getD i 0)=(g,((10*n)+(((((qC s a).getD i 0).toNat:Nat):Int)-48))):=by unfold zx;rw [if_neg (by omega),if_pos (by dsimp only;omega)]
   exact qq ⟨(i+1,g,((10*n)+(((((qC s a).getD i 0).toNat:Nat):Int)-48))),⟨by show i+1≤(qC s a).length;omega,by rw [vk (by omega),hst] at hr;exact hr,by show (0:Int)≤((10*n)+(((((qC s a).getD i 0).toNat:Nat):Int)-48));omega,by show ((10*n)+(((((qC s a).getD i 0).toNat:Nat):Int)-48))≤655369;omega⟩⟩ (Wk.trans (Wk.eq (show _=[ps 0 (.opt 0 0),ps 3 (sv (st (qC s a))),ps 4 (iv ((10*n)+(((((qC s a).getD i 0).toNat:Nat):Int)-48))),ps 5 (bv g),ps 6 (nv (i+1)),pb 0 103 (r5 s (qA s a) 0 0 k)] from by rfl)) (Wk.ren2 _ 1 hc0 [0] rfl rfl (by kernel_rfl) (by kernel_rfl))) (show (qC s a).length-(i+1)<(qC s a).length-i from by show (qC s a).length-(i+1)<(qC s a).length-i;omega)
  refine qR (qV h20)<|qF<|qZ<|qQ qD [] [.k4,.d,.n,.d,.r] [ps 6 (iv (((i:Nat):Int)+1))] (oi (((i:Nat):Int)+1) (by omega) oz) ?_
  have hst:zx (g,n) ((qC s a).getD i 0)=(g,n):=by unfold zx;rw [if_neg (by omega),if_neg (by dsimp only;omega)]
  exact qq ⟨(i+1,g,n),⟨by show i+1≤(qC s a).length;omega,by rw [vk (by omega),hst] at hr;exact hr,by show (0:Int)≤n;omega,by show n≤655369;omega⟩⟩ (Wk.trans (Wk.eq (show _=[ps 0 (.opt 0 0),ps 3 (sv (st (qC s a))),ps 4 (iv n),ps 5 (bv g),ps 6 (nv (i+1)),pb 0 103 (r5 s (qA s a) 0 0 k)] from by rfl)) (Wk.ren2 _ 1 hc0 [0] rfl rfl (by kernel_rfl) (by kernel_rfl))) (show (qC s a).length-(i+1)<(qC s a).length-i from by show (qC s a).length-(i+1)<(qC s a).length-i;omega)
 refine qR (qV h17)<|zI rfl rfl<|qB<|qB ?_
 have hnw:jY (qC s a)=(g,n):=by rw [← hr,List.drop_eq_nil_of_le (by omega)];rfl
 have hR:=numW_R s a
 rw [hnw] at hR
 refine qH qD [.k3,.d,.d,.d,.n,.r] [ps 49 (bv (!g))] ?_
 by_cases h21:g=true
 ·refine qR (congrArg Bool.not h21)<|qF<|qB<|qB ?_
  by_cases h22:n<1
  ·refine qQ qD (gy 3 2++[(5,.yes true)]) [.k3,.d,.n,.r] [ps 57 (bv true)] (on 3 (qT h22) oz)<|qL (b:=true) rfl rfl<|qB<|QB qD 1 [pb 0 103 (yz s (qA s a) 3 (qA s a) k)] (zY [0] 105 (yy s (qA s a) k 3) oz)<|qB<|qH qD [.n,.r] [ps 2 (iv 0)] ?_
   rw [show qE s a=(3,0,qA s a) from hR.2.1 h21 (by omega),if_neg (by show ¬ ((3:Int)=0);decide),if_neg (by show ¬ ((3:Int)=0);decide)]
   exact qk hc0 [2] [0] (hbk:=by exact oc rfl (oz))
  refine qQ qD (gn 3 2++[(5,.yes false)]) [.k3,.d,.n,.r] [ps 57 (bv (decide (65536<n)))] (on 3 (qV h22) oz) ?_
  by_cases h23:65536<n
  ·refine qS (qT h23)<|qB<|QB qD 1 [pb 0 103 (yz s (qA s a) 3 (qA s a) k)] (zY [0] 105 (yy s (qA s a) k 3) oz)<|qB<|qH qD [.n,.r] [ps 2 (iv 0)] ?_
   rw [show qE s a=(3,0,qA s a) from hR.2.1 h21 (by omega),if_neg (by show ¬ ((3:Int)=0);decide),if_neg (by show ¬ ((3:Int)=0);decide)]
   exact qk hc0 [2] [0] (hbk:=by exact oc rfl (oz))
  refine qR (qV h23)<|qF<|qB<|qB<|zC qD 1 [.k3,.d,.n,.r] [ps 61 (bv true)] (zY [0] 105 (jS s (qA s a) k) oz)<|qL (b:=true) rfl rfl<|zD qD [] [ps 4 (iv n),pb 0 103 [(sv (st s)),(iv (((qA s a:Nat):Int)+(((qC s a).length:Nat):Int))),(iv 0),(iv 0),(iv k)]] (oi (((qA s a:Nat):Int)+(((qC s a).length:Nat):Int)) (by omega) oz)<|qj (Wk.eq (show _=[ps 4 (iv n),pb 0 103 (r5 s (qA s a+(qC s a).length) 0 0 k)] from by rfl)) ?_
  refine qB<|qH qD [.n,.d,.r] [ps 2 (iv n)] ?_
  rw [show qE s a=(0,n,qA s a+(qC s a).length) from hR.2.2 h21 (by omega),if_pos rfl,if_pos rfl]
  exact qk hc0 [2] [0] (hbk:=by exact oc rfl (oz))
 refine qS (congrArg Bool.not (Bool.eq_false_iff.2 h21))<|qB<|QB qD 1 [pb 0 103 (yz s (qA s a) 2 (qA s a) k)] (zY [0] 57 (yy s (qA s a) k 2) oz)<|qB<|qH qD [.n,.r] [ps 2 (iv 0)] ?_
 rw [show qE s a=(2,0,qA s a) from hR.1 (eq_false_of_ne_true h21),if_neg (by show ¬ ((2:Int)=0);decide),if_neg (by show ¬ ((2:Int)=0);decide)]
 exact qk hc0 [2] [0] (hbk:=by exact oc rfl (oz))
def vC (w:zX):Int:=if (jY w).1=true then (if (jY w).2<1∨65536<(jY w).2 then 0 else (jY w).2) else 0
theorem qjg (s:zX) (a:Nat) (k:Int) (hs:s.length≤65536) (ha:a≤s.length) (e:Int) (he:¬ e=0):PC Tryz.prog 45 [(.opt 0 0)] [some (103,(yz s a e a k))] (iv (vC (qK s a))) [some (103,(yz s a e a k))]:=by
 refine zG Tryz.func45 rfl (by kernel_rfl) (Nat.le_of_ble_eq_true rfl) (by kernel_rfl) (l0:=[ps 0 (.opt 0 0),pb 0 103 (yz s a e a k)]) rfl (fun c0 Bor hc0=>?_)
 refine qB<|qH qD [.r] []<|qB<|zC qD 1 [.k1,.n,.r] [ps 3 (sv (st (qK s a)))] (zY [0] 17 (qcd s a k hs (by omega) e he) oz)<|qB ?_
 by_cases h1:0<(((qK s a).length:Nat):Int)
 ·by_cases h2:(((qK s a).length:Nat):Int)=1
  ·refine wC qD (gy 4 7++[(11,.gd true (.yes true)),(12,.yes true)]) (VB [(0,0),(0,1),(0,2),(0,3),(0,4),(0,5),(0,6),(0,7),(0,8),(0,9),(0,10),(0,11),(0,12),(0,8),(0,14)]) [([18],[6]),([20],[18]),([22],[20]),([24],[22]),([26],[6,24]),([28],[24,26]),([30],[24,28]),([32],[24,30]),([34],[32]),([36],[32]),([38],[32]),([40],[24,32,38]),([42],[24,40]),([8],[]),([10],[42])] [.k2,.n,.n,.r] [ps 4 (iv 0),ps 5 (bv true)] (on 4 (qT h1) (on 3 (qT h2) (oc (qT h1) (oc (qT h2) (oc (qT h1) oz)))))<|qB<|qB<|qH qD [.k4,.n,.r] [ps 6 (iv 0)]<|qX ?_
   have hwl:=WN ha
   have hg0:g0N (qK s a)=true:=qT (by omega)
   refine zy (α:={x:Nat × Bool × Int // x.1≤(qK s a).length∧((qK s a).drop x.1).foldl zx (x.2.1,x.2.2)=jY (qK s a)∧0≤x.2.2∧x.2.2≤655369}) (fun x=>[ps 0 (.opt 0 0),ps 3 (sv (st (qK s a))),ps 4 (iv x.1.2.2),ps 5 (bv x.1.2.1),ps 6 (nv x.1.1),pb 0 103 (yz s a e a k)]) (fun x=>(qK s a).length-x.1.1) 1 ⟨(0,true,0),⟨Nat.zero_le _,by rw [← hg0];rfl,by show (0:Int)≤0;decide,by show (0:Int)≤655369;decide⟩⟩ (Wk.ren2 _ 1 hc0 [0] rfl rfl (by kernel_rfl) (by kernel_rfl)) ?_
   rintro ⟨⟨i,g,n⟩,⟨hi,hr,hn0,hn1⟩⟩
   dsimp only at hi hr hn0 hn1
   refine qB<|qB<|zD qD [] [ps 0 (.opt 0 0),ps 3 (sv (st (qK s a))),ps 4 (iv n),ps 5 (bv g),ps 6 (nv i),ps 25 (bv (decide (((i:Nat):Int)<(((qK s a).length:Nat):Int)))),pb 0 103 (yz s a e a k)] (oz) ?_
   by_cases h3:(i:Int)<(((qK s a).length:Nat):Int)
   ·refine qS (qT h3)<|qF<|qB<|qX<|qB ?_
    by_cases h4:((((qK s a).getD i 0).toNat:Nat):Int)<48
    ·refine qQ qD (gy 5 4++[(9,.yes true)]) [.k5,.d,.n,.r] [ps 37 (bv true)] (oc (by first|omega|(simp <;> omega):(0:Int)≤(i:Int)∧(i:Int)<(((qK s a).length:Nat):Int)) (on 5 (qT h4) oz))<|qL (b:=true) rfl rfl<|qH qD [.k3,.d,.n,.k1,.d,.r] [ps 5 (bv false)]<|qZ<|qQ qD [] [.k4,.d,.n,.r] [ps 6 (iv (((i:Nat):Int)+1))] (oi (((i:Nat):Int)+1) (by omega) oz) ?_
     have hst:zx (g,n) ((qK s a).getD i 0)=(false,n):=by unfold zx;rw [if_pos (by omega)]
     exact qq ⟨(i+1,false,n),⟨by show i+1≤(qK s a).length;omega,by rw [vk (by omega),hst] at hr;exact hr,by show (0:Int)≤n;omega,by show n≤655369;omega⟩⟩ (Wk.trans (Wk.eq (show _=[ps 0 (.opt 0 0),ps 3 (sv (st (qK s a))),ps 4 (iv n),ps 5 (bv false),ps 6 (nv (i+1)),pb 0 103 (yz s a e a k)] from by rfl)) (Wk.ren2 _ 1 hc0 [0] rfl rfl (by kernel_rfl) (by kernel_rfl))) (show (qK s a).length-(i+1)<(qK s a).length-i from by show (qK s a).length-(i+1)<(qK s a).length-i;omega)
    refine qQ qD (gn 5 4++[(9,.yes false)]) [.k5,.d,.n,.r] [ps 37 (bv (decide (57<((((qK s a).getD i 0).toNat:Nat):Int))))] (oc (by first|omega|(simp <;> omega):(0:Int)≤(i:Int)∧(i:Int)<(((qK s a).length:Nat):Int)) (on 3 (qV h4) (oc (by first|omega|(simp <;> omega):(0:Int)≤(i:Int)∧(i:Int)<(((qK s a).length:Nat):Int)) (on 2 (qV h4) oz)))) ?_
    by_cases h5:57<((((qK s a).getD i 0).toNat:Nat):Int)
    ·refine qS (qT h5)<|qH qD [.k3,.d,.n,.k1,.d,.r] [ps 5 (bv false)]<|qZ<|qQ qD [] [.k4,.d,.n,.r] [ps 6 (iv (((i:Nat):Int)+1))] (oi (((i:Nat):Int)+1) (by omega) oz) ?_
     have hst:zx (g,n) ((qK s a).getD i 0)=(false,n):=by unfold zx;rw [if_pos (by omega)]
     exact qq ⟨(i+1,false,n),⟨by show i+1≤(qK s a).length;omega,by rw [vk (by omega),hst] at hr;exact hr,by show (0:Int)≤n;omega,by show n≤655369;omega⟩⟩ (Wk.trans (Wk.eq (show _=[ps 0 (.opt 0 0),ps 3 (sv (st (qK s a))),ps 4 (iv n),ps 5 (bv false),ps 6 (nv (i+1)),pb 0 103 (yz s a e a k)] from by rfl)) (Wk.ren2 _ 1 hc0 [0] rfl rfl (by kernel_rfl) (by kernel_rfl))) (show (qK s a).length-(i+1)<(qK s a).length-i from by show (qK s a).length-(i+1)<(qK s a).length-i;omega)
    refine qR (qV h5)<|qB<|qH qD [.k5,.d,.n,.r] [ps 39 (bv (decide (n≤65536)))] ?_
    by_cases h6:n≤65536
    ·refine qS (qT h6)<|qQ qD [] [.k2,.d,.n,.k2,.d,.r] [ps 4 (iv ((10*n)+(((((qK s a).getD i 0).toNat:Nat):Int)-48)))] (oi (10*n) (by omega) (oc (by first|omega|(simp <;> omega):(0:Int)≤(i:Int)∧(i:Int)<(((qK s a).length:Nat):Int)) (oc (by simp only [InK];omega:InK .u8 (((((qK s a).getD i 0).toNat:Nat):Int)-48)) (oi (((((qK s a).getD i 0).toNat:Nat):Int)-48) (by omega) (oi ((10*n)+(((((qK s a).getD i 0).toNat:Nat):Int)-48)) (by omega) oz)))))<|qZ<|qQ qD [] [.k4,.d,.n,.r] [ps 6 (iv (((i:Nat):Int)+1))] (oi (((i:Nat):Int)+1) (by omega) oz) ?_
     have hst:zx (g,n) ((qK s a).getD i 0)=(g,((10*n)+(((((qK s a).getD i 0).toNat:Nat):Int)-48))):=by unfold zx;rw [if_neg (by omega),if_pos (by dsimp only;omega)]
     exact qq ⟨(i+1,g,((10*n)+(((((qK s a).getD i 0).toNat:Nat):Int)-48))),⟨by show i+1≤(qK s a).length;omega,by rw [vk (by omega),hst] at hr;exact hr,by show (0:Int)≤((10*n)+(((((qK s a).getD i 0).toNat:Nat):Int)-48));omega,by show ((10*n)+(((((qK s a).getD i 0).toNat:Nat):Int)-48))≤655369;omega⟩⟩ (Wk.trans (Wk.eq (show _=[ps 0 (.opt 0 0),ps 3 (sv (st (qK s a))),ps 4 (iv ((10*n)+(((((qK s a).getD i 0).toNat:Nat):Int)-48))),ps 5 (bv g),ps 6 (nv (i+1)),pb 0 103 (yz s a e a k)] from by rfl)) (Wk.ren2 _ 1 hc0 [0] rfl rfl (by kernel_rfl) (by kernel_rfl))) (show (qK s a).length-(i+1)<(qK s a).length-i from by show (qK s a).length-(i+1)<(qK s a).length-i;omega)
    refine qR (qV h6)<|qF<|qZ<|qQ qD [] [.k4,.d,.n,.d,.r] [ps 6 (iv (((i:Nat):Int)+1))] (oi (((i:Nat):Int)+1) (by omega) oz) ?_
    have hst:zx (g,n) ((qK s a).getD i 0)=(g,n):=by unfold zx;rw [if_neg (by omega),if_neg (by dsimp only;omega)]
    exact qq ⟨(i+1,g,n),⟨by show i+1≤(qK s a).length;omega,by rw [vk (by omega),hst] at hr;exact hr,by show (0:Int)≤n;omega,by show n≤655369;omega⟩⟩ (Wk.trans (Wk.eq (show _=[ps 0 (.opt 0 0),ps 3 (sv (st (qK s a))),ps 4 (iv n),ps 5 (bv g),ps 6 (nv (i+1)),pb 0 103 (yz s a e a k)] from by rfl)) (Wk.ren2 _ 1 hc0 [0] rfl rfl (by kernel_rfl) (by kernel_rfl))) (show (qK s a).length-(i+1)<(qK s a).length-i from by show (qK s a).length-(i+1)<(qK s a).length-i;omega)
   refine qR (qV h3)<|zI rfl rfl<|qB<|qB ?_
   have hnw:jY (qK s a)=(g,n):=by rw [← hr,List.drop_eq_nil_of_le (by omega)];rfl
   refine qH qD [.k3,.d,.d,.d,.n,.r] [ps 49 (bv (!g))] ?_
   by_cases h7:g=true
   ·refine qR (congrArg Bool.not h7)<|qF<|qB<|qB ?_
    by_cases h8:n<1
    ·refine qQ qD (gy 3 2++[(5,.yes true)]) [.k3,.d,.n,.r] [ps 57 (bv true)] (on 3 (qT h8) oz)<|qL (b:=true) rfl rfl<|qB<|zC qD 1 [.d,.d,.d,.d,.r] [] (zY [0] 105 (jO s a k 3 e he) oz)<|qB<|qH qD [.n,.r] [ps 2 (iv 0)] ?_
     rw [show vC (qK s a)=0 from by unfold vC;rw [if_pos (by rw [hnw];exact h7),if_pos (by rw [hnw];dsimp only;omega)]]
     exact qk hc0 [2] [0] (hbk:=by exact oc rfl (oz))
    refine qQ qD (gn 3 2++[(5,.yes false)]) [.k3,.d,.n,.r] [ps 57 (bv (decide (65536<n)))] (on 3 (qV h8) oz) ?_
    by_cases h9:65536<n
    ·refine qS (qT h9)<|qB<|zC qD 1 [.d,.d,.d,.d,.r] [] (zY [0] 105 (jO s a k 3 e he) oz)<|qB<|qH qD [.n,.r] [ps 2 (iv 0)] ?_
     rw [show vC (qK s a)=0 from by unfold vC;rw [if_pos (by rw [hnw];exact h7),if_pos (by rw [hnw];dsimp only;omega)]]
     exact qk hc0 [2] [0] (hbk:=by exact oc rfl (oz))
    refine qR (qV h9)<|qF<|qB<|qB<|zC qD 1 [.k3,.d,.n,.r] [ps 61 (bv false)] (zY [0] 105 (wG s a k e he) oz)<|qO (b:=false) rfl rfl<|qF<|qB<|qH qD [.d,.n,.d,.d,.d,.r] [ps 2 (iv n)] ?_
    rw [show vC (qK s a)=n from by unfold vC;rw [if_pos (by rw [hnw];exact h7),if_neg (by rw [hnw];dsimp only;omega),hnw]]
    exact qk hc0 [2] [0] (hbk:=by exact oc rfl (oz))
   refine qS (congrArg Bool.not (Bool.eq_false_iff.2 h7))<|qB<|zC qD 1 [.d,.d,.d,.d,.r] [] (zY [0] 57 (jO s a k 2 e he) oz)<|qB<|qH qD [.n,.r] [ps 2 (iv 0)] ?_
   rw [show vC (qK s a)=0 from by unfold vC;rw [if_neg (by rw [hnw];exact h7)]]
   exact qk hc0 [2] [0] (hbk:=by exact oc rfl (oz))
  refine wC qD (gy 4 4++gn 8 3++[(11,.gd true (.yes false)),(12,.yes true)]) (VB [(0,0),(0,1),(0,2),(0,3),(0,4),(0,5),(0,6),(0,7),(0,8),(0,9),(0,10),(0,11),(0,12),(0,8),(0,14)]) [([18],[6]),([20],[18]),([22],[20]),([24],[22]),([26],[6,24]),([28],[24,26]),([30],[24,28]),([32],[24,30]),([34],[6,32]),([36],[32,34]),([38],[32,36]),([40],[24,32,38]),([42],[24,40]),([8],[]),([10],[42])] [.k2,.n,.n,.r] [ps 4 (iv 0),ps 5 (bv (!(decide (((((qK s a).getD 0 0).toNat:Nat):Int)=48))))] (on 4 (qT h1) (on 2 (qV h2) (oc (by first|omega|(simp <;> omega):(0:Int)≤0∧0<(((qK s a).length:Nat):Int)) (oc (qV h2) (oc (qT h1) (oc (qV h2) (oc (qT h1) oz)))))))<|qB<|qB<|qH qD [.k4,.n,.r] [ps 6 (iv 0)]<|qX ?_
  have hwl:=WN ha
  have hg0:g0N (qK s a)=(!(decide (((((qK s a).getD 0 0).toNat:Nat):Int)=48))):=by unfold g0N;rw [Bool.eq_iff_iff];simp only [decide_eq_true_eq,Bool.not_eq_true',decide_eq_false_iff_not];omega
  refine zy (α:={x:Nat × Bool × Int // x.1≤(qK s a).length∧((qK s a).drop x.1).foldl zx (x.2.1,x.2.2)=jY (qK s a)∧0≤x.2.2∧x.2.2≤655369}) (fun x=>[ps 0 (.opt 0 0),ps 3 (sv (st (qK s a))),ps 4 (iv x.1.2.2),ps 5 (bv x.1.2.1),ps 6 (nv x.1.1),pb 0 103 (yz s a e a k)]) (fun x=>(qK s a).length-x.1.1) 1 ⟨(0,(!(decide (((((qK s a).getD 0 0).toNat:Nat):Int)=48))),0),⟨Nat.zero_le _,by rw [← hg0];rfl,by show (0:Int)≤0;decide,by show (0:Int)≤655369;decide⟩⟩ (Wk.ren2 _ 1 hc0 [0] rfl rfl (by kernel_rfl) (by kernel_rfl)) ?_
  rintro ⟨⟨i,g,n⟩,⟨hi,hr,hn0,hn1⟩⟩
  dsimp only at hi hr hn0 hn1
  refine qB<|qB<|zD qD [] [ps 0 (.opt 0 0),ps 3 (sv (st (qK s a))),ps 4 (iv n),ps 5 (bv g),ps 6 (nv i),ps 25 (bv (decide (((i:Nat):Int)<(((qK s a).length:Nat):Int)))),pb 0 103 (yz s a e a k)] (oz) ?_
  by_cases h10:(i:Int)<(((qK s a).length:Nat):Int)
  ·refine qS (qT h10)<|qF<|qB<|qX<|qB ?_
   by_cases h11:((((qK s a).getD i 0).toNat:Nat):Int)<48
   ·refine qQ qD (gy 5 4++[(9,.yes true)]) [.k5,.d,.n,.r] [ps 37 (bv true)] (oc (by first|omega|(simp <;> omega):(0:Int)≤(i:Int)∧(i:Int)<(((qK s a).length:Nat):Int)) (on 5 (qT h11) oz))<|qL (b:=true) rfl rfl<|qH qD [.k3,.d,.n,.k1,.d,.r] [ps 5 (bv false)]<|qZ<|qQ qD [] [.k4,.d,.n,.r] [ps 6 (iv (((i:Nat):Int)+1))] (oi (((i:Nat):Int)+1) (by omega) oz) ?_
    have hst:zx (g,n) ((qK s a).getD i 0)=(false,n):=by unfold zx;rw [if_pos (by omega)]
    exact qq ⟨(i+1,false,n),⟨by show i+1≤(qK s a).length;omega,by rw [vk (by omega),hst] at hr;exact hr,by show (0:Int)≤n;omega,by show n≤655369;omega⟩⟩ (Wk.trans (Wk.eq (show _=[ps 0 (.opt 0 0),ps 3 (sv (st (qK s a))),ps 4 (iv n),ps 5 (bv false),ps 6 (nv (i+1)),pb 0 103 (yz s a e a k)] from by rfl)) (Wk.ren2 _ 1 hc0 [0] rfl rfl (by kernel_rfl) (by kernel_rfl))) (show (qK s a).length-(i+1)<(qK s a).length-i from by show (qK s a).length-(i+1)<(qK s a).length-i;omega)
   refine qQ qD (gn 5 4++[(9,.yes false)]) [.k5,.d,.n,.r] [ps 37 (bv (decide (57<((((qK s a).getD i 0).toNat:Nat):Int))))] (oc (by first|omega|(simp <;> omega):(0:Int)≤(i:Int)∧(i:Int)<(((qK s a).length:Nat):Int)) (on 3 (qV h11) (oc (by first|omega|(simp <;> omega):(0:Int)≤(i:Int)∧(i:Int)<(((qK s a).length:Nat):Int)) (on 2 (qV h11) oz)))) ?_
   by_cases h12:57<((((qK s a).getD i 0).toNat:Nat):Int)
   ·refine qS (qT h12)<|qH qD [.k3,.d,.n,.k1,.d,.r] [ps 5 (bv false)]<|qZ<|qQ qD [] [.k4,.d,.n,.r] [ps 6 (iv (((i:Nat):Int)+1))] (oi (((i:Nat):Int)+1) (by omega) oz) ?_
    have hst:zx (g,n) ((qK s a).getD i 0)=(false,n):=by unfold zx;rw [if_pos (by omega)]
    exact qq ⟨(i+1,false,n),⟨by show i+1≤(qK s a).length;omega,by rw [vk (by omega),hst] at hr;exact hr,by show (0:Int)≤n;omega,by show n≤655369;omega⟩⟩ (Wk.trans (Wk.eq (show _=[ps 0 (.opt 0 0),ps 3 (sv (st (qK s a))),ps 4 (iv n),ps 5 (bv false),ps 6 (nv (i+1)),pb 0 103 (yz s a e a k)] from by rfl)) (Wk.ren2 _ 1 hc0 [0] rfl rfl (by kernel_rfl) (by kernel_rfl))) (show (qK s a).length-(i+1)<(qK s a).length-i from by show (qK s a).length-(i+1)<(qK s a).length-i;omega)
   refine qR (qV h12)<|qB<|qH qD [.k5,.d,.n,.r] [ps 39 (bv (decide (n≤65536)))] ?_
   by_cases h13:n≤65536
   ·refine qS (qT h13)<|qQ qD [] [.k2,.d,.n,.k2,.d,.r] [ps 4 (iv ((10*n)+(((((qK s a).getD i 0).toNat:Nat):Int)-48)))] (oi (10*n) (by omega) (oc (by first|omega|(simp <;> omega):(0:Int)≤(i:Int)∧(i:Int)<(((qK s a).length:Nat):Int)) (oc (by simp only [InK];omega:InK .u8 (((((qK s a).getD i 0).toNat:Nat):Int)-48)) (oi (((((qK s a).getD i 0).toNat:Nat):Int)-48) (by omega) (oi ((10*n)+(((((qK s a).getD i 0).toNat:Nat):Int)-48)) (by omega) oz)))))<|qZ<|qQ qD [] [.k4,.d,.n,.r] [ps 6 (iv (((i:Nat):Int)+1))] (oi (((i:Nat):Int)+1) (by omega) oz) ?_
    have hst:zx (g,n) ((qK s a).getD i 0)=(g,((10*n)+(((((qK s a).getD i 0).toNat:Nat):Int)-48))):=by unfold zx;rw [if_neg (by omega),if_pos (by dsimp only;omega)]
    exact qq ⟨(i+1,g,((10*n)+(((((qK s a).getD i 0).toNat:Nat):Int)-48))),⟨by show i+1≤(qK s a).length;omega,by rw [vk (by omega),hst] at hr;exact hr,by show (0:Int)≤((10*n)+(((((qK s a).getD i 0).toNat:Nat):Int)-48));omega,by show ((10*n)+(((((qK s a).getD i 0).toNat:Nat):Int)-48))≤655369;omega⟩⟩ (Wk.trans (Wk.eq (show _=[ps 0 (.opt 0 0),ps 3 (sv (st (qK s a))),ps 4 (iv ((10*n)+(((((qK s a).getD i 0).toNat:Nat):Int)-48))),ps 5 (bv g),ps 6 (nv (i+1)),pb 0 103 (yz s a e a k)] from by rfl)) (Wk.ren2 _ 1 hc0 [0] rfl rfl (by kernel_rfl) (by kernel_rfl))) (show (qK s a).length-(i+1)<(qK s a).length-i from by show (qK s a).length-(i+1)<(qK s a).length-i;omega)
   refine qR (qV h13)<|qF<|qZ<|qQ qD [] [.k4,.d,.n,.d,.r] [ps 6 (iv (((i:Nat):Int)+1))] (oi (((i:Nat):Int)+1) (by omega) oz) ?_
   have hst:zx (g,n) ((qK s a).getD i 0)=(g,n):=by unfold zx;rw [if_neg (by omega),if_neg (by dsimp only;omega)]
   exact qq ⟨(i+1,g,n),⟨by show i+1≤(qK s a).length;omega,by rw [vk (by omega),hst] at hr;exact hr,by show (0:Int)≤n;omega,by show n≤655369;omega⟩⟩ (Wk.trans (Wk.eq (show _=[ps 0 (.opt 0 0),ps 3 (sv (st (qK s a))),ps 4 (iv n),ps 5 (bv g),ps 6 (nv (i+1)),pb 0 103 (yz s a e a k)] from by rfl)) (Wk.ren2 _ 1 hc0 [0] rfl rfl (by kernel_rfl) (by kernel_rfl))) (show (qK s a).length-(i+1)<(qK s a).length-i from by show (qK s a).length-(i+1)<(qK s a).length-i;omega)
  refine qR (qV h10)<|zI rfl rfl<|qB<|qB ?_
  have hnw:jY (qK s a)=(g,n):=by rw [← hr,List.drop_eq_nil_of_le (by omega)];rfl
  refine qH qD [.k3,.d,.d,.d,.n,.r] [ps 49 (bv (!g))] ?_
  by_cases h14:g=true
  ·refine qR (congrArg Bool.not h14)<|qF<|qB<|qB ?_
   by_cases h15:n<1
   ·refine qQ qD (gy 3 2++[(5,.yes true)]) [.k3,.d,.n,.r] [ps 57 (bv true)] (on 3 (qT h15) oz)<|qL (b:=true) rfl rfl<|qB<|zC qD 1 [.d,.d,.d,.d,.r] [] (zY [0] 105 (jO s a k 3 e he) oz)<|qB<|qH qD [.n,.r] [ps 2 (iv 0)] ?_
    rw [show vC (qK s a)=0 from by unfold vC;rw [if_pos (by rw [hnw];exact h14),if_pos (by rw [hnw];dsimp only;omega)]]
    exact qk hc0 [2] [0] (hbk:=by exact oc rfl (oz))
   refine qQ qD (gn 3 2++[(5,.yes false)]) [.k3,.d,.n,.r] [ps 57 (bv (decide (65536<n)))] (on 3 (qV h15) oz) ?_
   by_cases h16:65536<n
   ·refine qS (qT h16)<|qB<|zC qD 1 [.d,.d,.d,.d,.r] [] (zY [0] 105 (jO s a k 3 e he) oz)<|qB<|qH qD [.n,.r] [ps 2 (iv 0)] ?_
    rw [show vC (qK s a)=0 from by unfold vC;rw [if_pos (by rw [hnw];exact h14),if_pos (by rw [hnw];dsimp only;omega)]]
    exact qk hc0 [2] [0] (hbk:=by exact oc rfl (oz))
   refine qR (qV h16)<|qF<|qB<|qB<|zC qD 1 [.k3,.d,.n,.r] [ps 61 (bv false)] (zY [0] 105 (wG s a k e he) oz)<|qO (b:=false) rfl rfl<|qF<|qB<|qH qD [.d,.n,.d,.d,.d,.r] [ps 2 (iv n)] ?_
   rw [show vC (qK s a)=n from by unfold vC;rw [if_pos (by rw [hnw];exact h14),if_neg (by rw [hnw];dsimp only;omega),hnw]]
   exact qk hc0 [2] [0] (hbk:=by exact oc rfl (oz))
  refine qS (congrArg Bool.not (Bool.eq_false_iff.2 h14))<|qB<|zC qD 1 [.d,.d,.d,.d,.r] [] (zY [0] 57 (jO s a k 2 e he) oz)<|qB<|qH qD [.n,.r] [ps 2 (iv 0)] ?_
  rw [show vC (qK s a)=0 from by unfold vC;rw [if_neg (by rw [hnw];exact h14)]]
  exact qk hc0 [2] [0] (hbk:=by exact oc rfl (oz))
 refine wC qD (gn 4 4++[(11,.gd false .no),(12,.yes false)]) (VB [(0,0),(0,1),(0,2),(0,3),(0,4),(0,5),(0,6),(0,7),(0,8),(0,9),(0,10),(0,11),(0,12),(0,8),(0,14)]) [([18],[6]),([20],[18]),([22],[20]),([24],[22]),([26],[24]),([28],[24]),([30],[24]),([32],[24]),([34],[32]),([36],[32]),([38],[32]),([40],[24]),([42],[24,40]),([8],[]),([10],[42])] [.k2,.n,.n,.r] [ps 4 (iv 0),ps 5 (bv false)] (on 6 (qV h1) oz)<|qB<|qB<|qH qD [.k4,.n,.r] [ps 6 (iv 0)]<|qX ?_
 have hwl:=WN ha
 have hg0:g0N (qK s a)=false:=qV (by omega)
 refine zy (α:={x:Nat × Bool × Int // x.1≤(qK s a).length∧((qK s a).drop x.1).foldl zx (x.2.1,x.2.2)=jY (qK s a)∧0≤x.2.2∧x.2.2≤655369}) (fun x=>[ps 0 (.opt 0 0),ps 3 (sv (st (qK s a))),ps 4 (iv x.1.2.2),ps 5 (bv x.1.2.1),ps 6 (nv x.1.1),pb 0 103 (yz s a e a k)]) (fun x=>(qK s a).length-x.1.1) 1 ⟨(0,false,0),⟨Nat.zero_le _,by rw [← hg0];rfl,by show (0:Int)≤0;decide,by show (0:Int)≤655369;decide⟩⟩ (Wk.ren2 _ 1 hc0 [0] rfl rfl (by kernel_rfl) (by kernel_rfl)) ?_
 rintro ⟨⟨i,g,n⟩,⟨hi,hr,hn0,hn1⟩⟩
 dsimp only at hi hr hn0 hn1
 refine qB<|qB<|zD qD [] [ps 0 (.opt 0 0),ps 3 (sv (st (qK s a))),ps 4 (iv n),ps 5 (bv g),ps 6 (nv i),ps 25 (bv (decide (((i:Nat):Int)<(((qK s a).length:Nat):Int)))),pb 0 103 (yz s a e a k)] (oz) ?_
 by_cases h17:(i:Int)<(((qK s a).length:Nat):Int)
 ·refine qS (qT h17)<|qF<|qB<|qX<|qB ?_
  by_cases h18:((((qK s a).getD i 0).toNat:Nat):Int)<48
  ·refine qQ qD (gy 5 4++[(9,.yes true)]) [.k5,.d,.n,.r] [ps 37 (bv true)] (oc (by first|omega|(simp <;> omega):(0:Int)≤(i:Int)∧(i:Int)<(((qK s a).length:Nat):Int)) (on 5 (qT h18) oz))<|qL (b:=true) rfl rfl<|qH qD [.k3,.d,.n,.k1,.d,.r] [ps 5 (bv false)]<|qZ<|qQ qD [] [.k4,.d,.n,.r] [ps 6 (iv (((i:Nat):Int)+1))] (oi (((i:Nat):Int)+1) (by omega) oz) ?_
   have hst:zx (g,n) ((qK s a).getD i 0)=(false,n):=by unfold zx;rw [if_pos (by omega)]
   exact qq ⟨(i+1,false,n),⟨by show i+1≤(qK s a).length;omega,by rw [vk (by omega),hst] at hr;exact hr,by show (0:Int)≤n;omega,by show n≤655369;omega⟩⟩ (Wk.trans (Wk.eq (show _=[ps 0 (.opt 0 0),ps 3 (sv (st (qK s a))),ps 4 (iv n),ps 5 (bv false),ps 6 (nv (i+1)),pb 0 103 (yz s a e a k)] from by rfl)) (Wk.ren2 _ 1 hc0 [0] rfl rfl (by kernel_rfl) (by kernel_rfl))) (show (qK s a).length-(i+1)<(qK s a).length-i from by show (qK s a).length-(i+1)<(qK s a).length-i;omega)
  refine qQ qD (gn 5 4++[(9,.yes false)]) [.k5,.d,.n,.r] [ps 37 (bv (decide (57<((((qK s a).getD i 0).toNat:Nat):Int))))] (oc (by first|omega|(simp <;> omega):(0:Int)≤(i:Int)∧(i:Int)<(((qK s a).length:Nat):Int)) (on 3 (qV h18) (oc (by first|omega|(simp <;> omega):(0:Int)≤(i:Int)∧(i:Int)<(((qK s a).length:Nat):Int)) (on 2 (qV h18) oz)))) ?_
  by_cases h19:57<((((qK s a).getD i 0).toNat:Nat):Int)
  ·refine qS (qT h19)<|qH qD [.k3,.d,.n,.k1,.d,.r] [ps 5 (bv false)]<|qZ<|qQ qD [] [.k4,.d,.n,.r] [ps 6 (iv (((i:Nat):Int)+1))] (oi (((i:Nat):Int)+1) (by omega) oz) ?_
   have hst:zx (g,n) ((qK s a).getD i 0)=(false,n):=by unfold zx;rw [if_pos (by omega)]
   exact qq ⟨(i+1,false,n),⟨by show i+1≤(qK s a).length;omega,by rw [vk (by omega),hst] at hr;exact hr,by show (0:Int)≤n;omega,by show n≤655369;omega⟩⟩ (Wk.trans (Wk.eq (show _=[ps 0 (.opt 0 0),ps 3 (sv (st (qK s a))),ps 4 (iv n),ps 5 (bv false),ps 6 (nv (i+1)),pb 0 103 (yz s a e a k)] from by rfl)) (Wk.ren2 _ 1 hc0 [0] rfl rfl (by kernel_rfl) (by kernel_rfl))) (show (qK s a).length-(i+1)<(qK s a).length-i from by show (qK s a).length-(i+1)<(qK s a).length-i;omega)
  refine qR (qV h19)<|qB<|qH qD [.k5,.d,.n,.r] [ps 39 (bv (decide (n≤65536)))] ?_
  by_cases h20:n≤65536
  ·refine qS (qT h20)<|qQ qD [] [.k2,.d,.n,.k2,.d,.r] [ps 4 (iv ((10*n)+(((((qK s a).getD i 0).toNat:Nat):Int)-48)))] (oi (10*n) (by omega) (oc (by first|omega|(simp <;> omega):(0:Int)≤(i:Int)∧(i:Int)<(((qK s a).length:Nat):Int)) (oc (by simp only [InK];omega:InK .u8 (((((qK s a).getD i 0).toNat:Nat):Int)-48)) (oi (((((qK s a).getD i 0).toNat:Nat):Int)-48) (by omega) (oi ((10*n)+(((((qK s a).getD i 0).toNat:Nat):Int)-48)) (by omega) oz)))))<|qZ<|qQ qD [] [.k4,.d,.n,.r] [ps 6 (iv (((i:Nat):Int)+1))] (oi (((i:Nat):Int)+1) (by omega) oz) ?_
   have hst:zx (g,n) ((qK s a).getD i 0)=(g,((10*n)+(((((qK s a).getD i 0).toNat:Nat):Int)-48))):=by unfold zx;rw [if_neg (by omega),if_pos (by dsimp only;omega)]
   exact qq ⟨(i+1,g,((10*n)+(((((qK s a).getD i 0).toNat:Nat):Int)-48))),⟨by show i+1≤(qK s a).length;omega,by rw [vk (by omega),hst] at hr;exact hr,by show (0:Int)≤((10*n)+(((((qK s a).getD i 0).toNat:Nat):Int)-48));omega,by show ((10*n)+(((((qK s a).getD i 0).toNat:Nat):Int)-48))≤655369;omega⟩⟩ (Wk.trans (Wk.eq (show _=[ps 0 (.opt 0 0),ps 3 (sv (st (qK s a))),ps 4 (iv ((10*n)+(((((qK s a).getD i 0).toNat:Nat):Int)-48))),ps 5 (bv g),ps 6 (nv (i+1)),pb 0 103 (yz s a e a k)] from by rfl)) (Wk.ren2 _ 1 hc0 [0] rfl rfl (by kernel_rfl) (by kernel_rfl))) (show (qK s a).length-(i+1)<(qK s a).length-i from by show (qK s a).length-(i+1)<(qK s a).length-i;omega)
  refine qR (qV h20)<|qF<|qZ<|qQ qD [] [.k4,.d,.n,.d,.r] [ps 6 (iv (((i:Nat):Int)+1))] (oi (((i:Nat):Int)+1) (by omega) oz) ?_
  have hst:zx (g,n) ((qK s a).getD i 0)=(g,n):=by unfold zx;rw [if_neg (by omega),if_neg (by dsimp only;omega)]
  exact qq ⟨(i+1,g,n),⟨by show i+1≤(qK s a).length;omega,by rw [vk (by omega),hst] at hr;exact hr,by show (0:Int)≤n;omega,by show n≤655369;omega⟩⟩ (Wk.trans (Wk.eq (show _=[ps 0 (.opt 0 0),ps 3 (sv (st (qK s a))),ps 4 (iv n),ps 5 (bv g),ps 6 (nv (i+1)),pb 0 103 (yz s a e a k)] from by rfl)) (Wk.ren2 _ 1 hc0 [0] rfl rfl (by kernel_rfl) (by kernel_rfl))) (show (qK s a).length-(i+1)<(qK s a).length-i from by show (qK s a).length-(i+1)<(qK s a).length-i;omega)
 refine qR (qV h17)<|zI rfl rfl<|qB<|qB ?_
 have hnw:jY (qK s a)=(g,n):=by rw [← hr,List.drop_eq_nil_of_le (by omega)];rfl
 refine qH qD [.k3,.d,.d,.d,.n,.r] [ps 49 (bv (!g))] ?_
 by_cases h21:g=true
 ·refine qR (congrArg Bool.not h21)<|qF<|qB<|qB ?_
  by_cases h22:n<1
  ·refine qQ qD (gy 3 2++[(5,.yes true)]) [.k3,.d,.n,.r] [ps 57 (bv true)] (on 3 (qT h22) oz)<|qL (b:=true) rfl rfl<|qB<|zC qD 1 [.d,.d,.d,.d,.r] [] (zY [0] 105 (jO s a k 3 e he) oz)<|qB<|qH qD [.n,.r] [ps 2 (iv 0)] ?_
   rw [show vC (qK s a)=0 from by unfold vC;rw [if_pos (by rw [hnw];exact h21),if_pos (by rw [hnw];dsimp only;omega)]]
   exact qk hc0 [2] [0] (hbk:=by exact oc rfl (oz))
  refine qQ qD (gn 3 2++[(5,.yes false)]) [.k3,.d,.n,.r] [ps 57 (bv (decide (65536<n)))] (on 3 (qV h22) oz) ?_
  by_cases h23:65536<n
  ·refine qS (qT h23)<|qB<|zC qD 1 [.d,.d,.d,.d,.r] [] (zY [0] 105 (jO s a k 3 e he) oz)<|qB<|qH qD [.n,.r] [ps 2 (iv 0)] ?_
   rw [show vC (qK s a)=0 from by unfold vC;rw [if_pos (by rw [hnw];exact h21),if_pos (by rw [hnw];dsimp only;omega)]]
   exact qk hc0 [2] [0] (hbk:=by exact oc rfl (oz))
  refine qR (qV h23)<|qF<|qB<|qB<|zC qD 1 [.k3,.d,.n,.r] [ps 61 (bv false)] (zY [0] 105 (wG s a k e he) oz)<|qO (b:=false) rfl rfl<|qF<|qB<|qH qD [.d,.n,.d,.d,.d,.r] [ps 2 (iv n)] ?_
  rw [show vC (qK s a)=n from by unfold vC;rw [if_pos (by rw [hnw];exact h21),if_neg (by rw [hnw];dsimp only;omega),hnw]]
  exact qk hc0 [2] [0] (hbk:=by exact oc rfl (oz))
 refine qS (congrArg Bool.not (Bool.eq_false_iff.2 h21))<|qB<|zC qD 1 [.d,.d,.d,.d,.r] [] (zY [0] 57 (jO s a k 2 e he) oz)<|qB<|qH qD [.n,.r] [ps 2 (iv 0)] ?_
 rw [show vC (qK s a)=0 from by unfold vC;rw [if_neg (by rw [hnw];exact h21)]]
 exact qk hc0 [2] [0] (hbk:=by exact oc rfl (oz))
theorem qdi (s:zX) (a:Nat) (k:Int) (hs:s.length≤65536) (ha:a≤s.length):PC Tryz.prog 79 [(.opt 0 0)] [some (103,(r5 s a 0 0 k))] (if (qJ s a).1=0 then (.agg [(iv ((qJ s a).2.1.1)),(iv ((qJ s a).2.1.2.1)),(iv ((qJ s a).2.1.2.2))]) else (.agg [(iv ((qW (qC s a)).1.1)),(iv ((qW (qC s a)).1.2.1)),(iv ((qW (qC s a)).1.2.2))])) (if (qJ s a).1=0 then [some (103,(r5 s ((qJ s a).2.2) 0 0 k)),none] else [some (103,(yz s ((qJ s a).2.2) ((qJ s a).1) ((qJ s a).2.2) k)),none]):=by
 refine zG Tryz.func79 rfl (by kernel_rfl) (le_if (Nat.le_of_ble_eq_true rfl) (Nat.le_of_ble_eq_true rfl)) (by kernel_rfl) (l0:=[ps 0 (.opt 0 0),pb 0 103 (r5 s a 0 0 k)]) rfl (fun c0 Bor hc0=>?_)
 refine qB<|qH qD [.k1,.n,.k1,.n] [ps 2 (.opt 1 0),pb 1 52 [(iv 0),(iv 0),(iv 0)]]<|qB<|zC qD 1 [.k2,.n,.d,.n,.r] [ps 3 (sv (st (qC s a))),pb 0 103 (r5 s (qA s a) 0 0 k)] (zY [0] 17 (QG s a k hs (by omega)) oz)<|qB ?_
 have hwl:=yV ha
 have hga:=zR ha
 have hat:=qjd (qC s a)
 refine yC qD 1 [.k3,.n,.n,.k2,.n,.n] [ps 4 (.opt 73 0),ps 5 (.opt 81 0),pb 73 52 [(iv ((qW (qC s a)).1.1)),(iv ((qW (qC s a)).1.2.1)),(iv ((qW (qC s a)).1.2.2))],pb 81 33 [(iv ((qW (qC s a)).2.1)),(iv ((qW (qC s a)).2.2))]] (zO 41 (qcs (qC s a) (by omega)) oz)<|qB<|qB<|zC qD 1 [.k5,.n,.r] [ps 15 (bv false)] (zY [0] 113 (jS s (qA s a) k) oz)<|qO (b:=false) rfl rfl<|qF<|qB<|qB<|qH qD [.k5,.d,.n,.r] [ps 19 (bv (!(decide (((qW (qC s a)).2.1)=0))))] ?_
 by_cases h1:((qW (qC s a)).2.1)=0
 ·refine qR (bt h1)<|qF<|qB<|qQ qD [] [.d,.k1,.d,.k1,.d,.d,.d,.n,.k2,.d] [pb 0 103 [(sv (st s)),(iv (((qA s a:Nat):Int)+(((qC s a).length:Nat):Int))),(iv 0),(iv 0),(iv k)]] (oi (((qA s a:Nat):Int)+(((qC s a).length:Nat):Int)) (by omega) oz)<|qj (Wk.eq (show _=[ps 2 (.opt 1 0),ps 4 (.opt 73 0),pb 0 103 (r5 s (qA s a+(qC s a).length) 0 0 k),pb 1 52 [(iv 0),(iv 0),(iv 0)],pb 73 52 [(iv ((qW (qC s a)).1.1)),(iv ((qW (qC s a)).1.2.1)),(iv ((qW (qC s a)).1.2.2))]] from by rfl)) ?_
  refine qB<|qH qD [.k1,.d,.k1,.d,.n,.d] [pb 1 52 [(iv ((qW (qC s a)).1.1)),(iv ((qW (qC s a)).1.2.1)),(iv ((qW (qC s a)).1.2.2))]] ?_
  rw [show qJ s a=(0,(qW (qC s a)).1,qA s a+(qC s a).length) from if_pos h1,if_pos rfl,if_pos rfl]
  exact qk hc0 [2] [0,1] (hbk:=by exact oc rfl (oz))
 refine qS (bf h1)<|qB<|wC qD [] (VB [(0,0),(0,0),(1,1),(1,2),(1,3),(0,0),(5,1),(1,6),(0,8),(0,9),(0,10)]) [([40],[0]),([42],[0]),([44],[42]),([46],[44]),([48],[1,46]),([50],[10]),([52],[50,163]),([54],[48,52]),([56],[40]),([58],[56]),([1],[1,54,58])] [.k2,.d,.k2,.d,.d,.n,.r] [pb 0 103 [(sv (st s)),(iv (((qA s a:Nat):Int)+((qW (qC s a)).2.2))),(iv 0),(iv 0),(iv k)]] (oi (((qA s a:Nat):Int)+((qW (qC s a)).2.2)) (by omega) oz) ?_
 have hcs:(qA s a:Int)+(qW (qC s a)).2.2=((qA s a+(qW (qC s a)).2.2.toNat:Nat):Int):=by omega
 refine qj (Wk.eq (show _=[ps 0 (.opt 0 0),ps 2 (.opt 1 0),ps 4 (.opt 73 0),ps 5 (.opt 81 0),pb 0 103 (r5 s (qA s a+(qW (qC s a)).2.2.toNat) 0 0 k),pb 1 52 [(iv 0),(iv 0),(iv 0)],pb 73 52 [(iv ((qW (qC s a)).1.1)),(iv ((qW (qC s a)).1.2.1)),(iv ((qW (qC s a)).1.2.2))],pb 81 33 [(iv ((qW (qC s a)).2.1)),(iv ((qW (qC s a)).2.2))]] from by rw [hcs])) ?_
 refine qB<|zC qD 3 [.d,.k2,.d,.d,.n,.k2,.d] [pb 0 103 (yz s (qA s a+(qW (qC s a)).2.2.toNat) ((qW (qC s a)).2.1) (qA s a+(qW (qC s a)).2.2.toNat) k)] (zY [0] 265 (yy s (qA s a+(qW (qC s a)).2.2.toNat) k ((qW (qC s a)).2.1)) oz)<|qB<|qH qD [.k1,.d,.k1,.d,.n,.d] [pb 1 52 [(iv ((qW (qC s a)).1.1)),(iv ((qW (qC s a)).1.2.1)),(iv ((qW (qC s a)).1.2.2))]] ?_
 rw [show qJ s a=((qW (qC s a)).2.1,(0,0,0),qA s a+(qW (qC s a)).2.2.toNat) from if_neg h1,if_neg h1,if_neg h1]
 exact qk hc0 [2] [0,1] (hbk:=by exact oc rfl (oz))
theorem qpit_pcE (s:zX) (a:Nat) (k:Int) (hs:s.length≤65536) (ha:a≤s.length) (e:Int) (he:¬ e=0):PC Tryz.prog 79 [(.opt 0 0)] [some (103,(yz s a e a k))] (.agg [(iv ((qW (qK s a)).1.1)),(iv ((qW (qK s a)).1.2.1)),(iv ((qW (qK s a)).1.2.2))]) [some (103,(yz s a e a k)),none]:=by
 refine zG Tryz.func79 rfl (by kernel_rfl) (Nat.le_of_ble_eq_true rfl) (by kernel_rfl) (l0:=[ps 0 (.opt 0 0),pb 0 103 (yz s a e a k)]) rfl (fun c0 Bor hc0=>?_)
 refine qB<|qH qD [.k1,.n,.k1,.n] [ps 2 (.opt 1 0),pb 1 52 [(iv 0),(iv 0),(iv 0)]]<|qB<|zC qD 1 [.k2,.n,.r] [ps 3 (sv (st (qK s a)))] (zY [0] 17 (qcd s a k hs (by omega) e he) oz)<|qB ?_
 have hwl:=WN ha
 refine yC qD 1 [.k3,.n,.n,.k2,.n,.n] [ps 4 (.opt 73 0),ps 5 (.opt 81 0),pb 73 52 [(iv ((qW (qK s a)).1.1)),(iv ((qW (qK s a)).1.2.1)),(iv ((qW (qK s a)).1.2.2))],pb 81 33 [(iv ((qW (qK s a)).2.1)),(iv ((qW (qK s a)).2.2))]] (zO 41 (qcs (qK s a) (by omega)) oz)<|qB<|qB<|zC qD 1 [.k5,.n,.r] [ps 15 (bv true)] (zY [0] 113 (wG s a k e he) oz)<|qL (b:=true) rfl rfl<|qB<|qH qD [.d,.k1,.d,.d,.d,.d,.k1,.d,.n,.d,.d] [pb 1 52 [(iv ((qW (qK s a)).1.1)),(iv ((qW (qK s a)).1.2.1)),(iv ((qW (qK s a)).1.2.2))]] ?_
 exact qk hc0 [2] [0,1] (hbk:=by exact oc rfl (oz))
theorem qef (s:zX) (a:Nat) (hs:s.length≤65536) (ha:a≤s.length):PC Tryz.prog 113 [(sv (st s)),(nv a)] [] (nv (yw (s.drop a))) []:=by
 refine zG Tryz.func113 rfl (by kernel_rfl) (Nat.le_of_ble_eq_true rfl) (by kernel_rfl) (l0:=[ps 0 (sv (st s)),ps 1 (nv a)]) rfl (fun c0 Bor hc0=>?_)
 refine qB<|qH qD [.r] []<|qB<|qH qD [.k2,.n] [ps 5 (iv 1)]<|qB<|qX<|zy (α:={x:Nat // 1≤x∧x≤5∧(∀ m,1≤m→m<x→Vy (st ((s.drop a).take m))=false)}) (fun x=>[ps 0 (sv (st s)),ps 1 (nv a),ps 5 (nv x.1)]) (fun x=>5-x.1) 0 ⟨1,⟨Nat.le_refl _,by decide,fun m h1 h2=>absurd h2 (by omega)⟩⟩ (Wk.ren2 _ 0 hc0 [] rfl rfl (by kernel_rfl) (by kernel_rfl)) ?_
 rintro ⟨n,⟨hn1,hn2,hno⟩⟩
 refine qB<|qB ?_
 by_cases h1:(n:Int)≤4
 ·refine zD qD (gy 3 6++[(9,.yes true)]) [ps 0 (sv (st s)),ps 1 (nv a),ps 5 (nv n),ps 15 (bv (decide (((a:Int)+(n:Int))≤(s.length:Int))))] (on 3 (qT h1) (oi (((a:Nat):Int)+(n:Int)) (by omega) (on 4 (qT h1) oz))) ?_
  by_cases h2:(((a:Nat):Int)+(n:Int))≤(s.length:Int)
  ·refine qS (qT h2)<|qF<|qX<|qB<|qB<|qQ qD [(5,.val (.av (.string (st ((s.drop a).take n))))),(6,.call [] [(sv (st ((s.drop a).take n)))] [] (bv (Vy (st ((s.drop a).take n)))) [])] [.k3,.d,.n] [ps 22 (bv (Vy (st ((s.drop a).take n))))] (oi (((a:Nat):Int)+(n:Int)) (by omega) (oc (by first|omega|(simp <;> omega):(0:Int)≤(a:Int)∧(a:Int)≤(((a:Nat):Int)+(n:Int))∧(((a:Nat):Int)+(n:Int))≤(s.length:Int)) (oc (by rw [ZP,show (a:Int).toNat=a from rfl,show (((a:Nat):Int)+(n:Int)).toNat-a=n by omega]:(st s).extract (((a:Nat):Int):Int).toNat (((a:Int)+(n:Int)):Int).toNat=st ((s.drop a).take n)) (zO 128 (qone_pc ((s.drop a).take n) (by rw [List.length_take,List.length_drop];omega)) oz)))) ?_
   by_cases h3:(Vy (st ((s.drop a).take n)))=true
   ·refine qL (b:=(Vy (st ((s.drop a).take n)))) rfl h3<|qB<|zD qD [] [ps 4 (nv n)] (oz) ?_
    rw [rune_yes (l:=s.drop a) hn1 (by rw [List.length_drop];omega) h3]
    exact yk fun cx_ a_ hI_=>zB (rt hc0 [ps 4 (nv n)] [] hI_)
   refine qO (b:=(Vy (st ((s.drop a).take n)))) rfl (Bool.eq_false_iff.2 h3)<|qF<|qQ qD [] [.k2,.d,.n,.d] [ps 5 (iv (((n:Nat):Int)+1))] (oi (((n:Nat):Int)+1) (by omega) oz)<|qZ ?_
   exact qq ⟨n+1,⟨by show 1≤n+1;omega,by show n+1≤5;omega,fun m hm1 hm2=>(Nat.lt_or_ge m n).elim (hno m hm1) fun hm3=>by rw [show m=n from by omega];exact eq_false_of_ne_true h3⟩⟩ (Wk.trans (Wk.eq (show _=[ps 0 (sv (st s)),ps 1 (nv a),ps 5 (nv (n+1))] from by rfl)) (Wk.ren2 _ 0 hc0 [] rfl rfl (by kernel_rfl) (by kernel_rfl))) (show 5-(n+1)<5-n from by show 5-(n+1)<5-n;omega)
  refine qR (qV h2)<|zI rfl rfl<|qB<|zD qD [] [ps 4 (iv 0)] (oz) ?_
  rw [rune_no (l:=s.drop a) fun m h1 h2 h3=>hno m h1 (by rw [List.length_drop] at h3;omega)]
  exact qk hc0 [4] []
 refine zD qD (gn 3 6++[(9,.yes false)]) [ps 0 (sv (st s)),ps 1 (nv a),ps 5 (nv n),ps 15 (bv false)] (on 7 (qV h1) oz)<|qO (b:=false) rfl rfl<|zI rfl rfl<|qB<|zD qD [] [ps 4 (iv 0)] (oz) ?_
 rw [rune_no (l:=s.drop a) fun m h1 h2 h3=>hno m h1 (by rw [List.length_drop] at h3;omega)]
 exact qk hc0 [4] []
theorem ZI {l:zX} (h:¬ yw l=0):vj (zU l) (zj l)=true∧yw l=zj l:=by
 unfold yw at h ⊢
 split at h
 ·rename_i c;rw [if_pos c];exact ⟨c,rfl⟩
 ·exact absurd rfl h
theorem Vk {l:zX} (h:yw l=0):¬ vj (zU l) (zj l)=true:=fun c=>by
 have:=jx c
 unfold yw at h
 rw [if_pos c] at h
 omega
theorem Zw (s:zX) (a:Nat) (k:Int) (hs:s.length≤65536) (ha:a≤s.length):PC Tryz.prog 80 [(.opt 0 0)] [some (103,(r5 s a 0 0 k))] (if (zA s a).1=0 then (sv (st ((zA s a).2.1))) else se) (if (zA s a).1=0 then [some (103,(r5 s ((zA s a).2.2) 0 0 k))] else [some (103,(yz s ((zA s a).2.2) ((zA s a).1) ((zA s a).2.2) k))]):=by
 refine zG Tryz.func80 rfl (by kernel_rfl) (le_if (Nat.le_of_ble_eq_true rfl) (Nat.le_of_ble_eq_true rfl)) (by kernel_rfl) (l0:=[ps 0 (.opt 0 0),pb 0 103 (r5 s a 0 0 k)]) rfl (fun c0 Bor hc0=>?_)
 refine qB<|qH qD [.r] []<|qB<|qB<|QB qD 1 [ps 0 (.opt 0 0),ps 8 (bv (!(qP s a 34))),pb 0 103 (r5 s (qA s a) 0 0 k)] (zY [0] 17 (vU s a k 34 hs (by omega)) oz) ?_
 by_cases h1:(qP s a 34)=true
 ·refine qR (congrArg Bool.not h1)<|qF<|qB ?_
  have hlt:=zM h1
  refine zD qD [] [ps 0 (.opt 0 0),pb 0 103 [(sv (st s)),(iv (((qA s a:Nat):Int)+1)),(iv 0),(iv 0),(iv k)]] (oi (((qA s a:Nat):Int)+1) (by omega) oz)<|qj (Wk.eq (show _=[ps 0 (.opt 0 0),pb 0 103 (r5 s (qA s a+1) 0 0 k)] from by rfl)) ?_
  refine qB<|qH qD [.k1,.n,.n,.r] [ps 3 (nv (qA s a+1)),ps 4 (iv 0)]<|qX<|zy (α:={x:Nat × Nat // (qA s a+1)≤x.1∧x.1≤s.length∧x.2≤100∧(Qq (s.drop (qA s a+1)) 0)=((Qq (s.drop x.1) x.2).1,x.1-(qA s a+1)+(Qq (s.drop x.1) x.2).2)}) (fun x=>[ps 0 (.opt 0 0),ps 3 (nv (qA s a+1)),ps 4 (nv x.1.2),pb 0 103 (r5 s x.1.1 0 0 k)]) (fun x=>s.length-x.1.1) 1 ⟨((qA s a+1),0),⟨Nat.le_refl _,hlt,Nat.zero_le _,Prod.ext rfl (by dsimp only;omega)⟩⟩ (Wk.ren2 _ 1 hc0 [0] rfl rfl (by kernel_rfl) (by kernel_rfl)) ?_
  rintro ⟨⟨b,n⟩,⟨hb0,hb1,hn,hl⟩⟩
  dsimp only at hb0 hb1 hn hl
  refine qX<|qB<|qB ?_
  by_cases h2:0<(n:Int)
  ·by_cases h3:(b:Int)<(s.length:Int)
   ·refine VA qD (gy 3 10++[(13,.yes true)]++gy 15 10++[(25,.yes true)]) (bfm [[],[(0,1)],[(0,2)],[(0,3)],[(0,4)],[(0,5)],[(0,6)],[(0,3)],[(0,3),(7,1)],[(0,3),(7,2)],[(0,3),(7,3)],[(0,3),(7,4)],[(0,12)],[(0,13)],[(0,14)],[(0,15)],[(0,16)],[(0,17)],[(0,18)],[(0,15)],[(0,15),(19,1)],[(0,15),(19,2)],[(0,15),(19,3)],[(0,23)],[(0,24)],[(0,25)]]) [([40],[8]),([42],[40]),([44],[42]),([46],[0,44]),([48],[44,46]),([50],[44,48]),([52],[1,44,50]),([54],[0,44]),([56],[44,54]),([58],[44,56]),([60],[1,44,58]),([62],[44,60]),([64],[44,52,62]),([66],[44,64]),([68],[66]),([70],[0,68]),([72],[68,70]),([74],[68,72]),([76],[1,68,74]),([78],[0,68]),([80],[68,78]),([82],[68,80]),([84],[1,68,82]),([86],[68,76,84]),([88],[68,86]),([90],[68,88])] [ps 0 (.opt 0 0),ps 3 (nv (qA s a+1)),ps 4 (nv n),ps 45 (bv (decide ((((s.getD b 0).toNat:Nat):Int)=34))),pb 0 103 (r5 s b 0 0 k)] (on 11 (qT h2) (on 9 (qT h3) (oc (by first|omega|(simp <;> omega):(0:Int)≤(b:Int)∧(b:Int)<(s.length:Int)) (on 2 (qT h3) oz)))) ?_
    by_cases h4:(((s.getD b 0).toNat:Nat):Int)=34
    ·refine qS (qT h4)<|qB<|qQ qD [] [.k2,.d,.d,.d,.n] [pb 0 103 [(sv (st s)),(iv (((b:Nat):Int)+1)),(iv 0),(iv 0),(iv k)]] (oi (((b:Nat):Int)+1) (by omega) oz)<|qj (Wk.eq (show _=[ps 0 (.opt 0 0),ps 3 (nv (qA s a+1)),pb 0 103 (r5 s (b+1) 0 0 k)] from by rfl)) ?_
     refine qB<|wC qD [(10,.val (.av (.string (st ((s.drop (qA s a+1)).take (b-(qA s a+1)))))))] (VB [(0,0),(0,1),(0,2),(0,3),(0,0),(0,0),(5,1),(5,2),(5,3),(5,4),(0,10),(0,11)]) [([106],[0]),([108],[106]),([110],[108]),([112],[1,110]),([114],[6]),([116],[0]),([118],[116]),([120],[118]),([122],[1,120]),([124],[122]),([126],[112,114,124]),([4],[126])] [.d,.n,.d,.r] [ps 2 (sv (st ((s.drop (qA s a+1)).take (b-(qA s a+1)))))] (oi (((b+1:Nat):Int)-1) (by omega) (oc (by first|omega|(simp <;> omega):(0:Int)≤(((qA s a+1):Nat):Int)∧(((qA s a+1):Nat):Int)≤(((b+1:Nat):Int)-1)∧(((b+1:Nat):Int)-1)≤(s.length:Int)) (oc (by rw [ZP,show (((qA s a+1):Nat):Int).toNat=(qA s a+1) from rfl,show (((b+1:Nat):Int)-1).toNat-(qA s a+1)=b-(qA s a+1) by omega]:(st s).extract ((((qA s a+1):Nat):Int):Int).toNat ((((b+1:Nat):Int)-1):Int).toNat=st ((s.drop (qA s a+1)).take (b-(qA s a+1)))) oz))) ?_
     have hqd:=(WW (l:=(s.drop b)) (by rw [List.length_drop];omega)).1 (by rw [ZN];omega)
     have hen:=qer (l:=(s.drop b)) (n:=n) ⟨hqd.1,hqd.2,by omega⟩
     rw [hen] at hl
     have hR:zA s a=(0,(s.drop (qA s a+1)).take (b-(qA s a+1)),b+1):=by unfold zA;rw [if_pos h1,hl,if_pos rfl];exact tri (by dsimp only;omega)
     rw [hR,if_pos rfl,if_pos rfl]
     exact yk fun cx_ a_ hI_=>zB (rt hc0 [ps 2 (sv (st ((s.drop (qA s a+1)).take (b-(qA s a+1))))),pb 0 103 (r5 s (b+1) 0 0 k)] [0] hI_ (hbk:=by exact oc rfl (oz)))
    refine qR (qV h4)<|qF<|qB ?_
    have hrl:=qhh (s.drop b)
    rw [List.length_drop] at hrl
    have hne:¬ (zj (s.drop b)=1∧zU (s.drop b)=34∧0<n):=fun c=>by
     have hbl:b<s.length:=by have:=QU (s.drop b);rw [List.length_drop] at this;omega
     have hq:=(WW (l:=(s.drop b)) (by rw [List.length_drop];omega)).2 ⟨c.1,c.2.1⟩
     rw [ZN] at hq
     omega
    refine wC qD [(8,.call [] [(sv (st s)),(nv b)] [] (nv (yw (s.drop b))) [])] (VB [(0,0),(0,1),(0,2),(0,3),(0,0),(4,1),(4,2),(4,3),(0,8),(0,9)]) [([128],[0]),([130],[128]),([132],[130]),([134],[1,132]),([136],[0]),([138],[136]),([140],[138]),([142],[1,140]),([144],[134,142]),([10],[144])] [.k3,.n,.d,.r] [ps 5 (nv (yw (s.drop b)))] (zO 273 (qef s b hs (by omega)) oz)<|qB<|qB<|qH qD [.k4,.n,.r] [ps 74 (bv (decide (((yw (s.drop b):Nat):Int)=0)))] ?_
    by_cases h5:(yw (s.drop b):Int)=0
    ·refine qS (qT h5)<|qB<|QB qD 1 [pb 0 103 (yz s b 2 b k)] (zY [0] 313 (yy s b k 2) oz)<|qB<|qH qD [.n,.r] [ps 2 se] ?_
     have hbd:=ZT (l:=(s.drop b)) (n:=n) hne (Vk (by omega))
     rw [hbd] at hl
     have hR:zA s a=(2,[],b):=by unfold zA;rw [if_pos h1,hl,if_neg (by show ¬ ((2:Int)=0);decide)];exact tri (by dsimp only;omega)
     rw [hR,if_neg (by show ¬ ((2:Int)=0);decide),if_neg (by show ¬ ((2:Int)=0);decide)]
     exact yk fun cx_ a_ hI_=>zB (rt hc0 [ps 2 se,pb 0 103 (yz s b 2 b k)] [0] hI_ (hbk:=by exact oc rfl (oz)))
    refine qR (qV h5)<|qF<|qB<|qB<|qH qD [.k4,.d,.n,.r] [ps 78 (bv (decide (((n:Nat):Int)=100)))] ?_
    by_cases h6:(n:Int)=100
    ·refine qS (qT h6)<|qB<|QB qD 1 [pb 0 103 (yz s b 4 b k)] (zY [0] 329 (yy s b k 4) oz)<|qB<|qH qD [.n,.r] [ps 2 se] ?_
     obtain ⟨hfr,hrk⟩:=ZI (l:=(s.drop b)) (by omega)
     have hbd:=QK (l:=(s.drop b)) (n:=n) hne hfr (by omega)
     rw [hbd] at hl
     have hR:zA s a=(4,[],b):=by unfold zA;rw [if_pos h1,hl,if_neg (by show ¬ ((4:Int)=0);decide)];exact tri (by dsimp only;omega)
     rw [hR,if_neg (by show ¬ ((4:Int)=0);decide),if_neg (by show ¬ ((4:Int)=0);decide)]
     exact yk fun cx_ a_ hI_=>zB (rt hc0 [ps 2 se,pb 0 103 (yz s b 4 b k)] [0] hI_ (hbk:=by exact oc rfl (oz)))
    refine qR (qV h6)<|qF<|qB<|qQ qD [] [.k2,.d,.n,.k1,.d,.r] [ps 4 (iv (((n:Nat):Int)+1))] (oi (((n:Nat):Int)+1) (by omega) oz)<|qQ qD [] [.k3,.d,.d,.n] [pb 0 103 [(sv (st s)),(iv (((b:Nat):Int)+(yw (s.drop b):Int))),(iv 0),(iv 0),(iv k)]] (oi (((b:Nat):Int)+(yw (s.drop b):Int)) (by omega) oz)<|qZ ?_
    obtain ⟨hfr,hrk⟩:=ZI (l:=(s.drop b)) (by omega)
    have hnx:=QJ (l:=(s.drop b)) (n:=n) hne hfr (by omega)
    rw [List.drop_drop,← hrk] at hnx
    have hps:=jx (l:=(s.drop b)) hfr
    exact qq ⟨(b+yw (s.drop b),n+1),⟨by show (qA s a+1)≤b+_;omega,by show b+_≤s.length;omega,by show n+1≤100;omega,by rw [hl,hnx];exact duo (by dsimp only;omega)⟩⟩ (Wk.trans (Wk.eq (show _=[ps 0 (.opt 0 0),ps 3 (nv (qA s a+1)),ps 4 (nv (n+1)),pb 0 103 (r5 s (b+yw (s.drop b)) 0 0 k)] from by rfl)) (Wk.ren2 _ 1 hc0 [0] rfl rfl (by kernel_rfl) (by kernel_rfl))) (show s.length-(b+yw (s.drop b))<s.length-b from by show s.length-(b+yw (s.drop b))<s.length-b;omega)
   refine VA qD (gy 3 10++[(13,.yes true)]++gn 15 10++[(25,.yes false)]) (bfm [[],[(0,1)],[(0,2)],[(0,3)],[(0,4)],[(0,5)],[(0,6)],[(0,3)],[(0,3),(7,1)],[(0,3),(7,2)],[(0,3),(7,3)],[(0,3),(7,4)],[(0,12)],[(0,13)],[(0,14)],[(0,15)],[(0,16)],[(0,17)],[(0,18)],[(0,15)],[(0,15),(19,1)],[(0,15),(19,2)],[(0,15),(19,3)],[(0,23)],[(0,24)],[(0,25)]]) [([40],[8]),([42],[40]),([44],[42]),([46],[0,44]),([48],[44,46]),([50],[44,48]),([52],[1,44,50]),([54],[0,44]),([56],[44,54]),([58],[44,56]),([60],[1,44,58]),([62],[44,60]),([64],[44,52,62]),([66],[44,64]),([68],[66]),([70],[68]),([72],[68]),([74],[68]),([76],[68]),([78],[68]),([80],[68]),([82],[68]),([84],[68]),([86],[68]),([88],[68]),([90],[68,88])] [ps 0 (.opt 0 0),ps 3 (nv (qA s a+1)),ps 4 (nv n),ps 45 (bv false),pb 0 103 (r5 s b 0 0 k)] (on 11 (qT h2) (on 11 (qV h3) oz))<|qO (b:=false) rfl rfl<|qF<|qB ?_
   have hrl:=qhh (s.drop b)
   rw [List.length_drop] at hrl
   have hne:¬ (zj (s.drop b)=1∧zU (s.drop b)=34∧0<n):=fun c=>by
    have hbl:b<s.length:=by have:=QU (s.drop b);rw [List.length_drop] at this;omega
    have hq:=(WW (l:=(s.drop b)) (by rw [List.length_drop];omega)).2 ⟨c.1,c.2.1⟩
    rw [ZN] at hq
    omega
   refine wC qD [(8,.call [] [(sv (st s)),(nv b)] [] (nv (yw (s.drop b))) [])] (VB [(0,0),(0,1),(0,2),(0,3),(0,0),(4,1),(4,2),(4,3),(0,8),(0,9)]) [([128],[0]),([130],[128]),([132],[130]),([134],[1,132]),([136],[0]),([138],[136]),([140],[138]),([142],[1,140]),([144],[134,142]),([10],[144])] [.k3,.n,.d,.r] [ps 5 (nv (yw (s.drop b)))] (zO 273 (qef s b hs (by omega)) oz)<|qB<|qB<|qH qD [.k4,.n,.r] [ps 74 (bv (decide (((yw (s.drop b):Nat):Int)=0)))] ?_
   by_cases h7:(yw (s.drop b):Int)=0
   ·refine qS (qT h7)<|qB<|QB qD 1 [pb 0 103 (yz s b 2 b k)] (zY [0] 313 (yy s b k 2) oz)<|qB<|qH qD [.n,.r] [ps 2 se] ?_
    have hbd:=ZT (l:=(s.drop b)) (n:=n) hne (Vk (by omega))
    rw [hbd] at hl
    have hR:zA s a=(2,[],b):=by unfold zA;rw [if_pos h1,hl,if_neg (by show ¬ ((2:Int)=0);decide)];exact tri (by dsimp only;omega)
    rw [hR,if_neg (by show ¬ ((2:Int)=0);decide),if_neg (by show ¬ ((2:Int)=0);decide)]
    exact yk fun cx_ a_ hI_=>zB (rt hc0 [ps 2 se,pb 0 103 (yz s b 2 b k)] [0] hI_ (hbk:=by exact oc rfl (oz)))
   refine qR (qV h7)<|qF<|qB<|qB<|qH qD [.k4,.d,.n,.r] [ps 78 (bv (decide (((n:Nat):Int)=100)))] ?_
   by_cases h8:(n:Int)=100
   ·refine qS (qT h8)<|qB<|QB qD 1 [pb 0 103 (yz s b 4 b k)] (zY [0] 329 (yy s b k 4) oz)<|qB<|qH qD [.n,.r] [ps 2 se] ?_
    obtain ⟨hfr,hrk⟩:=ZI (l:=(s.drop b)) (by omega)
    have hbd:=QK (l:=(s.drop b)) (n:=n) hne hfr (by omega)
    rw [hbd] at hl
    have hR:zA s a=(4,[],b):=by unfold zA;rw [if_pos h1,hl,if_neg (by show ¬ ((4:Int)=0);decide)];exact tri (by dsimp only;omega)
    rw [hR,if_neg (by show ¬ ((4:Int)=0);decide),if_neg (by show ¬ ((4:Int)=0);decide)]
    exact yk fun cx_ a_ hI_=>zB (rt hc0 [ps 2 se,pb 0 103 (yz s b 4 b k)] [0] hI_ (hbk:=by exact oc rfl (oz)))
   refine qR (qV h8)<|qF<|qB<|qQ qD [] [.k2,.d,.n,.k1,.d,.r] [ps 4 (iv (((n:Nat):Int)+1))] (oi (((n:Nat):Int)+1) (by omega) oz)<|qQ qD [] [.k3,.d,.d,.n] [pb 0 103 [(sv (st s)),(iv (((b:Nat):Int)+(yw (s.drop b):Int))),(iv 0),(iv 0),(iv k)]] (oi (((b:Nat):Int)+(yw (s.drop b):Int)) (by omega) oz)<|qZ ?_
   obtain ⟨hfr,hrk⟩:=ZI (l:=(s.drop b)) (by omega)
   have hnx:=QJ (l:=(s.drop b)) (n:=n) hne hfr (by omega)
   rw [List.drop_drop,← hrk] at hnx
   have hps:=jx (l:=(s.drop b)) hfr
   exact qq ⟨(b+yw (s.drop b),n+1),⟨by show (qA s a+1)≤b+_;omega,by show b+_≤s.length;omega,by show n+1≤100;omega,by rw [hl,hnx];exact duo (by dsimp only;omega)⟩⟩ (Wk.trans (Wk.eq (show _=[ps 0 (.opt 0 0),ps 3 (nv (qA s a+1)),ps 4 (nv (n+1)),pb 0 103 (r5 s (b+yw (s.drop b)) 0 0 k)] from by rfl)) (Wk.ren2 _ 1 hc0 [0] rfl rfl (by kernel_rfl) (by kernel_rfl))) (show s.length-(b+yw (s.drop b))<s.length-b from by show s.length-(b+yw (s.drop b))<s.length-b;omega)
  refine VA qD (gn 3 10++[(13,.yes false)]++gn 15 10) (bfm [[],[(0,1)],[(0,2)],[(0,3)],[(0,4)],[(0,5)],[(0,6)],[(0,3)],[(0,3),(7,1)],[(0,3),(7,2)],[(0,3),(7,3)],[(0,3),(7,4)],[(0,12)],[(0,13)],[(0,14)],[(0,15)],[(0,16)],[(0,17)],[(0,18)],[(0,15)],[(0,15),(19,1)],[(0,15),(19,2)],[(0,15),(19,3)],[(0,23)],[(0,24)],[(0,25)]]) [([40],[8]),([42],[40]),([44],[42]),([46],[44]),([48],[44]),([50],[44]),([52],[44]),([54],[44]),([56],[44]),([58],[44]),([60],[44]),([62],[44]),([64],[44]),([66],[44,64]),([68],[66]),([70],[68]),([72],[68]),([74],[68]),([76],[68]),([78],[68]),([80],[68]),([82],[68]),([84],[68]),([86],[68]),([88],[68]),([90],[68,88])] [ps 0 (.opt 0 0),ps 3 (nv (qA s a+1)),ps 4 (nv n),ps 45 (bv false),pb 0 103 (r5 s b 0 0 k)] (on 11 (qV h2) (on 10 ff oz))<|qO (b:=false) rfl rfl<|qF<|qB ?_
  have hrl:=qhh (s.drop b)
  rw [List.length_drop] at hrl
  have hne:¬ (zj (s.drop b)=1∧zU (s.drop b)=34∧0<n):=fun c=>by
   have hbl:b<s.length:=by have:=QU (s.drop b);rw [List.length_drop] at this;omega
   have hq:=(WW (l:=(s.drop b)) (by rw [List.length_drop];omega)).2 ⟨c.1,c.2.1⟩
   rw [ZN] at hq
   omega
  refine wC qD [(8,.call [] [(sv (st s)),(nv b)] [] (nv (yw (s.drop b))) [])] (VB [(0,0),(0,1),(0,2),(0,3),(0,0),(4,1),(4,2),(4,3),(0,8),(0,9)]) [([128],[0]),([130],[128]),([132],[130]),([134],[1,132]),([136],[0]),([138],[136]),([140],[138]),([142],[1,140]),([144],[134,142]),([10],[144])] [.k3,.n,.d,.r] [ps 5 (nv (yw (s.drop b)))] (zO 273 (qef s b hs (by omega)) oz)<|qB<|qB<|qH qD [.k4,.n,.r] [ps 74 (bv (decide (((yw (s.drop b):Nat):Int)=0)))] ?_
  by_cases h9:(yw (s.drop b):Int)=0
  ·refine qS (qT h9)<|qB<|QB qD 1 [pb 0 103 (yz s b 2 b k)] (zY [0] 313 (yy s b k 2) oz)<|qB<|qH qD [.n,.r] [ps 2 se] ?_
   have hbd:=ZT (l:=(s.drop b)) (n:=n) hne (Vk (by omega))
   rw [hbd] at hl
   have hR:zA s a=(2,[],b):=by unfold zA;rw [if_pos h1,hl,if_neg (by show ¬ ((2:Int)=0);decide)];exact tri (by dsimp only;omega)
   rw [hR,if_neg (by show ¬ ((2:Int)=0);decide),if_neg (by show ¬ ((2:Int)=0);decide)]
   exact yk fun cx_ a_ hI_=>zB (rt hc0 [ps 2 se,pb 0 103 (yz s b 2 b k)] [0] hI_ (hbk:=by exact oc rfl (oz)))
  refine qR (qV h9)<|qF<|qB<|qB<|qH qD [.k4,.d,.n,.r] [ps 78 (bv (decide (((n:Nat):Int)=100)))] ?_
  by_cases h10:(n:Int)=100
  ·refine qS (qT h10)<|qB<|QB qD 1 [pb 0 103 (yz s b 4 b k)] (zY [0] 329 (yy s b k 4) oz)<|qB<|qH qD [.n,.r] [ps 2 se] ?_
   obtain ⟨hfr,hrk⟩:=ZI (l:=(s.drop b)) (by omega)
   have hbd:=QK (l:=(s.drop b)) (n:=n) hne hfr (by omega)
   rw [hbd] at hl
   have hR:zA s a=(4,[],b):=by unfold zA;rw [if_pos h1,hl,if_neg (by show ¬ ((4:Int)=0);decide)];exact tri (by dsimp only;omega)
   rw [hR,if_neg (by show ¬ ((4:Int)=0);decide),if_neg (by show ¬ ((4:Int)=0);decide)]
   exact yk fun cx_ a_ hI_=>zB (rt hc0 [ps 2 se,pb 0 103 (yz s b 4 b k)] [0] hI_ (hbk:=by exact oc rfl (oz)))
  refine qR (qV h10)<|qF<|qB<|qQ qD [] [.k2,.d,.n,.k1,.d,.r] [ps 4 (iv (((n:Nat):Int)+1))] (oi (((n:Nat):Int)+1) (by omega) oz)<|qQ qD [] [.k3,.d,.d,.n] [pb 0 103 [(sv (st s)),(iv (((b:Nat):Int)+(yw (s.drop b):Int))),(iv 0),(iv 0),(iv k)]] (oi (((b:Nat):Int)+(yw (s.drop b):Int)) (by omega) oz)<|qZ ?_
  obtain ⟨hfr,hrk⟩:=ZI (l:=(s.drop b)) (by omega)
  have hnx:=QJ (l:=(s.drop b)) (n:=n) hne hfr (by omega)
  rw [List.drop_drop,← hrk] at hnx
  have hps:=jx (l:=(s.drop b)) hfr
  exact qq ⟨(b+yw (s.drop b),n+1),⟨by show (qA s a+1)≤b+_;omega,by show b+_≤s.length;omega,by show n+1≤100;omega,by rw [hl,hnx];exact duo (by dsimp only;omega)⟩⟩ (Wk.trans (Wk.eq (show _=[ps 0 (.opt 0 0),ps 3 (nv (qA s a+1)),ps 4 (nv (n+1)),pb 0 103 (r5 s (b+yw (s.drop b)) 0 0 k)] from by rfl)) (Wk.ren2 _ 1 hc0 [0] rfl rfl (by kernel_rfl) (by kernel_rfl))) (show s.length-(b+yw (s.drop b))<s.length-b from by show s.length-(b+yw (s.drop b))<s.length-b;omega)
 refine qS (congrArg Bool.not (Bool.eq_false_iff.2 h1))<|qB<|qH qD [.d,.n,.d,.r] [ps 2 se] ?_
 rw [show zA s a=(0,[],qA s a) from if_neg h1,if_pos rfl,if_pos rfl]
 exact qk hc0 [2] [0] (hbk:=by exact oc rfl (oz))
theorem qbc (s:zX) (a:Nat) (k:Int) (e:Int) (he:¬ e=0):PC Tryz.prog 80 [(.opt 0 0)] [some (103,(yz s a e a k))] se [some (103,(yz s a e a k))]:=by
 refine zG Tryz.func80 rfl (by kernel_rfl) (Nat.le_of_ble_eq_true rfl) (by kernel_rfl) (l0:=[ps 0 (.opt 0 0),pb 0 103 (yz s a e a k)]) rfl (fun c0 Bor hc0=>?_)
 refine qB<|qH qD [.r] []<|qB<|qB<|zC qD 1 [.k1,.n,.r] [ps 8 (bv true)] (zY [0] 17 (wF s a k 34 e he) oz)<|qL (b:=true) rfl rfl<|qB<|qH qD [.d,.n,.d,.r] [ps 2 se] ?_
 exact qk hc0 [2] [0] (hbk:=by exact oc rfl (oz))
theorem YD (l:List It):(zP l).length=l.length*7:=by rw [Yj];exact Yk gI 7 (fun _=>rfl) l
theorem Qj (l:List It) (x:It):zP l++gI x=zP (l++[x]):=by rw [Yj,Yj,List.flatMap_append];simp
theorem Ww (l:List Br):(yU l).length=l.length*3:=Yk brC 3 (fun _=>rfl) l
theorem Yy (l:List Br) (x:Br):yU l++brC x=yU (l++[x]):=by unfold yU;rw [List.flatMap_append];simp
theorem qdf (l:List Vo):(yD l).length=l.length*2:=Yk voC 2 (fun _=>rfl) l
theorem qaw (l:List Vo) (x:Vo):yD l++voC x=yD (l++[x]):=by unfold yD;rw [List.flatMap_append];simp
theorem grL_ok {s:zX} {lv:Int} {l:List It} {a k:Nat} (h1:(qN s (lv+1) a k).1=0) (h2:qP s (qN s (lv+1) a k).2.2.1 93=true):grL s lv l a k=(0,l++[(qN s (lv+1) a k).2.1],qA s (qN s (lv+1) a k).2.2.1+1,(qN s (lv+1) a k).2.2.2):=by
 rw [qcn,if_pos h1,if_pos h2]
theorem grL_no {s:zX} {lv:Int} {l:List It} {a k:Nat} (h1:¬ (qN s (lv+1) a k).1=0):grL s lv l a k=((qN s (lv+1) a k).1,[],(qN s (lv+1) a k).2.2.1,0):=by
 rw [qcn,if_neg h1]
theorem qky {s:zX} {ps:List Pt} {a:Nat} (h:ps.length=16):Yx s (16-ps.length) ps a=(5,[],a):=by rw [h,Nat.sub_self];rfl
theorem YQ {s:zX} {ps:List Pt} {a:Nat} (h:ps.length<16):Yx s (16-ps.length) ps a=if (qJ s a).1=0 then
   if qP s (qJ s a).2.2 62=true then (0,ps++[(qJ s a).2.1],qA s (qJ s a).2.2+1)
   else Yx s (16-(ps.length+1)) (ps++[(qJ s a).2.1]) (qA s (qJ s a).2.2)
  else ((qJ s a).1,[],(qJ s a).2.2):=by
 rw [show 16-ps.length=(16-(ps.length+1))+1 by omega,Yx]
def chG (s:zX):Nat→List Pt→Nat→List Pt
 | 0,us,a=>us++[(qW (qK s a)).1]
 | m+1,us,a=>if (qJ s a).1=0 then chG s m (us++[(qJ s a).2.1]) (qA s (qJ s a).2.2) else us++[(qW (qC s a)).1]
def jL (s:zX) (x:It) (a k:Nat):It × Int :=
 (if qP s a 42=true then (if (qE s (qA s a+1)).1=0 then Qw x (qE s (qA s a+1)).2.1 else Qw x 0) else x,(k:Int))
mutual
def yv (s:zX) (lv:Int) (a:Nat) (k:Nat):It × Int :=
 if _h:k=0∨31<lv then (.mk 1 1 [] (0,0) [] [],(k:Int)-1)
 else if qC s a=[45] then jL s (.mk 2 1 [] (0,0) [] []) (qA s a+1) (k-1)
 else if qP s a 126=true then jL s (.mk 3 1 [] (0,0) [] []) (qA s a+1) (k-1)
 else if qC s a=[117,112] then
  if (qY (qC s (qA s a+2))).2=0 then
   if (yE s lv (qA s (qA s a+2)+(qC s (qA s a+2)).length) (k-1)).1=0 then
    jL s (.mk 5 1 [] (qY (qC s (qA s a+2))).1 [] (yE s lv (qA s (qA s a+2)+(qC s (qA s a+2)).length) (k-1)).2.1) (yE s lv (qA s (qA s a+2)+(qC s (qA s a+2)).length) (k-1)).2.2.1 (yE s lv (qA s (qA s a+2)+(qC s (qA s a+2)).length) (k-1)).2.2.2
   else (.mk 5 1 [] (qY (qC s (qA s a+2))).1 [] (gG s lv (qA s (qA s a+2)+(qC s (qA s a+2)).length) (k-1)).1,(gG s lv (qA s (qA s a+2)+(qC s (qA s a+2)).length) (k-1)).2)
  else (.mk 5 1 [] (0,0) [] [],((k-1:Nat):Int))
 else if qP s a 91=true then
  if (yE s lv (qA s a) (k-1)).1=0 then jL s (.mk 4 1 [] (0,0) [] (yE s lv (qA s a) (k-1)).2.1) (yE s lv (qA s a) (k-1)).2.2.1 (yE s lv (qA s a) (k-1)).2.2.2
  else (.mk 4 1 [] (0,0) [] (gG s lv (qA s a) (k-1)).1,(gG s lv (qA s a) (k-1)).2)
 else if qP s a 60=true then
  if (Yx s 16 [] (qA s a+1)).1=0 then jL s (.mk 1 1 (Yx s 16 [] (qA s a+1)).2.1 (0,0) [] []) (Yx s 16 [] (qA s a+1)).2.2 (k-1)
  else (.mk 1 1 (chG s 16 [] (qA s a+1)) (0,0) [] [],((k-1:Nat):Int))
 else if (qJ s (qA s a)).1=0 then jL s (.mk 1 1 [(qJ s (qA s a)).2.1] (0,0) [] []) (qJ s (qA s a)).2.2 (k-1)
 else (.mk 1 1 [(qW (qC s (qA s a))).1] (0,0) [] [],((k-1:Nat):Int))
termination_by (k,0)
decreasing_by all_goals first|(apply Prod.Lex.right;decide)|(apply Prod.Lex.left;omega)
def gG (s:zX) (lv:Int) (a:Nat) (k:Nat):List It × Int :=
 if qP s a 91=true then glG s lv [] (qA s a+1) k else ([],(k:Int))
termination_by (k,2)
decreasing_by all_goals first|(apply Prod.Lex.right;decide)|(apply Prod.Lex.left;omega)
def glG (s:zX) (lv:Int) (l:List It) (a:Nat) (k:Nat):List It × Int :=
 if (qN s (lv+1) a k).1=0 then
  if _h:(qN s (lv+1) a k).2.2.2<k then glG s lv (l++[(qN s (lv+1) a k).2.1]) (qA s (qN s (lv+1) a k).2.2.1) (qN s (lv+1) a k).2.2.2
  else (l,0)
 else (l++[(yv s (lv+1) a k).1],(yv s (lv+1) a k).2)
termination_by (k,1)
decreasing_by all_goals first|(apply Prod.Lex.right;decide)|(apply Prod.Lex.left;omega)
end
theorem wj {s:zX} {lv:Int} {a k:Nat}:yv s lv a k =
 if k=0∨31<lv then (.mk 1 1 [] (0,0) [] [],(k:Int)-1)
 else if qC s a=[45] then jL s (.mk 2 1 [] (0,0) [] []) (qA s a+1) (k-1)
 else if qP s a 126=true then jL s (.mk 3 1 [] (0,0) [] []) (qA s a+1) (k-1)
 else if qC s a=[117,112] then
  if (qY (qC s (qA s a+2))).2=0 then
   if (yE s lv (qA s (qA s a+2)+(qC s (qA s a+2)).length) (k-1)).1=0 then
    jL s (.mk 5 1 [] (qY (qC s (qA s a+2))).1 [] (yE s lv (qA s (qA s a+2)+(qC s (qA s a+2)).length) (k-1)).2.1) (yE s lv (qA s (qA s a+2)+(qC s (qA s a+2)).length) (k-1)).2.2.1 (yE s lv (qA s (qA s a+2)+(qC s (qA s a+2)).length) (k-1)).2.2.2
   else (.mk 5 1 [] (qY (qC s (qA s a+2))).1 [] (gG s lv (qA s (qA s a+2)+(qC s (qA s a+2)).length) (k-1)).1,(gG s lv (qA s (qA s a+2)+(qC s (qA s a+2)).length) (k-1)).2)
  else (.mk 5 1 [] (0,0) [] [],((k-1:Nat):Int))
 else if qP s a 91=true then
  if (yE s lv (qA s a) (k-1)).1=0 then jL s (.mk 4 1 [] (0,0) [] (yE s lv (qA s a) (k-1)).2.1) (yE s lv (qA s a) (k-1)).2.2.1 (yE s lv (qA s a) (k-1)).2.2.2
  else (.mk 4 1 [] (0,0) [] (gG s lv (qA s a) (k-1)).1,(gG s lv (qA s a) (k-1)).2)
 else if qP s a 60=true then
  if (Yx s 16 [] (qA s a+1)).1=0 then jL s (.mk 1 1 (Yx s 16 [] (qA s a+1)).2.1 (0,0) [] []) (Yx s 16 [] (qA s a+1)).2.2 (k-1)
  else (.mk 1 1 (chG s 16 [] (qA s a+1)) (0,0) [] [],((k-1:Nat):Int))
 else if (qJ s (qA s a)).1=0 then jL s (.mk 1 1 [(qJ s (qA s a)).2.1] (0,0) [] []) (qJ s (qA s a)).2.2 (k-1)
 else (.mk 1 1 [(qW (qC s (qA s a))).1] (0,0) [] [],((k-1:Nat):Int)):=by
 rw [yv]
 by_cases h:k=0∨31<lv
 ·rw [dif_pos h,if_pos h]
 ·rw [dif_neg h,if_neg h]
theorem gG_eq {s:zX} {lv:Int} {a k:Nat}:gG s lv a k=if qP s a 91=true then glG s lv [] (qA s a+1) k else ([],(k:Int)):=by rw [gG]
theorem glG_eq {s:zX} {lv:Int} {l:List It} {a k:Nat}:glG s lv l a k =
 if (qN s (lv+1) a k).1=0 then
  if (qN s (lv+1) a k).2.2.2<k then glG s lv (l++[(qN s (lv+1) a k).2.1]) (qA s (qN s (lv+1) a k).2.2.1) (qN s (lv+1) a k).2.2.2
  else (l,0)
 else (l++[(yv s (lv+1) a k).1],(yv s (lv+1) a k).2):=by
 rw [glG]
 simp only [dite_eq_ite]
theorem chG_at {s:zX} {us:List Pt} {b:Nat} (h:us.length<16):chG s (16-us.length) us b=if (qJ s b).1=0 then chG s (16-(us++[(qJ s b).2.1]).length) (us++[(qJ s b).2.1]) (qA s (qJ s b).2.2) else us++[(qW (qC s b)).1]:=by
 rw [show 16-us.length=(16-(us.length+1))+1 by omega,chG,List.length_append,List.length_singleton]
theorem chG_full {s:zX} {us:List Pt} {b:Nat} (h:us.length=16):chG s (16-us.length) us b=us++[(qW (qK s b)).1]:=by
 rw [h];rfl
/-! ### the loops of an item -/
def KI (s:zX) (lv:Int) (k:Nat) (GL:Int × List It × Nat × Nat) (GG:List It × Int) (l:List It) (b:Nat) (e f kk:Int) (g:Bool):Prop :=
 (g=true∧e=0∧f=0∧∃ q:Nat,kk=(q:Int)∧b≤s.length∧l.length+q≤k∧grL s lv l b q=GL∧glG s lv l b q=GG) ∨
 (g=false∧e=0∧f=0∧∃ q:Nat,kk=(q:Int)∧b≤s.length∧qA s b=b∧qP s b 93=true∧GL=(0,l,qA s b+1,q)) ∨
 (g=true∧¬ e=0∧f=(b:Int)∧GL=(e,[],b,0)∧GG=(l,kk))
section
variable {s:zX} {lv:Int} {k:Nat} {GL:Int × List It × Nat × Nat} {GG:List It × Int} {l:List It} {b:Nat} {e f kk:Int} {g:Bool}
theorem ki_go (h:KI s lv k GL GG l b e f kk g) (hg:g=true) (he:e=0):f=0∧∃ q:Nat,kk=(q:Int)∧b≤s.length∧l.length+q≤k∧grL s lv l b q=GL∧glG s lv l b q=GG:=by
 rcases h with h|h|h
 ·exact h.2.2
 ·rw [hg] at h;cases h.1
 ·exact absurd he h.2.1
theorem ki_done (h:KI s lv k GL GG l b e f kk g) (hg:¬ g=true):e=0∧f=0∧∃ q:Nat,kk=(q:Int)∧b≤s.length∧qA s b=b∧qP s b 93=true∧GL=(0,l,qA s b+1,q):=by
 rcases h with h|h|h
 ·exact absurd h.1 hg
 ·exact h.2
 ·exact absurd h.1 hg
theorem ki_err (h:KI s lv k GL GG l b e f kk g) (he:¬ e=0):f=(b:Int)∧GL=(e,[],b,0)∧GG=(l,kk):=by
 rcases h with h|h|h
 ·exact absurd h.2.1 he
 ·exact absurd h.2.1 he
 ·exact h.2.2
theorem ki_stop {q:Nat} (hb:b≤s.length) (h1:grL s lv l b q=GL) (hx:(qN s (lv+1) b q).1=0) (hc:qP s (qN s (lv+1) b q).2.2.1 93=true) :
  KI s lv k GL GG (l++[(qN s (lv+1) b q).2.1]) (qA s (qN s (lv+1) b q).2.2.1) 0 0 ((((qN s (lv+1) b q).2.2.2:Nat)):Int) false:=by
 have hie:=wT (lv:=lv+1) (k:=q) hb hx
 refine .inr (.inl ⟨rfl,rfl,rfl,_,rfl,zR hie.1.2,vG _ _,by rw [show qP s (qA s (qN s (lv+1) b q).2.2.1) 93=qP s (qN s (lv+1) b q).2.2.1 93 from by unfold qP;rw [vG]];exact hc,?_⟩)
 rw [← h1,grL_ok hx hc,vG]
theorem ki_next {q:Nat} (hb:b≤s.length) (hlq:l.length+q≤k) (h1:grL s lv l b q=GL) (h2:glG s lv l b q=GG) (hx:(qN s (lv+1) b q).1=0) (hc:¬ qP s (qN s (lv+1) b q).2.2.1 93=true) :
  KI s lv k GL GG (l++[(qN s (lv+1) b q).2.1]) (qA s (qN s (lv+1) b q).2.2.1) 0 0 ((((qN s (lv+1) b q).2.2.2:Nat)):Int) true:=by
 have hie:=wT (lv:=lv+1) (k:=q) hb hx
 refine .inl ⟨rfl,rfl,rfl,_,rfl,zR hie.1.2,by have:=hie.2;simp only [List.length_append,List.length_singleton];omega,by rw [← h1,qkl hb hx hc],by rw [← h2,glG_eq (l:=l) (a:=b) (k:=q),if_pos hx,if_pos hie.2]⟩
theorem ki_no {q:Nat} (h1:grL s lv l b q=GL) (h2:glG s lv l b q=GG) (hx:¬ (qN s (lv+1) b q).1=0) :
  KI s lv k GL GG (l++[(yv s (lv+1) b q).1]) (qN s (lv+1) b q).2.2.1 (qN s (lv+1) b q).1 ((((qN s (lv+1) b q).2.2.1:Nat)):Int) (yv s (lv+1) b q).2 true :=
 .inr (.inr ⟨rfl,hx,rfl,by rw [← h1,grL_no hx],by rw [← h2,glG_eq,if_neg hx]⟩)
end
def mK (g:Bool) (e kk:Int):Nat:=if g=true∧e=0 then kk.toNat+1 else 0
theorem YB {g g':Bool} {e kk e' kk':Int} (hg:g=true) (he:e=0) (h:¬ (g'=true∧e'=0)):mK g' e' kk'<mK g e kk:=by
 rw [show mK g e kk=kk.toNat+1 from if_pos ⟨hg,he⟩,show mK g' e' kk'=0 from if_neg h];omega
theorem qhu {g:Bool} {e kk:Int} {q q':Nat} (hg:g=true) (he:e=0) (hk:kk=(q:Int)) (h:q'<q):mK true 0 (q':Int)<mK g e kk:=by
 rw [show mK g e kk=kk.toNat+1 from if_pos ⟨hg,he⟩,show mK true 0 (q':Int)=(q':Int).toNat+1 from if_pos ⟨rfl,rfl⟩,hk];omega
def CI (s:zX) (CC:Int × List Pt × Nat) (CG:List Pt) (us:List Pt) (b:Nat) (e f:Int) (g:Bool):Prop :=
 (g=true∧e=0∧f=0∧b≤s.length∧us.length≤16∧Yx s (16-us.length) us b=CC∧chG s (16-us.length) us b=CG) ∨
 (g=false∧e=0∧f=0∧b≤s.length∧qP s b 62=true∧CC=(0,us,qA s b+1)) ∨
 (g=true∧¬ e=0∧f=(b:Int)∧CC=(e,[],b)∧CG=us)
section
variable {s:zX} {CC:Int × List Pt × Nat} {CG us:List Pt} {b:Nat} {e f:Int} {g:Bool}
theorem ci_go (h:CI s CC CG us b e f g) (hg:g=true) (he:e=0):f=0∧b≤s.length∧us.length≤16∧Yx s (16-us.length) us b=CC∧chG s (16-us.length) us b=CG:=by
 rcases h with h|h|h
 ·exact h.2.2
 ·rw [hg] at h;cases h.1
 ·exact absurd he h.2.1
theorem ci_done (h:CI s CC CG us b e f g) (hg:¬ g=true):e=0∧f=0∧b≤s.length∧qP s b 62=true∧CC=(0,us,qA s b+1):=by
 rcases h with h|h|h
 ·exact absurd h.1 hg
 ·exact h.2
 ·exact absurd h.1 hg
theorem ci_err (h:CI s CC CG us b e f g) (he:¬ e=0):f=(b:Int)∧CC=(e,[],b)∧CG=us:=by
 rcases h with h|h|h
 ·exact absurd h.2.1 he
 ·exact absurd h.2.1 he
 ·exact h.2.2
theorem ci_stop (hb:b≤s.length) (hl:us.length<16) (h1:Yx s (16-us.length) us b=CC) (hx:(qJ s b).1=0) (hc:qP s (qJ s b).2.2 62=true) :
  CI s CC CG (us++[(qJ s b).2.1]) (qA s (qJ s b).2.2) 0 0 false:=by
 have hp:=VE hb hx
 refine .inr (.inl ⟨rfl,rfl,rfl,zR hp.2,by rw [show qP s (qA s (qJ s b).2.2) 62=qP s (qJ s b).2.2 62 from by unfold qP;rw [vG]];exact hc,?_⟩)
 rw [← h1,YQ hl,if_pos hx,if_pos hc,vG]
theorem ci_next (hb:b≤s.length) (hl:us.length<16) (h1:Yx s (16-us.length) us b=CC) (h2:chG s (16-us.length) us b=CG) (hx:(qJ s b).1=0) (hc:¬ qP s (qJ s b).2.2 62=true) :
  CI s CC CG (us++[(qJ s b).2.1]) (qA s (qJ s b).2.2) 0 0 true:=by
 have hp:=VE hb hx
 refine .inl ⟨rfl,rfl,rfl,zR hp.2,by rw [List.length_append,List.length_singleton];omega,by rw [← h1,YQ hl,if_pos hx,if_neg hc,List.length_append,List.length_singleton],by rw [← h2,chG_at hl,if_pos hx]⟩
theorem ci_no (hl:us.length<16) (h1:Yx s (16-us.length) us b=CC) (h2:chG s (16-us.length) us b=CG) (hx:¬ (qJ s b).1=0) :
  CI s CC CG (us++[(qW (qC s b)).1]) (qJ s b).2.2 (qJ s b).1 (((qJ s b).2.2:Nat):Int) true :=
 .inr (.inr ⟨rfl,hx,rfl,by rw [← h1,YQ hl,if_neg hx],by rw [← h2,chG_at hl,if_neg hx]⟩)
theorem ci_much (hl:us.length=16) (h1:Yx s (16-us.length) us b=CC) (h2:chG s (16-us.length) us b=CG) :
  CI s CC CG (us++[(qW (qK s b)).1]) b 5 (b:Int) true :=
 .inr (.inr ⟨rfl,by decide,rfl,by rw [← h1,qky hl],by rw [← h2,chG_full hl]⟩)
end
def mC (g:Bool) (e:Int) (n:Nat):Nat:=if g=true∧e=0 then 17-n else 0
theorem qhv {g g':Bool} {e e':Int} {n n':Nat} (hg:g=true) (he:e=0) (hn:n≤16) (h:¬ (g'=true∧e'=0)):mC g' e' n'<mC g e n:=by
 rw [show mC g e n=17-n from if_pos ⟨hg,he⟩,show mC g' e' n'=0 from if_neg h];omega
theorem mC_next {g:Bool} {e:Int} {n n':Nat} (hg:g=true) (he:e=0) (hn:n≤16) (h:n<n'):mC true 0 n'<mC g e n:=by
 rw [show mC g e n=17-n from if_pos ⟨hg,he⟩,show mC true 0 n'=17-n' from if_pos ⟨rfl,rfl⟩];omega
theorem QX {P:Int→Prop} {m:Int} (h:∀ x,-7≤x→x<m→¬ P x) (hp:¬ P m):∀ x,-7≤x→x<m+1→¬ P x:=fun x h1 h2=>by
 by_cases c:x<m
 ·exact h x h1 c
 ·rw [show x=m from by omega];exact hp
theorem qfo (s:List UInt8) (hs:s.length≤140737488351232):PC Tryz.prog 78 [(sv (st s))] [] (.tup [(.agg [(iv ((qY s).1.1)),(iv ((qY s).1.2))]),(iv ((qY s).2))]) [none]:=by
 refine zG Tryz.func78 rfl (by kernel_rfl) (Nat.le_of_ble_eq_true rfl) (by kernel_rfl) (l0:=[ps 0 (sv (st s))]) rfl (fun c0 Bor hc0=>?_)
 refine qB<|qH qD [.k1,.n,.n] [ps 2 (.opt 0 0),pb 0 41 [(iv 0),(iv 0)]]<|qB<|qH qD [.k2,.n,.r] [ps 4 (iv 0)]<|qB<|qB<|yC qD 1 [.k3,.n,.r] [ps 13 (bv (Lib.hasPrefix s ([45]:TX)))] (zO 32 (wY s 0 ([45]:TX) (by omega) (by omega) (by decide) (by decide)) oz) ?_
 by_cases h1:(Lib.hasPrefix s ([45]:TX))=true
 ·refine qL (b:=(Lib.hasPrefix s ([45]:TX))) rfl h1<|qH qD [.k2,.d,.n,.d,.r] [ps 4 (iv 1)]<|qB ?_
  have hi:((1:Nat)=1∧Lib.hasPrefix s [45]=true)∨((1:Nat)=0∧Lib.hasPrefix s [45]=false):=.inl ⟨rfl,h1⟩
  have hi2:=(tOf_i hi).2.1
  refine qH qD [.k3,.n,.r] [ps 5 (iv 1)]<|qB<|qX<|zy (α:={x:Nat // 1≤x∧x≤s.length∧(∀ b∈(s.take x).drop 1,b∈quals)}) (fun x=>[ps 0 (sv (st s)),ps 2 (.opt 0 0),ps 4 (nv x.1),ps 5 (iv 1),pb 0 41 [(iv 0),(iv 0)]]) (fun x=>s.length-x.1) 1 ⟨1,⟨Nat.le_refl _,hi2,by rw [List.drop_eq_nil_of_le (show (s.take 1).length≤1 from by rw [List.length_take];omega)];simp⟩⟩ (Wk.ren2 _ 0 hc0 [0] rfl rfl (by kernel_rfl) (by kernel_rfl)) ?_
  rintro ⟨n,⟨hk1,hk2,hd⟩⟩
  refine qB<|qB ?_
  by_cases h2:(n:Int)<(s.length:Int)
  ·by_cases h3:(((s.getD n 0).toNat:Nat):Int)=80
   ·refine zD qD (gy 5 9++[(14,.gd true (.yes true))]++gy 15 18++[(33,.yes true)]) [ps 0 (sv (st s)),ps 2 (.opt 0 0),ps 4 (nv n),ps 5 (iv 1),ps 48 (bv true),pb 0 41 [(iv 0),(iv 0)]] (on 3 (qT h2) (oc (by first|omega|(simp <;> omega):(0:Int)≤(n:Int)∧(n:Int)<(s.length:Int)) (on 2 (qT h2) (on 4 (qT h3) (oc (qT h2) (oc (qT h3) (oc (qT h2) (on 4 tt (on 2 (qT h2) (on 4 tt (on 2 (qT h2) (on 4 tt (on 2 (qT h2) oz)))))))))))))<|qL (b:=true) rfl rfl<|qF<|qX<|qQ qD [] [.k2,.d,.n,.k1,.d,.r] [ps 4 (iv (((n:Nat):Int)+1))] (oi (((n:Nat):Int)+1) (by omega) oz)<|qZ ?_
    have hts:=vw (s:=s) hk1 (by omega)
    exact qq ⟨n+1,⟨by show 1≤n+1;omega,by show n+1≤s.length;omega,by show ∀ b∈(s.take (n+1)).drop 1,b∈quals;rw [hts];intro b hb;rcases List.mem_append.1 hb with hb|hb;exact hd b hb;rw [List.mem_singleton.1 hb];exact YN (.inl h3)⟩⟩ (Wk.trans (Wk.eq (show _=[ps 0 (sv (st s)),ps 2 (.opt 0 0),ps 4 (nv (n+1)),ps 5 (iv 1),pb 0 41 [(iv 0),(iv 0)]] from by rfl)) (Wk.ren2 _ 0 hc0 [0] rfl rfl (by kernel_rfl) (by kernel_rfl))) (show s.length-(n+1)<s.length-n from by show s.length-(n+1)<s.length-n;omega)
   by_cases h4:(((s.getD n 0).toNat:Nat):Int)=77
   ·refine zD qD (gy 5 5++gn 10 4++[(14,.gd true (.yes false))]++gy 15 5++[(20,.gd true (.yes true))]++gy 21 12++[(33,.yes true)]) [ps 0 (sv (st s)),ps 2 (.opt 0 0),ps 4 (nv n),ps 5 (iv 1),ps 48 (bv true),pb 0 41 [(iv 0),(iv 0)]] (on 3 (qT h2) (oc (by first|omega|(simp <;> omega):(0:Int)≤(n:Int)∧(n:Int)<(s.length:Int)) (on 2 (qT h2) (on 3 (qV h3) (oc (by first|omega|(simp <;> omega):(0:Int)≤(n:Int)∧(n:Int)<(s.length:Int)) (oc (qV h3) (oc (qT h2) (oc (qV h3) (oc (qT h2) (on 4 (qT h4) (oc (qT h2) (oc (qT h4) (oc (qT h2) (on 4 tt (on 2 (qT h2) (on 4 tt (on 2 (qT h2) oz)))))))))))))))))<|qL (b:=true) rfl rfl<|qF<|qX<|qQ qD [] [.k2,.d,.n,.k1,.d,.r] [ps 4 (iv (((n:Nat):Int)+1))] (oi (((n:Nat):Int)+1) (by omega) oz)<|qZ ?_
    have hts:=vw (s:=s) hk1 (by omega)
    exact qq ⟨n+1,⟨by show 1≤n+1;omega,by show n+1≤s.length;omega,by show ∀ b∈(s.take (n+1)).drop 1,b∈quals;rw [hts];intro b hb;rcases List.mem_append.1 hb with hb|hb;exact hd b hb;rw [List.mem_singleton.1 hb];exact YN (.inr (.inl h4))⟩⟩ (Wk.trans (Wk.eq (show _=[ps 0 (sv (st s)),ps 2 (.opt 0 0),ps 4 (nv (n+1)),ps 5 (iv 1),pb 0 41 [(iv 0),(iv 0)]] from by rfl)) (Wk.ren2 _ 0 hc0 [0] rfl rfl (by kernel_rfl) (by kernel_rfl))) (show s.length-(n+1)<s.length-n from by show s.length-(n+1)<s.length-n;omega)
   by_cases h5:(((s.getD n 0).toNat:Nat):Int)=109
   ·refine zD qD (gy 5 5++gn 10 4++[(14,.gd true (.yes false)),(15,.gd true .no)]++gn 16 4++[(20,.gd true (.yes false))]++gy 21 5++[(26,.gd true (.yes true))]++gy 27 6++[(33,.yes true)]) [ps 0 (sv (st s)),ps 2 (.opt 0 0),ps 4 (nv n),ps 5 (iv 1),ps 48 (bv true),pb 0 41 [(iv 0),(iv 0)]] (on 3 (qT h2) (oc (by first|omega|(simp <;> omega):(0:Int)≤(n:Int)∧(n:Int)<(s.length:Int)) (on 2 (qT h2) (on 3 (qV h3) (oc (by first|omega|(simp <;> omega):(0:Int)≤(n:Int)∧(n:Int)<(s.length:Int)) (oc (qV h3) (oc (qT h2) (oc (qV h3) (oc (qT h2) (on 3 (qV h4) (oc (by first|omega|(simp <;> omega):(0:Int)≤(n:Int)∧(n:Int)<(s.length:Int)) (oc (qV h4) (oc (qT h2) (oc (qV h4) (oc (qT h2) (on 4 (qT h5) (oc (qT h2) (oc (qT h5) (oc (qT h2) (on 4 tt (on 2 (qT h2) oz)))))))))))))))))))))<|qL (b:=true) rfl rfl<|qF<|qX<|qQ qD [] [.k2,.d,.n,.k1,.d,.r] [ps 4 (iv (((n:Nat):Int)+1))] (oi (((n:Nat):Int)+1) (by omega) oz)<|qZ ?_
    have hts:=vw (s:=s) hk1 (by omega)
    exact qq ⟨n+1,⟨by show 1≤n+1;omega,by show n+1≤s.length;omega,by show ∀ b∈(s.take (n+1)).drop 1,b∈quals;rw [hts];intro b hb;rcases List.mem_append.1 hb with hb|hb;exact hd b hb;rw [List.mem_singleton.1 hb];exact YN (.inr (.inr (.inl h5)))⟩⟩ (Wk.trans (Wk.eq (show _=[ps 0 (sv (st s)),ps 2 (.opt 0 0),ps 4 (nv (n+1)),ps 5 (iv 1),pb 0 41 [(iv 0),(iv 0)]] from by rfl)) (Wk.ren2 _ 0 hc0 [0] rfl rfl (by kernel_rfl) (by kernel_rfl))) (show s.length-(n+1)<s.length-n from by show s.length-(n+1)<s.length-n;omega)
   by_cases h6:(((s.getD n 0).toNat:Nat):Int)=65
   ·refine zD qD (gy 5 5++gn 10 4++[(14,.gd true (.yes false)),(15,.gd true .no)]++gn 16 4++[(20,.gd true (.yes false)),(21,.gd true .no)]++gn 22 4++[(26,.gd true (.yes false))]++gy 27 5++[(32,.gd true (.yes true)),(33,.yes true)]) [ps 0 (sv (st s)),ps 2 (.opt 0 0),ps 4 (nv n),ps 5 (iv 1),ps 48 (bv true),pb 0 41 [(iv 0),(iv 0)]] (on 3 (qT h2) (oc (by first|omega|(simp <;> omega):(0:Int)≤(n:Int)∧(n:Int)<(s.length:Int)) (on 2 (qT h2) (on 3 (qV h3) (oc (by first|omega|(simp <;> omega):(0:Int)≤(n:Int)∧(n:Int)<(s.length:Int)) (oc (qV h3) (oc (qT h2) (oc (qV h3) (oc (qT h2) (on 3 (qV h4) (oc (by first|omega|(simp <;> omega):(0:Int)≤(n:Int)∧(n:Int)<(s.length:Int)) (oc (qV h4) (oc (qT h2) (oc (qV h4) (oc (qT h2) (on 3 (qV h5) (oc (by first|omega|(simp <;> omega):(0:Int)≤(n:Int)∧(n:Int)<(s.length:Int)) (oc (qV h5) (oc (qT h2) (oc (qV h5) (oc (qT h2) (on 4 (qT h6) (oc (qT h2) (oc (qT h6) (oc (qT h2) oz)))))))))))))))))))))))))<|qL (b:=true) rfl rfl<|qF<|qX<|qQ qD [] [.k2,.d,.n,.k1,.d,.r] [ps 4 (iv (((n:Nat):Int)+1))] (oi (((n:Nat):Int)+1) (by omega) oz)<|qZ ?_
    have hts:=vw (s:=s) hk1 (by omega)
    exact qq ⟨n+1,⟨by show 1≤n+1;omega,by show n+1≤s.length;omega,by show ∀ b∈(s.take (n+1)).drop 1,b∈quals;rw [hts];intro b hb;rcases List.mem_append.1 hb with hb|hb;exact hd b hb;rw [List.mem_singleton.1 hb];exact YN (.inr (.inr (.inr (.inl h6))))⟩⟩ (Wk.trans (Wk.eq (show _=[ps 0 (sv (st s)),ps 2 (.opt 0 0),ps 4 (nv (n+1)),ps 5 (iv 1),pb 0 41 [(iv 0),(iv 0)]] from by rfl)) (Wk.ren2 _ 0 hc0 [0] rfl rfl (by kernel_rfl) (by kernel_rfl))) (show s.length-(n+1)<s.length-n from by show s.length-(n+1)<s.length-n;omega)
   refine zD qD (gy 5 5++gn 10 4++[(14,.gd true (.yes false)),(15,.gd true .no)]++gn 16 4++[(20,.gd true (.yes false)),(21,.gd true .no)]++gn 22 4++[(26,.gd true (.yes false)),(27,.gd true .no)]++gn 28 4++[(32,.gd true (.yes false)),(33,.yes true)]) [ps 0 (sv (st s)),ps 2 (.opt 0 0),ps 4 (nv n),ps 5 (iv 1),ps 48 (bv (decide ((((s.getD n 0).toNat:Nat):Int)=100))),pb 0 41 [(iv 0),(iv 0)]] (on 3 (qT h2) (oc (by first|omega|(simp <;> omega):(0:Int)≤(n:Int)∧(n:Int)<(s.length:Int)) (on 2 (qT h2) (on 3 (qV h3) (oc (by first|omega|(simp <;> omega):(0:Int)≤(n:Int)∧(n:Int)<(s.length:Int)) (oc (qV h3) (oc (qT h2) (oc (qV h3) (oc (qT h2) (on 3 (qV h4) (oc (by first|omega|(simp <;> omega):(0:Int)≤(n:Int)∧(n:Int)<(s.length:Int)) (oc (qV h4) (oc (qT h2) (oc (qV h4) (oc (qT h2) (on 3 (qV h5) (oc (by first|omega|(simp <;> omega):(0:Int)≤(n:Int)∧(n:Int)<(s.length:Int)) (oc (qV h5) (oc (qT h2) (oc (qV h5) (oc (qT h2) (on 3 (qV h6) (oc (by first|omega|(simp <;> omega):(0:Int)≤(n:Int)∧(n:Int)<(s.length:Int)) (oc (qV h6) (oc (qT h2) (oc (qV h6) (oc (qT h2) oz))))))))))))))))))))))))))) ?_
   by_cases h7:(((s.getD n 0).toNat:Nat):Int)=100
   ·refine qS (qT h7)<|qF<|qX<|qQ qD [] [.k2,.d,.n,.k1,.d,.r] [ps 4 (iv (((n:Nat):Int)+1))] (oi (((n:Nat):Int)+1) (by omega) oz)<|qZ ?_
    have hts:=vw (s:=s) hk1 (by omega)
    exact qq ⟨n+1,⟨by show 1≤n+1;omega,by show n+1≤s.length;omega,by show ∀ b∈(s.take (n+1)).drop 1,b∈quals;rw [hts];intro b hb;rcases List.mem_append.1 hb with hb|hb;exact hd b hb;rw [List.mem_singleton.1 hb];exact YN (.inr (.inr (.inr (.inr (h7)))))⟩⟩ (Wk.trans (Wk.eq (show _=[ps 0 (sv (st s)),ps 2 (.opt 0 0),ps 4 (nv (n+1)),ps 5 (iv 1),pb 0 41 [(iv 0),(iv 0)]] from by rfl)) (Wk.ren2 _ 0 hc0 [0] rfl rfl (by kernel_rfl) (by kernel_rfl))) (show s.length-(n+1)<s.length-n from by show s.length-(n+1)<s.length-n;omega)
   refine qR (qV h7)<|zI rfl rfl<|qB ?_
   obtain ⟨hdO,hqO⟩:=qaz hi hk1 hk2 hd (fun _=>noqual h3 h4 h5 h6 h7)
   refine qQ qD [(2,.val (.av (.string (st (qz s))))),(3,.call [] [(sv (st (qz s)))] [] (.tup [(iv ((qI (qz s)).1)),(bv ((qI (qz s)).2))]) [])] [.k4,.n,.n,.d,.r] [ps 6 (iv ((qI (qz s)).1)),ps 7 (bv ((qI (qz s)).2))] (oc (by first|omega|(simp <;> omega):(0:Int)≤(n:Int)∧(n:Int)≤(s.length:Int)∧(s.length:Int)≤(s.length:Int)) (oc (by rw [hdO];exact ww _ _ _ rfl:(st s).extract (((n:Nat):Int):Int).toNat (((s.length:Nat):Int):Int).toNat=st (qz s)) (zO 297 (wq (qz s) (by have:=qfe s;have:=qdv s;omega)) oz)))<|qB<|qB ?_
   obtain ⟨v,hv⟩:∃ v,v=(qI (qz s)).1:=⟨_,rfl⟩
   have hvb:=VH (qz s)
   rw [← hv] at hvb
   refine qj (Wk.eq (show _=[ps 0 (sv (st s)),ps 2 (.opt 0 0),ps 4 (nv n),ps 5 (iv 1),ps 6 (iv v),ps 7 (bv ((qI (qz s)).2)),pb 0 41 [(iv 0),(iv 0)]] from by rw [← hv])) ?_
   by_cases h8:((qI (qz s)).2)=true
   ·by_cases h9:v<1
    ·refine qQ qD (gn 3 2++[(5,.yes false)]++gy 7 3++[(10,.yes true)]) [.k5,.d,.n,.r] [ps 68 (bv true)] (oc (congrArg Bool.not h8:(!((qI (qz s)).2))=false) (oc (congrArg Bool.not h8:(!((qI (qz s)).2))=false) (oc (congrArg Bool.not h8:(!((qI (qz s)).2))=false) (on 4 (qT h9) oz))))<|qL (b:=true) rfl rfl<|qB<|qH qD [.d,.k1,.n,.d,.d,.d,.d,.r] [ps 3 (iv 2)] ?_
     rw [vD (s:=s) (.inr (.inl (by rw [← hv];exact h9)))]
     exact qk hc0 [2,3] [0]
    refine qQ qD (gn 3 2++[(5,.yes false)]++gn 7 3++[(10,.yes false)]) [.k5,.d,.n,.r] [ps 68 (bv (decide (((n:Nat):Int)=1)))] (oc (congrArg Bool.not h8:(!((qI (qz s)).2))=false) (oc (congrArg Bool.not h8:(!((qI (qz s)).2))=false) (oc (congrArg Bool.not h8:(!((qI (qz s)).2))=false) (on 4 (qV h9) oz)))) ?_
    by_cases h10:(n:Int)=1
    ·refine qS (qT h10)<|qB<|qH qD [.d,.k1,.n,.d,.d,.d,.d,.r] [ps 3 (iv 2)] ?_
     rw [vD (s:=s) (.inr (.inr (List.eq_nil_of_length_eq_zero (by omega))))]
     exact qk hc0 [2,3] [0]
    refine qR (qV h10)<|qF<|qB<|qB ?_
    by_cases h11:201<v
    ·refine qQ qD (gy 3 4++[(7,.yes true)]) [.k2,.d,.k2,.d,.n,.r] [ps 77 (bv true)] (on 5 (qT h11) oz)<|qL (b:=true) rfl rfl<|qB<|qH qD [.d,.k1,.n,.d,.d,.d,.r] [ps 3 (iv 3)] ?_
     rw [wz (s:=s) h8 (by rw [← hv];exact h9) (fun c=>by rw [c] at hqO;simp at hqO;omega) (.inl (by unfold qU;omega))]
     exact qk hc0 [2,3] [0]
    refine qQ qD (gn 3 4++[(7,.yes false)]) [.k2,.d,.k2,.d,.n,.r] [ps 77 (bv (decide (6<(((n:Nat):Int)-1))))] (on 3 (qV h11) (oi (((n:Nat):Int)-1) (by omega) (on 2 (qV h11) oz))) ?_
    by_cases h12:6<(((n:Nat):Int)-1)
    ·refine qS (qT h12)<|qB<|qH qD [.d,.k1,.n,.d,.d,.d,.r] [ps 3 (iv 3)] ?_
     rw [wz (s:=s) h8 (by rw [← hv];exact h9) (fun c=>by rw [c] at hqO;simp at hqO;omega) (.inr (by omega))]
     exact qk hc0 [2,3] [0]
    refine qR (qV h12)<|qF<|qB<|qB ?_
    have hwb:=Pi.white_bd (v-1) (by omega)
    refine qH qD [.k4,.n,.d,.r] [ps 8 (iv (-7))]<|qX<|zy (α:={x:Int // -7≤x∧x≤7∧(∀ y,-7≤y→y<x→¬ ((qG (0-(v-1)) (0-(Pi.white (v-1)+y))).2=0∧(qG (0-(v-1)) (0-(Pi.white (v-1)+y))).1=s))}) (fun x=>[ps 0 (sv (st s)),ps 2 (.opt 0 0),ps 5 (iv 1),ps 6 (iv v),ps 8 (iv x.1),pb 0 41 [(iv 0),(iv 0)]]) (fun x=>(7-x.1).toNat) 1 ⟨(-7),⟨by decide,by decide,fun y a b=>absurd b (by show ¬ y < -7;omega)⟩⟩ (Wk.ren2 _ 0 hc0 [0] rfl rfl (by kernel_rfl) (by kernel_rfl)) ?_
    rintro ⟨m,⟨hm1,hm2,hm3⟩⟩
    refine qB<|qB<|zD qD [] [ps 0 (sv (st s)),ps 2 (.opt 0 0),ps 5 (iv 1),ps 6 (iv v),ps 8 (iv m),ps 80 (bv (decide (m≤6))),pb 0 41 [(iv 0),(iv 0)]] (oz) ?_
    by_cases h13:m≤6
    ·refine qS (qT h13)<|qF<|qB<|qX<|qB<|qQ qD [(4,.call [] [(iv (v-1))] [] (iv (Pi.white (v-1))) [])] [.k5,.n,.d,.k1,.n] [ps 9 (.opt 81 0),pb 81 41 [(iv (v-1)),(iv ((Pi.white (v-1))+m))]] (oi (v-1) (by omega) (oi (v-1) (by omega) (zO 49 (YU (v-1) (by omega) (by omega)) (oi ((Pi.white (v-1))+m) (by omega) oz))))<|qB<|qB<|qH qD [.k6,.n,.r] [ps 92 (bv true)]<|qL (b:=true) rfl rfl<|qQ qD [] [.k6,.d,.k1,.d,.n] [pb 81 41 [(iv (0-(v-1))),(iv (0-((Pi.white (v-1))+m)))]] (oi (0-(v-1)) (by omega) (oi (0-((Pi.white (v-1))+m)) (by omega) oz))<|qB<|yC qD 1 [.k6,.n,.n,.r] [ps 10 (sv (st ((qG (0-(v-1)) (0-((Pi.white (v-1))+m))).1))),ps 11 (iv ((qG (0-(v-1)) (0-((Pi.white (v-1))+m))).2))] (zO 185 (Zv (0-(v-1)) (0-((Pi.white (v-1))+m))) oz)<|qB ?_
     by_cases h14:((qG (0-(v-1)) (0-((Pi.white (v-1))+m))).2)=0
     ·refine qQ qD (gy 3 2++[(5,.gd true (.val (.av (.bool (decide (((qG (0-(v-1)) (0-((Pi.white (v-1))+m))).1)=s)))))),(6,.yes true)]) [.k6,.d,.d,.n,.r] [ps 111 (bv (decide (((qG (0-(v-1)) (0-((Pi.white (v-1))+m))).1)=s)))] (on 3 (qT h14) (oc (qv _ _:((st ((qG (0-(v-1)) (0-((Pi.white (v-1))+m))).1)).toList == (st s).toList)=decide (((qG (0-(v-1)) (0-((Pi.white (v-1))+m))).1)=s)) (oc (qT h14) oz))) ?_
      by_cases h15:((qG (0-(v-1)) (0-((Pi.white (v-1))+m))).1)=s
      ·refine qS (qT h15)<|qB<|zD qD [] [ps 2 (.opt 0 0),ps 3 (iv 0),pb 0 41 [(iv (0-(v-1))),(iv (0-((Pi.white (v-1))+m)))]] (oz) ?_
       rw [YA h14 h15]
       exact yk fun cx_ a_ hI_=>zB (rt hc0 [ps 2 (.opt 0 0),ps 3 (iv 0),pb 0 41 [(iv (0-(v-1))),(iv (0-((Pi.white (v-1))+m)))]] [0] hI_)
      refine qR (qV h15)<|qF<|qZ<|qQ qD [] [.k4,.d,.n,.d,.d,.k1,.d] [ps 8 (iv (m+1))] (oi (m+1) (by omega) oz) ?_
      exact qq ⟨m+1,⟨by show -7≤m+1;omega,by show m+1≤7;omega,QX (P:=fun m=>((qG (0-(v-1)) (0-(Pi.white (v-1)+m))).2=0∧(qG (0-(v-1)) (0-(Pi.white (v-1)+m))).1=s)) hm3 (fun c=>h15 c.2)⟩⟩ (Wk.trans (Wk.eq (show _=[ps 0 (sv (st s)),ps 2 (.opt 0 0),ps 5 (iv 1),ps 6 (iv v),ps 8 (iv (m+1)),pb 0 41 [(iv 0),(iv 0)]] from by rfl)) (Wk.ren2 _ 0 hc0 [0] rfl rfl (by kernel_rfl) (by kernel_rfl))) (show (7-(m+1)).toNat<(7-m).toNat from by show (7-(m+1)).toNat<(7-m).toNat;omega)
     refine qQ qD (gn 3 3++[(6,.yes false)]) [.k6,.d,.d,.n,.r] [ps 111 (bv false)] (on 4 (qV h14) oz)<|qO (b:=false) rfl rfl<|qF<|qZ<|qQ qD [] [.k4,.d,.n,.d,.d,.k1,.d] [ps 8 (iv (m+1))] (oi (m+1) (by omega) oz) ?_
     exact qq ⟨m+1,⟨by show -7≤m+1;omega,by show m+1≤7;omega,QX (P:=fun m=>((qG (0-(v-1)) (0-(Pi.white (v-1)+m))).2=0∧(qG (0-(v-1)) (0-(Pi.white (v-1)+m))).1=s)) hm3 (fun c=>h14 c.1)⟩⟩ (Wk.trans (Wk.eq (show _=[ps 0 (sv (st s)),ps 2 (.opt 0 0),ps 5 (iv 1),ps 6 (iv v),ps 8 (iv (m+1)),pb 0 41 [(iv 0),(iv 0)]] from by rfl)) (Wk.ren2 _ 0 hc0 [0] rfl rfl (by kernel_rfl) (by kernel_rfl))) (show (7-(m+1)).toNat<(7-m).toNat from by show (7-(m+1)).toNat<(7-m).toNat;omega)
    refine qR (qV h13)<|zI rfl rfl<|qB<|qH qD [.d,.k1,.n,.d,.d,.d,.d,.r] [ps 3 (iv 2)] ?_
    rw [VJ (s:=s) (i:=1) (n:=v) hi hv.symm h8 h9 (fun c=>by rw [c] at hqO;simp at hqO;omega) h11 (by omega) (fun x a b=>hm3 x a (by omega))]
    exact qk hc0 [2,3] [0]
   refine qQ qD (gy 3 2++[(5,.yes true)]++gy 7 3) [.k5,.d,.n,.r] [ps 68 (bv true)] (oc (congrArg Bool.not (Bool.eq_false_iff.2 h8):(!((qI (qz s)).2))=true) (oc (congrArg Bool.not (Bool.eq_false_iff.2 h8):(!((qI (qz s)).2))=true) (oc (congrArg Bool.not (Bool.eq_false_iff.2 h8):(!((qI (qz s)).2))=true) (on 3 tt oz))))<|qL (b:=true) rfl rfl<|qB<|qH qD [.d,.k1,.n,.d,.d,.d,.d,.r] [ps 3 (iv 2)] ?_
   rw [vD (s:=s) (.inl h8)]
   exact qk hc0 [2,3] [0]
  refine zD qD (gn 5 5++gn 14 2++gn 20 2++gn 26 2++[(32,.gd false .no),(33,.yes false)]) [ps 0 (sv (st s)),ps 2 (.opt 0 0),ps 4 (nv n),ps 5 (iv 1),ps 48 (bv false),pb 0 41 [(iv 0),(iv 0)]] (on 13 (qV h2) oz)<|qO (b:=false) rfl rfl<|zI rfl rfl<|qB ?_
  obtain ⟨hdO,hqO⟩:=qaz hi hk1 hk2 hd (fun c=>absurd c (by omega))
  refine qQ qD [(2,.val (.av (.string (st (qz s))))),(3,.call [] [(sv (st (qz s)))] [] (.tup [(iv ((qI (qz s)).1)),(bv ((qI (qz s)).2))]) [])] [.k4,.n,.n,.d,.r] [ps 6 (iv ((qI (qz s)).1)),ps 7 (bv ((qI (qz s)).2))] (oc (by first|omega|(simp <;> omega):(0:Int)≤(n:Int)∧(n:Int)≤(s.length:Int)∧(s.length:Int)≤(s.length:Int)) (oc (by rw [hdO];exact ww _ _ _ rfl:(st s).extract (((n:Nat):Int):Int).toNat (((s.length:Nat):Int):Int).toNat=st (qz s)) (zO 297 (wq (qz s) (by have:=qfe s;have:=qdv s;omega)) oz)))<|qB<|qB ?_
  obtain ⟨v,hv⟩:∃ v,v=(qI (qz s)).1:=⟨_,rfl⟩
  have hvb:=VH (qz s)
  rw [← hv] at hvb
  refine qj (Wk.eq (show _=[ps 0 (sv (st s)),ps 2 (.opt 0 0),ps 4 (nv n),ps 5 (iv 1),ps 6 (iv v),ps 7 (bv ((qI (qz s)).2)),pb 0 41 [(iv 0),(iv 0)]] from by rw [← hv])) ?_
  by_cases h16:((qI (qz s)).2)=true
  ·by_cases h17:v<1
   ·refine qQ qD (gn 3 2++[(5,.yes false)]++gy 7 3++[(10,.yes true)]) [.k5,.d,.n,.r] [ps 68 (bv true)] (oc (congrArg Bool.not h16:(!((qI (qz s)).2))=false) (oc (congrArg Bool.not h16:(!((qI (qz s)).2))=false) (oc (congrArg Bool.not h16:(!((qI (qz s)).2))=false) (on 4 (qT h17) oz))))<|qL (b:=true) rfl rfl<|qB<|qH qD [.d,.k1,.n,.d,.d,.d,.d,.r] [ps 3 (iv 2)] ?_
    rw [vD (s:=s) (.inr (.inl (by rw [← hv];exact h17)))]
    exact qk hc0 [2,3] [0]
   refine qQ qD (gn 3 2++[(5,.yes false)]++gn 7 3++[(10,.yes false)]) [.k5,.d,.n,.r] [ps 68 (bv (decide (((n:Nat):Int)=1)))] (oc (congrArg Bool.not h16:(!((qI (qz s)).2))=false) (oc (congrArg Bool.not h16:(!((qI (qz s)).2))=false) (oc (congrArg Bool.not h16:(!((qI (qz s)).2))=false) (on 4 (qV h17) oz)))) ?_
   by_cases h18:(n:Int)=1
   ·refine qS (qT h18)<|qB<|qH qD [.d,.k1,.n,.d,.d,.d,.d,.r] [ps 3 (iv 2)] ?_
    rw [vD (s:=s) (.inr (.inr (List.eq_nil_of_length_eq_zero (by omega))))]
    exact qk hc0 [2,3] [0]
   refine qR (qV h18)<|qF<|qB<|qB ?_
   by_cases h19:201<v
   ·refine qQ qD (gy 3 4++[(7,.yes true)]) [.k2,.d,.k2,.d,.n,.r] [ps 77 (bv true)] (on 5 (qT h19) oz)<|qL (b:=true) rfl rfl<|qB<|qH qD [.d,.k1,.n,.d,.d,.d,.r] [ps 3 (iv 3)] ?_
    rw [wz (s:=s) h16 (by rw [← hv];exact h17) (fun c=>by rw [c] at hqO;simp at hqO;omega) (.inl (by unfold qU;omega))]
    exact qk hc0 [2,3] [0]
   refine qQ qD (gn 3 4++[(7,.yes false)]) [.k2,.d,.k2,.d,.n,.r] [ps 77 (bv (decide (6<(((n:Nat):Int)-1))))] (on 3 (qV h19) (oi (((n:Nat):Int)-1) (by omega) (on 2 (qV h19) oz))) ?_
   by_cases h20:6<(((n:Nat):Int)-1)
   ·refine qS (qT h20)<|qB<|qH qD [.d,.k1,.n,.d,.d,.d,.r] [ps 3 (iv 3)] ?_
    rw [wz (s:=s) h16 (by rw [← hv];exact h17) (fun c=>by rw [c] at hqO;simp at hqO;omega) (.inr (by omega))]
    exact qk hc0 [2,3] [0]
   refine qR (qV h20)<|qF<|qB<|qB ?_
   have hwb:=Pi.white_bd (v-1) (by omega)
   refine qH qD [.k4,.n,.d,.r] [ps 8 (iv (-7))]<|qX<|zy (α:={x:Int // -7≤x∧x≤7∧(∀ y,-7≤y→y<x→¬ ((qG (0-(v-1)) (0-(Pi.white (v-1)+y))).2=0∧(qG (0-(v-1)) (0-(Pi.white (v-1)+y))).1=s))}) (fun x=>[ps 0 (sv (st s)),ps 2 (.opt 0 0),ps 5 (iv 1),ps 6 (iv v),ps 8 (iv x.1),pb 0 41 [(iv 0),(iv 0)]]) (fun x=>(7-x.1).toNat) 1 ⟨(-7),⟨by decide,by decide,fun y a b=>absurd b (by show ¬ y < -7;omega)⟩⟩ (Wk.ren2 _ 0 hc0 [0] rfl rfl (by kernel_rfl) (by kernel_rfl)) ?_
   rintro ⟨m,⟨hm1,hm2,hm3⟩⟩
   refine qB<|qB<|zD qD [] [ps 0 (sv (st s)),ps 2 (.opt 0 0),ps 5 (iv 1),ps 6 (iv v),ps 8 (iv m),ps 80 (bv (decide (m≤6))),pb 0 41 [(iv 0),(iv 0)]] (oz) ?_
   by_cases h21:m≤6
   ·refine qS (qT h21)<|qF<|qB<|qX<|qB<|qQ qD [(4,.call [] [(iv (v-1))] [] (iv (Pi.white (v-1))) [])] [.k5,.n,.d,.k1,.n] [ps 9 (.opt 81 0),pb 81 41 [(iv (v-1)),(iv ((Pi.white (v-1))+m))]] (oi (v-1) (by omega) (oi (v-1) (by omega) (zO 49 (YU (v-1) (by omega) (by omega)) (oi ((Pi.white (v-1))+m) (by omega) oz))))<|qB<|qB<|qH qD [.k6,.n,.r] [ps 92 (bv true)]<|qL (b:=true) rfl rfl<|qQ qD [] [.k6,.d,.k1,.d,.n] [pb 81 41 [(iv (0-(v-1))),(iv (0-((Pi.white (v-1))+m)))]] (oi (0-(v-1)) (by omega) (oi (0-((Pi.white (v-1))+m)) (by omega) oz))<|qB<|yC qD 1 [.k6,.n,.n,.r] [ps 10 (sv (st ((qG (0-(v-1)) (0-((Pi.white (v-1))+m))).1))),ps 11 (iv ((qG (0-(v-1)) (0-((Pi.white (v-1))+m))).2))] (zO 185 (Zv (0-(v-1)) (0-((Pi.white (v-1))+m))) oz)<|qB ?_
    by_cases h22:((qG (0-(v-1)) (0-((Pi.white (v-1))+m))).2)=0
    ·refine qQ qD (gy 3 2++[(5,.gd true (.val (.av (.bool (decide (((qG (0-(v-1)) (0-((Pi.white (v-1))+m))).1)=s)))))),(6,.yes true)]) [.k6,.d,.d,.n,.r] [ps 111 (bv (decide (((qG (0-(v-1)) (0-((Pi.white (v-1))+m))).1)=s)))] (on 3 (qT h22) (oc (qv _ _:((st ((qG (0-(v-1)) (0-((Pi.white (v-1))+m))).1)).toList == (st s).toList)=decide (((qG (0-(v-1)) (0-((Pi.white (v-1))+m))).1)=s)) (oc (qT h22) oz))) ?_
     by_cases h23:((qG (0-(v-1)) (0-((Pi.white (v-1))+m))).1)=s
     ·refine qS (qT h23)<|qB<|zD qD [] [ps 2 (.opt 0 0),ps 3 (iv 0),pb 0 41 [(iv (0-(v-1))),(iv (0-((Pi.white (v-1))+m)))]] (oz) ?_
      rw [YA h22 h23]
      exact yk fun cx_ a_ hI_=>zB (rt hc0 [ps 2 (.opt 0 0),ps 3 (iv 0),pb 0 41 [(iv (0-(v-1))),(iv (0-((Pi.white (v-1))+m)))]] [0] hI_)
     refine qR (qV h23)<|qF<|qZ<|qQ qD [] [.k4,.d,.n,.d,.d,.k1,.d] [ps 8 (iv (m+1))] (oi (m+1) (by omega) oz) ?_
     exact qq ⟨m+1,⟨by show -7≤m+1;omega,by show m+1≤7;omega,QX (P:=fun m=>((qG (0-(v-1)) (0-(Pi.white (v-1)+m))).2=0∧(qG (0-(v-1)) (0-(Pi.white (v-1)+m))).1=s)) hm3 (fun c=>h23 c.2)⟩⟩ (Wk.trans (Wk.eq (show _=[ps 0 (sv (st s)),ps 2 (.opt 0 0),ps 5 (iv 1),ps 6 (iv v),ps 8 (iv (m+1)),pb 0 41 [(iv 0),(iv 0)]] from by rfl)) (Wk.ren2 _ 0 hc0 [0] rfl rfl (by kernel_rfl) (by kernel_rfl))) (show (7-(m+1)).toNat<(7-m).toNat from by show (7-(m+1)).toNat<(7-m).toNat;omega)
    refine qQ qD (gn 3 3++[(6,.yes false)]) [.k6,.d,.d,.n,.r] [ps 111 (bv false)] (on 4 (qV h22) oz)<|qO (b:=false) rfl rfl<|qF<|qZ<|qQ qD [] [.k4,.d,.n,.d,.d,.k1,.d] [ps 8 (iv (m+1))] (oi (m+1) (by omega) oz) ?_
    exact qq ⟨m+1,⟨by show -7≤m+1;omega,by show m+1≤7;omega,QX (P:=fun m=>((qG (0-(v-1)) (0-(Pi.white (v-1)+m))).2=0∧(qG (0-(v-1)) (0-(Pi.white (v-1)+m))).1=s)) hm3 (fun c=>h22 c.1)⟩⟩ (Wk.trans (Wk.eq (show _=[ps 0 (sv (st s)),ps 2 (.opt 0 0),ps 5 (iv 1),ps 6 (iv v),ps 8 (iv (m+1)),pb 0 41 [(iv 0),(iv 0)]] from by rfl)) (Wk.ren2 _ 0 hc0 [0] rfl rfl (by kernel_rfl) (by kernel_rfl))) (show (7-(m+1)).toNat<(7-m).toNat from by show (7-(m+1)).toNat<(7-m).toNat;omega)
   refine qR (qV h21)<|zI rfl rfl<|qB<|qH qD [.d,.k1,.n,.d,.d,.d,.d,.r] [ps 3 (iv 2)] ?_
   rw [VJ (s:=s) (i:=1) (n:=v) hi hv.symm h16 h17 (fun c=>by rw [c] at hqO;simp at hqO;omega) h19 (by omega) (fun x a b=>hm3 x a (by omega))]
   exact qk hc0 [2,3] [0]
  refine qQ qD (gy 3 2++[(5,.yes true)]++gy 7 3) [.k5,.d,.n,.r] [ps 68 (bv true)] (oc (congrArg Bool.not (Bool.eq_false_iff.2 h16):(!((qI (qz s)).2))=true) (oc (congrArg Bool.not (Bool.eq_false_iff.2 h16):(!((qI (qz s)).2))=true) (oc (congrArg Bool.not (Bool.eq_false_iff.2 h16):(!((qI (qz s)).2))=true) (on 3 tt oz))))<|qL (b:=true) rfl rfl<|qB<|qH qD [.d,.k1,.n,.d,.d,.d,.d,.r] [ps 3 (iv 2)] ?_
  rw [vD (s:=s) (.inl h16)]
  exact qk hc0 [2,3] [0]
 refine qO (b:=(Lib.hasPrefix s ([45]:TX))) rfl (Bool.eq_false_iff.2 h1)<|qF<|qB ?_
 have hi:((0:Nat)=1∧Lib.hasPrefix s [45]=true)∨((0:Nat)=0∧Lib.hasPrefix s [45]=false):=.inr ⟨rfl,eq_false_of_ne_true h1⟩
 have hi2:=(tOf_i hi).2.1
 refine qH qD [.k3,.n,.d,.r] [ps 5 (iv 0)]<|qB<|qX<|zy (α:={x:Nat // 0≤x∧x≤s.length∧(∀ b∈(s.take x).drop 0,b∈quals)}) (fun x=>[ps 0 (sv (st s)),ps 2 (.opt 0 0),ps 4 (nv x.1),ps 5 (iv 0),pb 0 41 [(iv 0),(iv 0)]]) (fun x=>s.length-x.1) 1 ⟨0,⟨Nat.le_refl _,hi2,by rw [List.drop_eq_nil_of_le (show (s.take 0).length≤0 from by rw [List.length_take];omega)];simp⟩⟩ (Wk.ren2 _ 0 hc0 [0] rfl rfl (by kernel_rfl) (by kernel_rfl)) ?_
 rintro ⟨n,⟨hk1,hk2,hd⟩⟩
 refine qB<|qB ?_
 by_cases h24:(n:Int)<(s.length:Int)
 ·by_cases h25:(((s.getD n 0).toNat:Nat):Int)=80
  ·refine zD qD (gy 5 9++[(14,.gd true (.yes true))]++gy 15 18++[(33,.yes true)]) [ps 0 (sv (st s)),ps 2 (.opt 0 0),ps 4 (nv n),ps 5 (iv 0),ps 48 (bv true),pb 0 41 [(iv 0),(iv 0)]] (on 3 (qT h24) (oc (by first|omega|(simp <;> omega):(0:Int)≤(n:Int)∧(n:Int)<(s.length:Int)) (on 2 (qT h24) (on 4 (qT h25) (oc (qT h24) (oc (qT h25) (oc (qT h24) (on 4 tt (on 2 (qT h24) (on 4 tt (on 2 (qT h24) (on 4 tt (on 2 (qT h24) oz)))))))))))))<|qL (b:=true) rfl rfl<|qF<|qX<|qQ qD [] [.k2,.d,.n,.k1,.d,.r] [ps 4 (iv (((n:Nat):Int)+1))] (oi (((n:Nat):Int)+1) (by omega) oz)<|qZ ?_
   have hts:=vw (s:=s) hk1 (by omega)
   exact qq ⟨n+1,⟨by show 0≤n+1;omega,by show n+1≤s.length;omega,by show ∀ b∈(s.take (n+1)).drop 0,b∈quals;rw [hts];intro b hb;rcases List.mem_append.1 hb with hb|hb;exact hd b hb;rw [List.mem_singleton.1 hb];exact YN (.inl h25)⟩⟩ (Wk.trans (Wk.eq (show _=[ps 0 (sv (st s)),ps 2 (.opt 0 0),ps 4 (nv (n+1)),ps 5 (iv 0),pb 0 41 [(iv 0),(iv 0)]] from by rfl)) (Wk.ren2 _ 0 hc0 [0] rfl rfl (by kernel_rfl) (by kernel_rfl))) (show s.length-(n+1)<s.length-n from by show s.length-(n+1)<s.length-n;omega)
  by_cases h26:(((s.getD n 0).toNat:Nat):Int)=77
  ·refine zD qD (gy 5 5++gn 10 4++[(14,.gd true (.yes false))]++gy 15 5++[(20,.gd true (.yes true))]++gy 21 12++[(33,.yes true)]) [ps 0 (sv (st s)),ps 2 (.opt 0 0),ps 4 (nv n),ps 5 (iv 0),ps 48 (bv true),pb 0 41 [(iv 0),(iv 0)]] (on 3 (qT h24) (oc (by first|omega|(simp <;> omega):(0:Int)≤(n:Int)∧(n:Int)<(s.length:Int)) (on 2 (qT h24) (on 3 (qV h25) (oc (by first|omega|(simp <;> omega):(0:Int)≤(n:Int)∧(n:Int)<(s.length:Int)) (oc (qV h25) (oc (qT h24) (oc (qV h25) (oc (qT h24) (on 4 (qT h26) (oc (qT h24) (oc (qT h26) (oc (qT h24) (on 4 tt (on 2 (qT h24) (on 4 tt (on 2 (qT h24) oz)))))))))))))))))<|qL (b:=true) rfl rfl<|qF<|qX<|qQ qD [] [.k2,.d,.n,.k1,.d,.r] [ps 4 (iv (((n:Nat):Int)+1))] (oi (((n:Nat):Int)+1) (by omega) oz)<|qZ ?_
   have hts:=vw (s:=s) hk1 (by omega)
   exact qq ⟨n+1,⟨by show 0≤n+1;omega,by show n+1≤s.length;omega,by show ∀ b∈(s.take (n+1)).drop 0,b∈quals;rw [hts];intro b hb;rcases List.mem_append.1 hb with hb|hb;exact hd b hb;rw [List.mem_singleton.1 hb];exact YN (.inr (.inl h26))⟩⟩ (Wk.trans (Wk.eq (show _=[ps 0 (sv (st s)),ps 2 (.opt 0 0),ps 4 (nv (n+1)),ps 5 (iv 0),pb 0 41 [(iv 0),(iv 0)]] from by rfl)) (Wk.ren2 _ 0 hc0 [0] rfl rfl (by kernel_rfl) (by kernel_rfl))) (show s.length-(n+1)<s.length-n from by show s.length-(n+1)<s.length-n;omega)
  by_cases h27:(((s.getD n 0).toNat:Nat):Int)=109
  ·refine zD qD (gy 5 5++gn 10 4++[(14,.gd true (.yes false)),(15,.gd true .no)]++gn 16 4++[(20,.gd true (.yes false))]++gy 21 5++[(26,.gd true (.yes true))]++gy 27 6++[(33,.yes true)]) [ps 0 (sv (st s)),ps 2 (.opt 0 0),ps 4 (nv n),ps 5 (iv 0),ps 48 (bv true),pb 0 41 [(iv 0),(iv 0)]] (on 3 (qT h24) (oc (by first|omega|(simp <;> omega):(0:Int)≤(n:Int)∧(n:Int)<(s.length:Int)) (on 2 (qT h24) (on 3 (qV h25) (oc (by first|omega|(simp <;> omega):(0:Int)≤(n:Int)∧(n:Int)<(s.length:Int)) (oc (qV h25) (oc (qT h24) (oc (qV h25) (oc (qT h24) (on 3 (qV h26) (oc (by first|omega|(simp <;> omega):(0:Int)≤(n:Int)∧(n:Int)<(s.length:Int)) (oc (qV h26) (oc (qT h24) (oc (qV h26) (oc (qT h24) (on 4 (qT h27) (oc (qT h24) (oc (qT h27) (oc (qT h24) (on 4 tt (on 2 (qT h24) oz)))))))))))))))))))))<|qL (b:=true) rfl rfl<|qF<|qX<|qQ qD [] [.k2,.d,.n,.k1,.d,.r] [ps 4 (iv (((n:Nat):Int)+1))] (oi (((n:Nat):Int)+1) (by omega) oz)<|qZ ?_
   have hts:=vw (s:=s) hk1 (by omega)
   exact qq ⟨n+1,⟨by show 0≤n+1;omega,by show n+1≤s.length;omega,by show ∀ b∈(s.take (n+1)).drop 0,b∈quals;rw [hts];intro b hb;rcases List.mem_append.1 hb with hb|hb;exact hd b hb;rw [List.mem_singleton.1 hb];exact YN (.inr (.inr (.inl h27)))⟩⟩ (Wk.trans (Wk.eq (show _=[ps 0 (sv (st s)),ps 2 (.opt 0 0),ps 4 (nv (n+1)),ps 5 (iv 0),pb 0 41 [(iv 0),(iv 0)]] from by rfl)) (Wk.ren2 _ 0 hc0 [0] rfl rfl (by kernel_rfl) (by kernel_rfl))) (show s.length-(n+1)<s.length-n from by show s.length-(n+1)<s.length-n;omega)
  by_cases h28:(((s.getD n 0).toNat:Nat):Int)=65
  ·refine zD qD (gy 5 5++gn 10 4++[(14,.gd true (.yes false)),(15,.gd true .no)]++gn 16 4++[(20,.gd true (.yes false)),(21,.gd true .no)]++gn 22 4++[(26,.gd true (.yes false))]++gy 27 5++[(32,.gd true (.yes true)),(33,.yes true)]) [ps 0 (sv (st s)),ps 2 (.opt 0 0),ps 4 (nv n),ps 5 (iv 0),ps 48 (bv true),pb 0 41 [(iv 0),(iv 0)]] (on 3 (qT h24) (oc (by first|omega|(simp <;> omega):(0:Int)≤(n:Int)∧(n:Int)<(s.length:Int)) (on 2 (qT h24) (on 3 (qV h25) (oc (by first|omega|(simp <;> omega):(0:Int)≤(n:Int)∧(n:Int)<(s.length:Int)) (oc (qV h25) (oc (qT h24) (oc (qV h25) (oc (qT h24) (on 3 (qV h26) (oc (by first|omega|(simp <;> omega):(0:Int)≤(n:Int)∧(n:Int)<(s.length:Int)) (oc (qV h26) (oc (qT h24) (oc (qV h26) (oc (qT h24) (on 3 (qV h27) (oc (by first|omega|(simp <;> omega):(0:Int)≤(n:Int)∧(n:Int)<(s.length:Int)) (oc (qV h27) (oc (qT h24) (oc (qV h27) (oc (qT h24) (on 4 (qT h28) (oc (qT h24) (oc (qT h28) (oc (qT h24) oz)))))))))))))))))))))))))<|qL (b:=true) rfl rfl<|qF<|qX<|qQ qD [] [.k2,.d,.n,.k1,.d,.r] [ps 4 (iv (((n:Nat):Int)+1))] (oi (((n:Nat):Int)+1) (by omega) oz)<|qZ ?_
   have hts:=vw (s:=s) hk1 (by omega)
   exact qq ⟨n+1,⟨by show 0≤n+1;omega,by show n+1≤s.length;omega,by show ∀ b∈(s.take (n+1)).drop 0,b∈quals;rw [hts];intro b hb;rcases List.mem_append.1 hb with hb|hb;exact hd b hb;rw [List.mem_singleton.1 hb];exact YN (.inr (.inr (.inr (.inl h28))))⟩⟩ (Wk.trans (Wk.eq (show _=[ps 0 (sv (st s)),ps 2 (.opt 0 0),ps 4 (nv (n+1)),ps 5 (iv 0),pb 0 41 [(iv 0),(iv 0)]] from by rfl)) (Wk.ren2 _ 0 hc0 [0] rfl rfl (by kernel_rfl) (by kernel_rfl))) (show s.length-(n+1)<s.length-n from by show s.length-(n+1)<s.length-n;omega)
  refine zD qD (gy 5 5++gn 10 4++[(14,.gd true (.yes false)),(15,.gd true .no)]++gn 16 4++[(20,.gd true (.yes false)),(21,.gd true .no)]++gn 22 4++[(26,.gd true (.yes false)),(27,.gd true .no)]++gn 28 4++[(32,.gd true (.yes false)),(33,.yes true)]) [ps 0 (sv (st s)),ps 2 (.opt 0 0),ps 4 (nv n),ps 5 (iv 0),ps 48 (bv (decide ((((s.getD n 0).toNat:Nat):Int)=100))),pb 0 41 [(iv 0),(iv 0)]] (on 3 (qT h24) (oc (by first|omega|(simp <;> omega):(0:Int)≤(n:Int)∧(n:Int)<(s.length:Int)) (on 2 (qT h24) (on 3 (qV h25) (oc (by first|omega|(simp <;> omega):(0:Int)≤(n:Int)∧(n:Int)<(s.length:Int)) (oc (qV h25) (oc (qT h24) (oc (qV h25) (oc (qT h24) (on 3 (qV h26) (oc (by first|omega|(simp <;> omega):(0:Int)≤(n:Int)∧(n:Int)<(s.length:Int)) (oc (qV h26) (oc (qT h24) (oc (qV h26) (oc (qT h24) (on 3 (qV h27) (oc (by first|omega|(simp <;> omega):(0:Int)≤(n:Int)∧(n:Int)<(s.length:Int)) (oc (qV h27) (oc (qT h24) (oc (qV h27) (oc (qT h24) (on 3 (qV h28) (oc (by first|omega|(simp <;> omega):(0:Int)≤(n:Int)∧(n:Int)<(s.length:Int)) (oc (qV h28) (oc (qT h24) (oc (qV h28) (oc (qT h24) oz))))))))))))))))))))))))))) ?_
  by_cases h29:(((s.getD n 0).toNat:Nat):Int)=100
  ·refine qS (qT h29)<|qF<|qX<|qQ qD [] [.k2,.d,.n,.k1,.d,.r] [ps 4 (iv (((n:Nat):Int)+1))] (oi (((n:Nat):Int)+1) (by omega) oz)<|qZ ?_
   have hts:=vw (s:=s) hk1 (by omega)
   exact qq ⟨n+1,⟨by show 0≤n+1;omega,by show n+1≤s.length;omega,by show ∀ b∈(s.take (n+1)).drop 0,b∈quals;rw [hts];intro b hb;rcases List.mem_append.1 hb with hb|hb;exact hd b hb;rw [List.mem_singleton.1 hb];exact YN (.inr (.inr (.inr (.inr (h29)))))⟩⟩ (Wk.trans (Wk.eq (show _=[ps 0 (sv (st s)),ps 2 (.opt 0 0),ps 4 (nv (n+1)),ps 5 (iv 0),pb 0 41 [(iv 0),(iv 0)]] from by rfl)) (Wk.ren2 _ 0 hc0 [0] rfl rfl (by kernel_rfl) (by kernel_rfl))) (show s.length-(n+1)<s.length-n from by show s.length-(n+1)<s.length-n;omega)
  refine qR (qV h29)<|zI rfl rfl<|qB ?_
  obtain ⟨hdO,hqO⟩:=qaz hi hk1 hk2 hd (fun _=>noqual h25 h26 h27 h28 h29)
  refine qQ qD [(2,.val (.av (.string (st (qz s))))),(3,.call [] [(sv (st (qz s)))] [] (.tup [(iv ((qI (qz s)).1)),(bv ((qI (qz s)).2))]) [])] [.k4,.n,.n,.d,.r] [ps 6 (iv ((qI (qz s)).1)),ps 7 (bv ((qI (qz s)).2))] (oc (by first|omega|(simp <;> omega):(0:Int)≤(n:Int)∧(n:Int)≤(s.length:Int)∧(s.length:Int)≤(s.length:Int)) (oc (by rw [hdO];exact ww _ _ _ rfl:(st s).extract (((n:Nat):Int):Int).toNat (((s.length:Nat):Int):Int).toNat=st (qz s)) (zO 297 (wq (qz s) (by have:=qfe s;have:=qdv s;omega)) oz)))<|qB<|qB ?_
  obtain ⟨v,hv⟩:∃ v,v=(qI (qz s)).1:=⟨_,rfl⟩
  have hvb:=VH (qz s)
  rw [← hv] at hvb
  refine qj (Wk.eq (show _=[ps 0 (sv (st s)),ps 2 (.opt 0 0),ps 4 (nv n),ps 5 (iv 0),ps 6 (iv v),ps 7 (bv ((qI (qz s)).2)),pb 0 41 [(iv 0),(iv 0)]] from by rw [← hv])) ?_
  by_cases h30:((qI (qz s)).2)=true
  ·by_cases h31:v<1
   ·refine qQ qD (gn 3 2++[(5,.yes false)]++gy 7 3++[(10,.yes true)]) [.k5,.d,.n,.r] [ps 68 (bv true)] (oc (congrArg Bool.not h30:(!((qI (qz s)).2))=false) (oc (congrArg Bool.not h30:(!((qI (qz s)).2))=false) (oc (congrArg Bool.not h30:(!((qI (qz s)).2))=false) (on 4 (qT h31) oz))))<|qL (b:=true) rfl rfl<|qB<|qH qD [.d,.k1,.n,.d,.d,.d,.d,.r] [ps 3 (iv 2)] ?_
    rw [vD (s:=s) (.inr (.inl (by rw [← hv];exact h31)))]
    exact qk hc0 [2,3] [0]
   refine qQ qD (gn 3 2++[(5,.yes false)]++gn 7 3++[(10,.yes false)]) [.k5,.d,.n,.r] [ps 68 (bv (decide (((n:Nat):Int)=0)))] (oc (congrArg Bool.not h30:(!((qI (qz s)).2))=false) (oc (congrArg Bool.not h30:(!((qI (qz s)).2))=false) (oc (congrArg Bool.not h30:(!((qI (qz s)).2))=false) (on 4 (qV h31) oz)))) ?_
   by_cases h32:(n:Int)=0
   ·refine qS (qT h32)<|qB<|qH qD [.d,.k1,.n,.d,.d,.d,.d,.r] [ps 3 (iv 2)] ?_
    rw [vD (s:=s) (.inr (.inr (List.eq_nil_of_length_eq_zero (by omega))))]
    exact qk hc0 [2,3] [0]
   refine qR (qV h32)<|qF<|qB<|qB ?_
   by_cases h33:201<v
   ·refine qQ qD (gy 3 4++[(7,.yes true)]) [.k2,.d,.k2,.d,.n,.r] [ps 77 (bv true)] (on 5 (qT h33) oz)<|qL (b:=true) rfl rfl<|qB<|qH qD [.d,.k1,.n,.d,.d,.d,.r] [ps 3 (iv 3)] ?_
    rw [wz (s:=s) h30 (by rw [← hv];exact h31) (fun c=>by rw [c] at hqO;simp at hqO;omega) (.inl (by unfold qU;omega))]
    exact qk hc0 [2,3] [0]
   refine qQ qD (gn 3 4++[(7,.yes false)]) [.k2,.d,.k2,.d,.n,.r] [ps 77 (bv (decide (6<(((n:Nat):Int)-0))))] (on 3 (qV h33) (oi (((n:Nat):Int)-0) (by omega) (on 2 (qV h33) oz))) ?_
   by_cases h34:6<(((n:Nat):Int)-0)
   ·refine qS (qT h34)<|qB<|qH qD [.d,.k1,.n,.d,.d,.d,.r] [ps 3 (iv 3)] ?_
    rw [wz (s:=s) h30 (by rw [← hv];exact h31) (fun c=>by rw [c] at hqO;simp at hqO;omega) (.inr (by omega))]
    exact qk hc0 [2,3] [0]
   refine qR (qV h34)<|qF<|qB<|qB ?_
   have hwb:=Pi.white_bd (v-1) (by omega)
   refine qH qD [.k4,.n,.d,.r] [ps 8 (iv (-7))]<|qX<|zy (α:={x:Int // -7≤x∧x≤7∧(∀ y,-7≤y→y<x→¬ ((qG (v-1) (Pi.white (v-1)+y)).2=0∧(qG (v-1) (Pi.white (v-1)+y)).1=s))}) (fun x=>[ps 0 (sv (st s)),ps 2 (.opt 0 0),ps 5 (iv 0),ps 6 (iv v),ps 8 (iv x.1),pb 0 41 [(iv 0),(iv 0)]]) (fun x=>(7-x.1).toNat) 1 ⟨(-7),⟨by decide,by decide,fun y a b=>absurd b (by show ¬ y < -7;omega)⟩⟩ (Wk.ren2 _ 0 hc0 [0] rfl rfl (by kernel_rfl) (by kernel_rfl)) ?_
   rintro ⟨m,⟨hm1,hm2,hm3⟩⟩
   refine qB<|qB<|zD qD [] [ps 0 (sv (st s)),ps 2 (.opt 0 0),ps 5 (iv 0),ps 6 (iv v),ps 8 (iv m),ps 80 (bv (decide (m≤6))),pb 0 41 [(iv 0),(iv 0)]] (oz) ?_
   by_cases h35:m≤6
   ·refine qS (qT h35)<|qF<|qB<|qX<|qB<|qQ qD [(4,.call [] [(iv (v-1))] [] (iv (Pi.white (v-1))) [])] [.k5,.n,.d,.k1,.n] [ps 9 (.opt 81 0),pb 81 41 [(iv (v-1)),(iv ((Pi.white (v-1))+m))]] (oi (v-1) (by omega) (oi (v-1) (by omega) (zO 49 (YU (v-1) (by omega) (by omega)) (oi ((Pi.white (v-1))+m) (by omega) oz))))<|qB<|qB<|qH qD [.k6,.n,.r] [ps 92 (bv false)]<|qO (b:=false) rfl rfl<|qF<|qB<|yC qD 1 [.k6,.n,.n,.d,.r] [ps 10 (sv (st ((qG (v-1) ((Pi.white (v-1))+m)).1))),ps 11 (iv ((qG (v-1) ((Pi.white (v-1))+m)).2))] (zO 121 (Zv (v-1) ((Pi.white (v-1))+m)) oz)<|qB ?_
    by_cases h36:((qG (v-1) ((Pi.white (v-1))+m)).2)=0
    ·refine qQ qD (gy 3 2++[(5,.gd true (.val (.av (.bool (decide (((qG (v-1) ((Pi.white (v-1))+m)).1)=s)))))),(6,.yes true)]) [.k6,.d,.d,.n,.r] [ps 111 (bv (decide (((qG (v-1) ((Pi.white (v-1))+m)).1)=s)))] (on 3 (qT h36) (oc (qv _ _:((st ((qG (v-1) ((Pi.white (v-1))+m)).1)).toList == (st s).toList)=decide (((qG (v-1) ((Pi.white (v-1))+m)).1)=s)) (oc (qT h36) oz))) ?_
     by_cases h37:((qG (v-1) ((Pi.white (v-1))+m)).1)=s
     ·refine qS (qT h37)<|qB<|zD qD [] [ps 2 (.opt 0 0),ps 3 (iv 0),pb 0 41 [(iv (v-1)),(iv ((Pi.white (v-1))+m))]] (oz) ?_
      rw [YA h36 h37]
      exact yk fun cx_ a_ hI_=>zB (rt hc0 [ps 2 (.opt 0 0),ps 3 (iv 0),pb 0 41 [(iv (v-1)),(iv ((Pi.white (v-1))+m))]] [0] hI_)
     refine qR (qV h37)<|qF<|qZ<|qQ qD [] [.k4,.d,.n,.d,.d,.k1,.d] [ps 8 (iv (m+1))] (oi (m+1) (by omega) oz) ?_
     exact qq ⟨m+1,⟨by show -7≤m+1;omega,by show m+1≤7;omega,QX (P:=fun m=>((qG (v-1) (Pi.white (v-1)+m)).2=0∧(qG (v-1) (Pi.white (v-1)+m)).1=s)) hm3 (fun c=>h37 c.2)⟩⟩ (Wk.trans (Wk.eq (show _=[ps 0 (sv (st s)),ps 2 (.opt 0 0),ps 5 (iv 0),ps 6 (iv v),ps 8 (iv (m+1)),pb 0 41 [(iv 0),(iv 0)]] from by rfl)) (Wk.ren2 _ 0 hc0 [0] rfl rfl (by kernel_rfl) (by kernel_rfl))) (show (7-(m+1)).toNat<(7-m).toNat from by show (7-(m+1)).toNat<(7-m).toNat;omega)
    refine qQ qD (gn 3 3++[(6,.yes false)]) [.k6,.d,.d,.n,.r] [ps 111 (bv false)] (on 4 (qV h36) oz)<|qO (b:=false) rfl rfl<|qF<|qZ<|qQ qD [] [.k4,.d,.n,.d,.d,.k1,.d] [ps 8 (iv (m+1))] (oi (m+1) (by omega) oz) ?_
    exact qq ⟨m+1,⟨by show -7≤m+1;omega,by show m+1≤7;omega,QX (P:=fun m=>((qG (v-1) (Pi.white (v-1)+m)).2=0∧(qG (v-1) (Pi.white (v-1)+m)).1=s)) hm3 (fun c=>h36 c.1)⟩⟩ (Wk.trans (Wk.eq (show _=[ps 0 (sv (st s)),ps 2 (.opt 0 0),ps 5 (iv 0),ps 6 (iv v),ps 8 (iv (m+1)),pb 0 41 [(iv 0),(iv 0)]] from by rfl)) (Wk.ren2 _ 0 hc0 [0] rfl rfl (by kernel_rfl) (by kernel_rfl))) (show (7-(m+1)).toNat<(7-m).toNat from by show (7-(m+1)).toNat<(7-m).toNat;omega)
   refine qR (qV h35)<|zI rfl rfl<|qB<|qH qD [.d,.k1,.n,.d,.d,.d,.d,.r] [ps 3 (iv 2)] ?_
   rw [VJ (s:=s) (i:=0) (n:=v) hi hv.symm h30 h31 (fun c=>by rw [c] at hqO;simp at hqO;omega) h33 (by omega) (fun x a b=>hm3 x a (by omega))]
   exact qk hc0 [2,3] [0]
  refine qQ qD (gy 3 2++[(5,.yes true)]++gy 7 3) [.k5,.d,.n,.r] [ps 68 (bv true)] (oc (congrArg Bool.not (Bool.eq_false_iff.2 h30):(!((qI (qz s)).2))=true) (oc (congrArg Bool.not (Bool.eq_false_iff.2 h30):(!((qI (qz s)).2))=true) (oc (congrArg Bool.not (Bool.eq_false_iff.2 h30):(!((qI (qz s)).2))=true) (on 3 tt oz))))<|qL (b:=true) rfl rfl<|qB<|qH qD [.d,.k1,.n,.d,.d,.d,.d,.r] [ps 3 (iv 2)] ?_
  rw [vD (s:=s) (.inl h30)]
  exact qk hc0 [2,3] [0]
 refine zD qD (gn 5 5++gn 14 2++gn 20 2++gn 26 2++[(32,.gd false .no),(33,.yes false)]) [ps 0 (sv (st s)),ps 2 (.opt 0 0),ps 4 (nv n),ps 5 (iv 0),ps 48 (bv false),pb 0 41 [(iv 0),(iv 0)]] (on 13 (qV h24) oz)<|qO (b:=false) rfl rfl<|zI rfl rfl<|qB ?_
 obtain ⟨hdO,hqO⟩:=qaz hi hk1 hk2 hd (fun c=>absurd c (by omega))
 refine qQ qD [(2,.val (.av (.string (st (qz s))))),(3,.call [] [(sv (st (qz s)))] [] (.tup [(iv ((qI (qz s)).1)),(bv ((qI (qz s)).2))]) [])] [.k4,.n,.n,.d,.r] [ps 6 (iv ((qI (qz s)).1)),ps 7 (bv ((qI (qz s)).2))] (oc (by first|omega|(simp <;> omega):(0:Int)≤(n:Int)∧(n:Int)≤(s.length:Int)∧(s.length:Int)≤(s.length:Int)) (oc (by rw [hdO];exact ww _ _ _ rfl:(st s).extract (((n:Nat):Int):Int).toNat (((s.length:Nat):Int):Int).toNat=st (qz s)) (zO 297 (wq (qz s) (by have:=qfe s;have:=qdv s;omega)) oz)))<|qB<|qB ?_
 obtain ⟨v,hv⟩:∃ v,v=(qI (qz s)).1:=⟨_,rfl⟩
 have hvb:=VH (qz s)
 rw [← hv] at hvb
 refine qj (Wk.eq (show _=[ps 0 (sv (st s)),ps 2 (.opt 0 0),ps 4 (nv n),ps 5 (iv 0),ps 6 (iv v),ps 7 (bv ((qI (qz s)).2)),pb 0 41 [(iv 0),(iv 0)]] from by rw [← hv])) ?_
 by_cases h38:((qI (qz s)).2)=true
 ·by_cases h39:v<1
  ·refine qQ qD (gn 3 2++[(5,.yes false)]++gy 7 3++[(10,.yes true)]) [.k5,.d,.n,.r] [ps 68 (bv true)] (oc (congrArg Bool.not h38:(!((qI (qz s)).2))=false) (oc (congrArg Bool.not h38:(!((qI (qz s)).2))=false) (oc (congrArg Bool.not h38:(!((qI (qz s)).2))=false) (on 4 (qT h39) oz))))<|qL (b:=true) rfl rfl<|qB<|qH qD [.d,.k1,.n,.d,.d,.d,.d,.r] [ps 3 (iv 2)] ?_
   rw [vD (s:=s) (.inr (.inl (by rw [← hv];exact h39)))]
   exact qk hc0 [2,3] [0]
  refine qQ qD (gn 3 2++[(5,.yes false)]++gn 7 3++[(10,.yes false)]) [.k5,.d,.n,.r] [ps 68 (bv (decide (((n:Nat):Int)=0)))] (oc (congrArg Bool.not h38:(!((qI (qz s)).2))=false) (oc (congrArg Bool.not h38:(!((qI (qz s)).2))=false) (oc (congrArg Bool.not h38:(!((qI (qz s)).2))=false) (on 4 (qV h39) oz)))) ?_
  by_cases h40:(n:Int)=0
  ·refine qS (qT h40)<|qB<|qH qD [.d,.k1,.n,.d,.d,.d,.d,.r] [ps 3 (iv 2)] ?_
   rw [vD (s:=s) (.inr (.inr (List.eq_nil_of_length_eq_zero (by omega))))]
   exact qk hc0 [2,3] [0]
  refine qR (qV h40)<|qF<|qB<|qB ?_
  by_cases h41:201<v
  ·refine qQ qD (gy 3 4++[(7,.yes true)]) [.k2,.d,.k2,.d,.n,.r] [ps 77 (bv true)] (on 5 (qT h41) oz)<|qL (b:=true) rfl rfl<|qB<|qH qD [.d,.k1,.n,.d,.d,.d,.r] [ps 3 (iv 3)] ?_
   rw [wz (s:=s) h38 (by rw [← hv];exact h39) (fun c=>by rw [c] at hqO;simp at hqO;omega) (.inl (by unfold qU;omega))]
   exact qk hc0 [2,3] [0]
  refine qQ qD (gn 3 4++[(7,.yes false)]) [.k2,.d,.k2,.d,.n,.r] [ps 77 (bv (decide (6<(((n:Nat):Int)-0))))] (on 3 (qV h41) (oi (((n:Nat):Int)-0) (by omega) (on 2 (qV h41) oz))) ?_
  by_cases h42:6<(((n:Nat):Int)-0)
  ·refine qS (qT h42)<|qB<|qH qD [.d,.k1,.n,.d,.d,.d,.r] [ps 3 (iv 3)] ?_
   rw [wz (s:=s) h38 (by rw [← hv];exact h39) (fun c=>by rw [c] at hqO;simp at hqO;omega) (.inr (by omega))]
   exact qk hc0 [2,3] [0]
  refine qR (qV h42)<|qF<|qB<|qB ?_
  have hwb:=Pi.white_bd (v-1) (by omega)
  refine qH qD [.k4,.n,.d,.r] [ps 8 (iv (-7))]<|qX<|zy (α:={x:Int // -7≤x∧x≤7∧(∀ y,-7≤y→y<x→¬ ((qG (v-1) (Pi.white (v-1)+y)).2=0∧(qG (v-1) (Pi.white (v-1)+y)).1=s))}) (fun x=>[ps 0 (sv (st s)),ps 2 (.opt 0 0),ps 5 (iv 0),ps 6 (iv v),ps 8 (iv x.1),pb 0 41 [(iv 0),(iv 0)]]) (fun x=>(7-x.1).toNat) 1 ⟨(-7),⟨by decide,by decide,fun y a b=>absurd b (by show ¬ y < -7;omega)⟩⟩ (Wk.ren2 _ 0 hc0 [0] rfl rfl (by kernel_rfl) (by kernel_rfl)) ?_
  rintro ⟨m,⟨hm1,hm2,hm3⟩⟩
  refine qB<|qB<|zD qD [] [ps 0 (sv (st s)),ps 2 (.opt 0 0),ps 5 (iv 0),ps 6 (iv v),ps 8 (iv m),ps 80 (bv (decide (m≤6))),pb 0 41 [(iv 0),(iv 0)]] (oz) ?_
  by_cases h43:m≤6
  ·refine qS (qT h43)<|qF<|qB<|qX<|qB<|qQ qD [(4,.call [] [(iv (v-1))] [] (iv (Pi.white (v-1))) [])] [.k5,.n,.d,.k1,.n] [ps 9 (.opt 81 0),pb 81 41 [(iv (v-1)),(iv ((Pi.white (v-1))+m))]] (oi (v-1) (by omega) (oi (v-1) (by omega) (zO 49 (YU (v-1) (by omega) (by omega)) (oi ((Pi.white (v-1))+m) (by omega) oz))))<|qB<|qB<|qH qD [.k6,.n,.r] [ps 92 (bv false)]<|qO (b:=false) rfl rfl<|qF<|qB<|yC qD 1 [.k6,.n,.n,.d,.r] [ps 10 (sv (st ((qG (v-1) ((Pi.white (v-1))+m)).1))),ps 11 (iv ((qG (v-1) ((Pi.white (v-1))+m)).2))] (zO 121 (Zv (v-1) ((Pi.white (v-1))+m)) oz)<|qB ?_
   by_cases h44:((qG (v-1) ((Pi.white (v-1))+m)).2)=0
   ·refine qQ qD (gy 3 2++[(5,.gd true (.val (.av (.bool (decide (((qG (v-1) ((Pi.white (v-1))+m)).1)=s)))))),(6,.yes true)]) [.k6,.d,.d,.n,.r] [ps 111 (bv (decide (((qG (v-1) ((Pi.white (v-1))+m)).1)=s)))] (on 3 (qT h44) (oc (qv _ _:((st ((qG (v-1) ((Pi.white (v-1))+m)).1)).toList == (st s).toList)=decide (((qG (v-1) ((Pi.white (v-1))+m)).1)=s)) (oc (qT h44) oz))) ?_
    by_cases h45:((qG (v-1) ((Pi.white (v-1))+m)).1)=s
    ·refine qS (qT h45)<|qB<|zD qD [] [ps 2 (.opt 0 0),ps 3 (iv 0),pb 0 41 [(iv (v-1)),(iv ((Pi.white (v-1))+m))]] (oz) ?_
     rw [YA h44 h45]
     exact yk fun cx_ a_ hI_=>zB (rt hc0 [ps 2 (.opt 0 0),ps 3 (iv 0),pb 0 41 [(iv (v-1)),(iv ((Pi.white (v-1))+m))]] [0] hI_)
    refine qR (qV h45)<|qF<|qZ<|qQ qD [] [.k4,.d,.n,.d,.d,.k1,.d] [ps 8 (iv (m+1))] (oi (m+1) (by omega) oz) ?_
    exact qq ⟨m+1,⟨by show -7≤m+1;omega,by show m+1≤7;omega,QX (P:=fun m=>((qG (v-1) (Pi.white (v-1)+m)).2=0∧(qG (v-1) (Pi.white (v-1)+m)).1=s)) hm3 (fun c=>h45 c.2)⟩⟩ (Wk.trans (Wk.eq (show _=[ps 0 (sv (st s)),ps 2 (.opt 0 0),ps 5 (iv 0),ps 6 (iv v),ps 8 (iv (m+1)),pb 0 41 [(iv 0),(iv 0)]] from by rfl)) (Wk.ren2 _ 0 hc0 [0] rfl rfl (by kernel_rfl) (by kernel_rfl))) (show (7-(m+1)).toNat<(7-m).toNat from by show (7-(m+1)).toNat<(7-m).toNat;omega)
   refine qQ qD (gn 3 3++[(6,.yes false)]) [.k6,.d,.d,.n,.r] [ps 111 (bv false)] (on 4 (qV h44) oz)<|qO (b:=false) rfl rfl<|qF<|qZ<|qQ qD [] [.k4,.d,.n,.d,.d,.k1,.d] [ps 8 (iv (m+1))] (oi (m+1) (by omega) oz) ?_
   exact qq ⟨m+1,⟨by show -7≤m+1;omega,by show m+1≤7;omega,QX (P:=fun m=>((qG (v-1) (Pi.white (v-1)+m)).2=0∧(qG (v-1) (Pi.white (v-1)+m)).1=s)) hm3 (fun c=>h44 c.1)⟩⟩ (Wk.trans (Wk.eq (show _=[ps 0 (sv (st s)),ps 2 (.opt 0 0),ps 5 (iv 0),ps 6 (iv v),ps 8 (iv (m+1)),pb 0 41 [(iv 0),(iv 0)]] from by rfl)) (Wk.ren2 _ 0 hc0 [0] rfl rfl (by kernel_rfl) (by kernel_rfl))) (show (7-(m+1)).toNat<(7-m).toNat from by show (7-(m+1)).toNat<(7-m).toNat;omega)
  refine qR (qV h43)<|zI rfl rfl<|qB<|qH qD [.d,.k1,.n,.d,.d,.d,.d,.r] [ps 3 (iv 2)] ?_
  rw [VJ (s:=s) (i:=0) (n:=v) hi hv.symm h38 h39 (fun c=>by rw [c] at hqO;simp at hqO;omega) h41 (by omega) (fun x a b=>hm3 x a (by omega))]
  exact qk hc0 [2,3] [0]
 refine qQ qD (gy 3 2++[(5,.yes true)]++gy 7 3) [.k5,.d,.n,.r] [ps 68 (bv true)] (oc (congrArg Bool.not (Bool.eq_false_iff.2 h38):(!((qI (qz s)).2))=true) (oc (congrArg Bool.not (Bool.eq_false_iff.2 h38):(!((qI (qz s)).2))=true) (oc (congrArg Bool.not (Bool.eq_false_iff.2 h38):(!((qI (qz s)).2))=true) (on 3 tt oz))))<|qL (b:=true) rfl rfl<|qB<|qH qD [.d,.k1,.n,.d,.d,.d,.d,.r] [ps 3 (iv 2)] ?_
 rw [vD (s:=s) (.inl h38)]
 exact qk hc0 [2,3] [0]
theorem qhl (s:List UInt8) (hs:s.length≤140737488351232):PC Tryz.prog 78 [(sv (st s))] [] ((.tup [(.agg [(iv ((qY s).1.1)),(iv ((qY s).1.2))]),(iv ((qY s).2))])) []:=qbh [none] rfl (fun i=>by rcases i with _|_|i <;> rfl) (qfo s hs)
theorem qdj (l:List Pt):(wA l).length=l.length*3:=Yk ptC 3 (fun _=>rfl) l
theorem wS (l:List Pt):YW (wA l):=qbp ptC (fun _=>rfl) l
section
end
theorem qbb (s:zX) (a:Nat) (e f k:Int):PC Tryz.prog 41 [(.opt 0 0)] [some (103,(r5 s a e f k))] (bv (decide (e=0))) [some (103,(r5 s a e f k))]:=by
 refine zG Tryz.func41 rfl (by kernel_rfl) (Nat.le_of_ble_eq_true rfl) (by kernel_rfl) (l0:=[ps 0 (.opt 0 0),pb 0 103 (r5 s a e f k)]) rfl (fun c0 Bor hc0=>?_)
 refine qB<|qH qD [.r] []<|qB<|qH qD [.d,.n,.r] [ps 2 (bv (decide (e=0)))] ?_
 exact qk hc0 [2] [0] (hbk:=by exact oc rfl (oz))
theorem qci {P:Program} {f:FuncId} {args:List PV} {H H1:Hp} {x y:Bool} (h:PC P f args H (bv x) H1) (e:x=y):PC P f args H (bv y) H1:=e▸h
theorem qitem_step (s:zX) (hs:s.length≤65536) (lv:Int) (hlv:0≤lv∧lv≤32) (a k:Nat) (ha:a≤s.length) (hk:k≤4095) (ih:0<k→lv≤31→∀ (b q:Nat),b≤s.length→q≤k-1→PC Tryz.prog 47 [.opt 0 0,iv (lv+1)] [some (103,(vN s b 0 0 q))] (if (qN s (lv+1) b q).1=0 then .agg (gI (qN s (lv+1) b q).2.1) else .agg (gI (yv s (lv+1) b q).1)) (if (qN s (lv+1) b q).1=0 then [some (103,(vN s ((qN s (lv+1) b q).2.2.1) 0 0 ((qN s (lv+1) b q).2.2.2))),none] else [some (103,(yz s ((qN s (lv+1) b q).2.2.1) ((qN s (lv+1) b q).1) ((qN s (lv+1) b q).2.2.1) ((yv s (lv+1) b q).2))),none])):PC Tryz.prog 47 [(.opt 0 0),(iv lv)] [some (103,(vN s a 0 0 k))] (if (qN s lv a k).1=0 then (.agg (gI (qN s lv a k).2.1)) else (.agg (gI (yv s lv a k).1))) (if (qN s lv a k).1=0 then [some (103,(vN s ((qN s lv a k).2.2.1) 0 0 ((qN s lv a k).2.2.2))),none] else [some (103,(yz s ((qN s lv a k).2.2.1) ((qN s lv a k).1) ((qN s lv a k).2.2.1) ((yv s lv a k).2))),none]):=by
 have hga:=zR ha
 have hgg:=vH s a
 have hwl:=yV ha
 refine zG Tryz.func47 rfl (by kernel_rfl) (le_if (Nat.le_of_ble_eq_true rfl) (Nat.le_of_ble_eq_true rfl)) (by kernel_rfl) (l0:=[ps 0 (.opt 0 0),ps 1 (iv lv),pb 0 103 (vN s a 0 0 k)]) rfl (fun c0 Bor hc0=>?_)
 refine qB<|qH qD [.k2,.n,.k1,.n] [ps 4 (.opt 1 0),pb 1 50 [(iv 0),(iv 0),sn,(iv 0),(iv 0),se,sn]]<|qB<|zC qD 1 [.k3,.d,.n,.r] [pb 0 103 (vN s (qA s a) 0 0 k)] (zY [0] 17 (qhn s a (k:Int) hs (by omega)) oz)<|qB<|qB ?_
 by_cases h1:(k:Int)<1
 ·refine qQ qD (gy 6 2++[(8,.yes true)]) [.k3,.n,.r] [ps 22 (bv true)] (on 3 (qT h1) oz)<|qL (b:=true) rfl rfl<|zC qD 1 [.k3,.d,.d,.n,.r] [pb 0 103 (jV s (qA s a) 4 (qA s a) k)] (zY [0] 105 (yy s (qA s a) (k:Int) 4) oz)<|qB<|qQ qD [] [.k3,.d,.n,.r] [pb 0 103 (yz s (qA s a) 4 (qA s a) (((k:Nat):Int)-1))] (oi (((k:Nat):Int)-1) (by omega) oz)<|qB<|qH qD [.k3,.n,.k2,.n] [ps 5 (.opt 185 0),pb 185 50 [(iv 1),(iv 1),sn,(iv 0),(iv 0),se,sn]]<|qB<|qB<|zC qD 1 [.k4,.n,.r] [ps 35 (bv true)] (zY [0] 209 (wG s (qA s a) (((k:Nat):Int)-1) 4 (by decide)) oz)<|qL (b:=true) rfl rfl<|qB<|qH qD [.d,.d,.k1,.d,.d,.k1,.d,.n,.d] [pb 1 50 [(iv 1),(iv 1),sn,(iv 0),(iv 0),se,sn]] ?_
  rw [show (qN s lv a k)=(4,zQ,qA s a,0) from by rw [zT,if_pos (by omega)],show (yv s lv a k)=(.mk 1 1 [] (0,0) [] [],(k:Int)-1) from by rw [wj,if_pos (by omega)],if_neg (by show ¬ ((4:Int)=0);decide),if_neg (by show ¬ ((4:Int)=0);decide)]
  exact qk hc0 [4] [0,1] (hbk:=by exact oc rfl (oz))
 refine qQ qD (gn 6 2++[(8,.yes false)]) [.k3,.n,.r] [ps 22 (bv (decide (31<lv)))] (on 3 (qV h1) oz) ?_
 by_cases h2:31<lv
 ·refine qS (qT h2)<|zC qD 1 [.k3,.d,.d,.n,.r] [pb 0 103 (jV s (qA s a) 4 (qA s a) k)] (zY [0] 105 (yy s (qA s a) (k:Int) 4) oz)<|qB<|qQ qD [] [.k3,.d,.n,.r] [pb 0 103 (yz s (qA s a) 4 (qA s a) (((k:Nat):Int)-1))] (oi (((k:Nat):Int)-1) (by omega) oz)<|qB<|qH qD [.k3,.n,.k2,.n] [ps 5 (.opt 185 0),pb 185 50 [(iv 1),(iv 1),sn,(iv 0),(iv 0),se,sn]]<|qB<|qB<|zC qD 1 [.k4,.n,.r] [ps 35 (bv true)] (zY [0] 209 (wG s (qA s a) (((k:Nat):Int)-1) 4 (by decide)) oz)<|qL (b:=true) rfl rfl<|qB<|qH qD [.d,.d,.k1,.d,.d,.k1,.d,.n,.d] [pb 1 50 [(iv 1),(iv 1),sn,(iv 0),(iv 0),se,sn]] ?_
  rw [show (qN s lv a k)=(4,zQ,qA s a,0) from by rw [zT,if_pos (by omega)],show (yv s lv a k)=(.mk 1 1 [] (0,0) [] [],(k:Int)-1) from by rw [wj,if_pos (by omega)],if_neg (by show ¬ ((4:Int)=0);decide),if_neg (by show ¬ ((4:Int)=0);decide)]
  exact qk hc0 [4] [0,1] (hbk:=by exact oc rfl (oz))
 refine qR (qV h2)<|qF<|qB<|qQ qD [] [.k3,.d,.d,.n,.r] [pb 0 103 (r5 s (qA s a) 0 0 (((k:Nat):Int)-1))] (oi (((k:Nat):Int)-1) (by omega) oz) ?_
 have hk0:¬ (k=0∨31<lv):=by omega
 have hk1:(k:Int)-1=((k-1:Nat):Int):=by omega
 refine qj (Wk.eq (show _=[ps 0 (.opt 0 0),ps 1 (iv lv),ps 4 (.opt 1 0),pb 0 103 (vN s (qA s a) 0 0 (k-1)),pb 1 50 [(iv 0),(iv 0),sn,(iv 0),(iv 0),se,sn]] from by rw [hk1])) ?_
 refine qB<|qH qD [.k3,.n,.k2,.n] [ps 5 (.opt 169 0),pb 169 50 [(iv 1),(iv 1),sn,(iv 0),(iv 0),se,sn]]<|qB<|qB<|zC qD 1 [.k4,.n,.r] [ps 35 (bv false)] (zY [0] 193 (jS s (qA s a) ((k-1:Nat):Int)) oz)<|qO (b:=false) rfl rfl<|qF<|qB<|zC qD 1 [.k4,.n,.d,.r] [ps 6 (sv (st (qC s a)))] (zY [0] 217 (qword_pcFG s a ((k-1:Nat):Int) hs (by omega)) oz)<|qB<|qB<|qQ qD [(1,.val (.av (.bool (decide ((qC s a)=([45]:TX))))))] [.k5,.n,.r] [ps 40 (bv (decide ((qC s a)=([45]:TX))))] (oc (qv _ _:((st (qC s a)).toList == (st ([45]:TX)).toList)=decide ((qC s a)=([45]:TX))) oz) ?_
 by_cases h3:(qC s a)=([45]:TX)
 ·refine qS (qT h3)<|qB ?_
  have hw1:(qC s a).length=1:=by rw [h3];rfl
  refine qQ qD [] [.k1,.d,.k2,.d,.d,.d,.n,.r] [pb 0 103 [(sv (st s)),(iv (((qA s a:Nat):Int)+1)),(iv 0),(iv 0),(nv (k-1))]] (oi (((qA s a:Nat):Int)+1) (by omega) oz)<|qj (Wk.eq (show _=[ps 0 (.opt 0 0),ps 4 (.opt 1 0),ps 5 (.opt 169 0),pb 0 103 (vN s (qA s a+1) 0 0 (k-1)),pb 1 50 [(iv 0),(iv 0),sn,(iv 0),(iv 0),se,sn],pb 169 50 [(iv 1),(iv 1),sn,(iv 0),(iv 0),se,sn]] from by rfl)) ?_
  refine qH qD [.k5,.d,.n] [pb 169 50 [(iv 2),(iv 1),sn,(iv 0),(iv 0),se,sn]]<|qB<|qB ?_
  have hin_:qA s a+1≤s.length:=by omega
  have hgi:=zR hin_
  refine zC qD 1 [.k3,.n,.d,.n,.r] [ps 160 (bv (qP s (qA s a+1) 42)),pb 0 103 (vN s (qA s (qA s a+1)) 0 0 (k-1))] (zY [0] 337 (vU s (qA s a+1) ((k-1:Nat):Int) 42 hs (by omega)) oz) ?_
  by_cases h4:(qP s (qA s a+1) 42)=true
  ·refine qL (b:=(qP s (qA s a+1) 42)) rfl h4<|qB ?_
   have hlt2:=zM h4
   refine qQ qD [] [.k3,.d,.d,.n,.r] [pb 0 103 [(sv (st s)),(iv (((qA s (qA s a+1):Nat):Int)+1)),(iv 0),(iv 0),(nv (k-1))]] (oi (((qA s (qA s a+1):Nat):Int)+1) (by omega) oz)<|qj (Wk.eq (show _=[ps 0 (.opt 0 0),ps 4 (.opt 1 0),ps 5 (.opt 169 0),pb 0 103 (vN s (qA s (qA s a+1)+1) 0 0 (k-1)),pb 1 50 [(iv 0),(iv 0),sn,(iv 0),(iv 0),se,sn],pb 169 50 [(iv 2),(iv 1),sn,(iv 0),(iv 0),se,sn]] from by rfl)) ?_
   by_cases h5:(qE s (qA s (qA s a+1)+1)).1=0
   ·refine zC qD 1 [.k3,.d,.n,.k1,.d,.n] [pb 0 103 (vN s ((qE s (qA s (qA s a+1)+1)).2.2) 0 0 (k-1)),pb 169 50 [(iv 2),(iv ((qE s (qA s (qA s a+1)+1)).2.1)),sn,(iv 0),(iv 0),se,sn]] (zY [0] 417 (jE (wO s (qA s (qA s a+1)+1) ((k-1:Nat):Int) hs (by omega)) h5) oz)<|qB<|qB ?_
    have hin2:=(wK (s:=s) (a:=(qA s (qA s a+1)+1)) (by omega)).2
    refine qH qD [.k3,.n,.r] [ps 173 (bv false)]<|qO (b:=false) rfl rfl<|qF<|qB<|qH qD [.d,.k1,.d,.d,.k1,.d,.n,.d] [pb 1 50 [(iv 2),(iv ((qE s (qA s (qA s a+1)+1)).2.1)),sn,(iv 0),(iv 0),se,sn]] ?_
    rw [show (qN s lv a k)=(0,(Qw (.mk 2 1 [] (0,0) [] []) (qE s (qA s (qA s a+1)+1)).2.1),(qE s (qA s (qA s a+1)+1)).2.2,(k-1)) from by rw [zT,if_neg hk0,if_pos h3,zw,if_pos h4,if_pos h5,vI,if_neg (by show ¬ ((2:Int)=1);decide)],if_pos rfl,if_pos rfl]
    exact qk hc0 [4] [0,1] (hbk:=by exact oc rfl (oz))
   refine zC qD 1 [.k3,.d,.n,.k1,.d,.n] [pb 0 103 (jV s ((qE s (qA s (qA s a+1)+1)).2.2) ((qE s (qA s (qA s a+1)+1)).1) ((qE s (qA s (qA s a+1)+1)).2.2) (k-1)),pb 169 50 [(iv 2),(iv 0),sn,(iv 0),(iv 0),se,sn]] (zY [0] 417 (QY (wO s (qA s (qA s a+1)+1) ((k-1:Nat):Int) hs (by omega)) h5) oz)<|qB<|qB<|qH qD [.k3,.n,.r] [ps 173 (bv false)]<|qO (b:=false) rfl rfl<|qF<|qB<|qH qD [.d,.k1,.d,.d,.k1,.d,.n,.d] [pb 1 50 [(iv 2),(iv 0),sn,(iv 0),(iv 0),se,sn]] ?_
   rw [show (qN s lv a k)=((qE s (qA s (qA s a+1)+1)).1,zQ,(qE s (qA s (qA s a+1)+1)).2.2,(k-1)) from by rw [zT,if_neg hk0,if_pos h3,zw,if_pos h4,if_neg h5],show (yv s lv a k)=(Qw (.mk 2 1 [] (0,0) [] []) 0,((k-1:Nat):Int)) from by rw [wj,if_neg hk0,if_pos h3,jL,if_pos h4,if_neg h5],if_neg h5,if_neg h5]
   exact qk hc0 [4] [0,1] (hbk:=by exact oc rfl (oz))
  refine qO (b:=(qP s (qA s a+1) 42)) rfl (Bool.eq_false_iff.2 h4)<|qF<|qB<|qB<|qH qD [.k3,.d,.n,.r] [ps 173 (bv false)]<|qO (b:=false) rfl rfl<|qF<|qB<|qH qD [.d,.k1,.d,.d,.k1,.d,.n,.d] [pb 1 50 [(iv 2),(iv 1),sn,(iv 0),(iv 0),se,sn]] ?_
  rw [show (qN s lv a k)=(0,(.mk 2 1 [] (0,0) [] []),(qA s (qA s a+1)),(k-1)) from by rw [zT,if_neg hk0,if_pos h3,zw,if_neg h4,vI,if_neg (by show ¬ ((2:Int)=1);decide)],if_pos rfl,if_pos rfl]
  exact qk hc0 [4] [0,1] (hbk:=by exact oc rfl (oz))
 refine qR (qV h3)<|qB<|zC qD 1 [.k5,.d,.n,.r] [ps 50 (bv (qP s a 126))] (zY [0] 257 (qcg s a ((k-1:Nat):Int) 126 hs (by omega)) oz) ?_
 by_cases h6:(qP s a 126)=true
 ·refine qL (b:=(qP s a 126)) rfl h6<|qB ?_
  have hlt:=zM h6
  refine qQ qD [] [.k1,.d,.k2,.d,.d,.d,.n,.r] [pb 0 103 [(sv (st s)),(iv (((qA s a:Nat):Int)+1)),(iv 0),(iv 0),(nv (k-1))]] (oi (((qA s a:Nat):Int)+1) (by omega) oz)<|qj (Wk.eq (show _=[ps 0 (.opt 0 0),ps 4 (.opt 1 0),ps 5 (.opt 169 0),pb 0 103 (vN s (qA s a+1) 0 0 (k-1)),pb 1 50 [(iv 0),(iv 0),sn,(iv 0),(iv 0),se,sn],pb 169 50 [(iv 1),(iv 1),sn,(iv 0),(iv 0),se,sn]] from by rfl)) ?_
  refine qH qD [.k5,.d,.n] [pb 169 50 [(iv 3),(iv 1),sn,(iv 0),(iv 0),se,sn]]<|qB<|qB ?_
  have hin_:qA s a+1≤s.length:=by omega
  have hgi:=zR hin_
  refine zC qD 1 [.k3,.n,.d,.n,.r] [ps 160 (bv (qP s (qA s a+1) 42)),pb 0 103 (vN s (qA s (qA s a+1)) 0 0 (k-1))] (zY [0] 353 (vU s (qA s a+1) ((k-1:Nat):Int) 42 hs (by omega)) oz) ?_
  by_cases h7:(qP s (qA s a+1) 42)=true
  ·refine qL (b:=(qP s (qA s a+1) 42)) rfl h7<|qB ?_
   have hlt2:=zM h7
   refine qQ qD [] [.k3,.d,.d,.n,.r] [pb 0 103 [(sv (st s)),(iv (((qA s (qA s a+1):Nat):Int)+1)),(iv 0),(iv 0),(nv (k-1))]] (oi (((qA s (qA s a+1):Nat):Int)+1) (by omega) oz)<|qj (Wk.eq (show _=[ps 0 (.opt 0 0),ps 4 (.opt 1 0),ps 5 (.opt 169 0),pb 0 103 (vN s (qA s (qA s a+1)+1) 0 0 (k-1)),pb 1 50 [(iv 0),(iv 0),sn,(iv 0),(iv 0),se,sn],pb 169 50 [(iv 3),(iv 1),sn,(iv 0),(iv 0),se,sn]] from by rfl)) ?_
   by_cases h8:(qE s (qA s (qA s a+1)+1)).1=0
   ·refine zC qD 1 [.k3,.d,.n,.k1,.d,.n] [pb 0 103 (vN s ((qE s (qA s (qA s a+1)+1)).2.2) 0 0 (k-1)),pb 169 50 [(iv 3),(iv ((qE s (qA s (qA s a+1)+1)).2.1)),sn,(iv 0),(iv 0),se,sn]] (zY [0] 433 (jE (wO s (qA s (qA s a+1)+1) ((k-1:Nat):Int) hs (by omega)) h8) oz)<|qB<|qB ?_
    have hin2:=(wK (s:=s) (a:=(qA s (qA s a+1)+1)) (by omega)).2
    refine qH qD [.k3,.n,.r] [ps 173 (bv false)]<|qO (b:=false) rfl rfl<|qF<|qB<|qH qD [.d,.k1,.d,.d,.k1,.d,.n,.d] [pb 1 50 [(iv 3),(iv ((qE s (qA s (qA s a+1)+1)).2.1)),sn,(iv 0),(iv 0),se,sn]] ?_
    rw [show (qN s lv a k)=(0,(Qw (.mk 3 1 [] (0,0) [] []) (qE s (qA s (qA s a+1)+1)).2.1),(qE s (qA s (qA s a+1)+1)).2.2,(k-1)) from by rw [zT,if_neg hk0,if_neg h3,if_pos h6,zw,if_pos h7,if_pos h8,vI,if_neg (by show ¬ ((3:Int)=1);decide)],if_pos rfl,if_pos rfl]
    exact qk hc0 [4] [0,1] (hbk:=by exact oc rfl (oz))
   refine zC qD 1 [.k3,.d,.n,.k1,.d,.n] [pb 0 103 (jV s ((qE s (qA s (qA s a+1)+1)).2.2) ((qE s (qA s (qA s a+1)+1)).1) ((qE s (qA s (qA s a+1)+1)).2.2) (k-1)),pb 169 50 [(iv 3),(iv 0),sn,(iv 0),(iv 0),se,sn]] (zY [0] 433 (QY (wO s (qA s (qA s a+1)+1) ((k-1:Nat):Int) hs (by omega)) h8) oz)<|qB<|qB<|qH qD [.k3,.n,.r] [ps 173 (bv false)]<|qO (b:=false) rfl rfl<|qF<|qB<|qH qD [.d,.k1,.d,.d,.k1,.d,.n,.d] [pb 1 50 [(iv 3),(iv 0),sn,(iv 0),(iv 0),se,sn]] ?_
   rw [show (qN s lv a k)=((qE s (qA s (qA s a+1)+1)).1,zQ,(qE s (qA s (qA s a+1)+1)).2.2,(k-1)) from by rw [zT,if_neg hk0,if_neg h3,if_pos h6,zw,if_pos h7,if_neg h8],show (yv s lv a k)=(Qw (.mk 3 1 [] (0,0) [] []) 0,((k-1:Nat):Int)) from by rw [wj,if_neg hk0,if_neg h3,if_pos h6,jL,if_pos h7,if_neg h8],if_neg h8,if_neg h8]
   exact qk hc0 [4] [0,1] (hbk:=by exact oc rfl (oz))
  refine qO (b:=(qP s (qA s a+1) 42)) rfl (Bool.eq_false_iff.2 h7)<|qF<|qB<|qB<|qH qD [.k3,.d,.n,.r] [ps 173 (bv false)]<|qO (b:=false) rfl rfl<|qF<|qB<|qH qD [.d,.k1,.d,.d,.k1,.d,.n,.d] [pb 1 50 [(iv 3),(iv 1),sn,(iv 0),(iv 0),se,sn]] ?_
  rw [show (qN s lv a k)=(0,(.mk 3 1 [] (0,0) [] []),(qA s (qA s a+1)),(k-1)) from by rw [zT,if_neg hk0,if_neg h3,if_pos h6,zw,if_neg h7,vI,if_neg (by show ¬ ((3:Int)=1);decide)],if_pos rfl,if_pos rfl]
  exact qk hc0 [4] [0,1] (hbk:=by exact oc rfl (oz))
 refine qO (b:=(qP s a 126)) rfl (Bool.eq_false_iff.2 h6)<|qB ?_
 by_cases h9:(qC s a)=([117,112]:TX)
 ·refine qQ qD ([(1,.val (.av (.bool (decide ((qC s a)=([117,112]:TX))))))]++gy 3 2++[(5,.yes true)]) [.k5,.d,.n,.r] [ps 64 (bv true)] (oc (qv _ _:((st (qC s a)).toList == (st ([117,112]:TX)).toList)=decide ((qC s a)=([117,112]:TX))) (on 3 (qT h9) oz))<|qL (b:=true) rfl rfl<|qB<|qH qD [.k5,.d,.k2,.d,.n] [pb 169 50 [(iv 4),(iv 1),sn,(iv 0),(iv 0),se,sn]]<|qB<|qB<|qQ qD [(1,.val (.av (.bool (decide ((qC s a)=([117,112]:TX))))))] [.k4,.d,.n,.r] [ps 67 (bv (decide ((qC s a)=([117,112]:TX))))] (oc (qv _ _:((st (qC s a)).toList == (st ([117,112]:TX)).toList)=decide ((qC s a)=([117,112]:TX))) oz)<|qS (qT h9)<|qB<|qH qD [.k4,.d,.k2,.d,.n] [pb 169 50 [(iv 5),(iv 1),sn,(iv 0),(iv 0),se,sn]]<|qB ?_
  have hw1:(qC s a).length=2:=by rw [h9];rfl
  refine qQ qD [] [.k4,.d,.n,.r] [pb 0 103 [(sv (st s)),(iv (((qA s a:Nat):Int)+2)),(iv 0),(iv 0),(nv (k-1))]] (oi (((qA s a:Nat):Int)+2) (by omega) oz)<|qj (Wk.eq (show _=[ps 0 (.opt 0 0),ps 1 (iv lv),ps 4 (.opt 1 0),ps 5 (.opt 169 0),pb 0 103 (vN s (qA s a+2) 0 0 (k-1)),pb 1 50 [(iv 0),(iv 0),sn,(iv 0),(iv 0),se,sn],pb 169 50 [(iv 5),(iv 1),sn,(iv 0),(iv 0),se,sn]] from by rfl)) ?_
  refine qB<|zC qD 1 [.k4,.n,.d,.n,.r] [ps 7 (sv (st (qC s (qA s a+2)))),pb 0 103 (vN s (qA s (qA s a+2)) 0 0 (k-1))] (zY [0] 441 (QG s (qA s a+2) ((k-1:Nat):Int) hs (by omega)) oz)<|qB ?_
  have hwl2:=yV (s:=s) (a:=qA s a+2) (by omega)
  have hgg2:=vH s (qA s a+2)
  refine yC qD 1 [.k5,.n,.n,.k3,.n] [ps 8 (.opt 497 0),ps 9 (iv ((qY (qC s (qA s a+2))).2)),pb 497 41 [(iv ((qY (qC s (qA s a+2))).1.1)),(iv ((qY (qC s (qA s a+2))).1.2))]] (zO 465 (qhl (qC s (qA s a+2)) (by omega)) oz)<|qB<|qB<|qH qD [.k7,.n,.r] [ps 85 (bv (!(decide (((qY (qC s (qA s a+2))).2)=0))))] ?_
  by_cases h10:((qY (qC s (qA s a+2))).2)=0
  ·refine qR (bt h10)<|qF<|qB<|qQ qD [] [.k4,.d,.k1,.d,.d,.d,.n,.r] [pb 0 103 [(sv (st s)),(iv (((qA s (qA s a+2):Nat):Int)+(((qC s (qA s a+2)).length:Nat):Int))),(iv 0),(iv 0),(nv (k-1))]] (oi (((qA s (qA s a+2):Nat):Int)+(((qC s (qA s a+2)).length:Nat):Int)) (by omega) oz)<|qj (Wk.eq (show _=[ps 0 (.opt 0 0),ps 1 (iv lv),ps 4 (.opt 1 0),ps 5 (.opt 169 0),ps 8 (.opt 497 0),pb 0 103 (vN s (qA s (qA s a+2)+(qC s (qA s a+2)).length) 0 0 (k-1)),pb 1 50 [(iv 0),(iv 0),sn,(iv 0),(iv 0),se,sn],pb 169 50 [(iv 5),(iv 1),sn,(iv 0),(iv 0),se,sn],pb 497 41 [(iv ((qY (qC s (qA s a+2))).1.1)),(iv ((qY (qC s (qA s a+2))).1.2))]] from by rfl)) ?_
   refine qH qD [.k4,.d,.k2,.d,.n,.d] [pb 169 50 [(iv 5),(iv 1),sn,(iv ((qY (qC s (qA s a+2))).1.1)),(iv ((qY (qC s (qA s a+2))).1.2)),se,sn]]<|qB ?_
   by_cases h11:(qP s (qA s (qA s a+2)+(qC s (qA s a+2)).length) 91)=true
   ·refine zC qD 1 [.k4,.d,.n,.r] [pb 0 103 (vN s (qA s (qA s (qA s a+2)+(qC s (qA s a+2)).length)+1) 0 0 (k-1))] (zY [0] 657 (ZL s (qA s (qA s a+2)+(qC s (qA s a+2)).length) ((k-1:Nat):Int) 91 hs (by omega) h11) oz)<|qB<|qB<|qH qD [.k4,.n,.r] [ps 10 (bv true)]<|qX<|qj (Wk.nilc (B:=50) (cells:=[(iv 5),(iv 1),sn,(iv ((qY (qC s (qA s a+2))).1.1)),(iv ((qY (qC s (qA s a+2))).1.2)),se,sn]) 169 6 50 (by kernel_rfl) rfl)<|qj (Wk.less (l':=[ps 0 (.opt 0 0),ps 1 (iv lv),ps 4 (.opt 1 0),ps 5 (.opt 169 0),ps 10 (bv true),pb 0 103 (vN s (qA s (qA s (qA s a+2)+(qC s (qA s a+2)).length)+1) 0 0 (k-1)),pb 1 50 [(iv 0),(iv 0),sn,(iv 0),(iv 0),se,sn],pb 169 50 [(iv 5),(iv 1),sn,(iv ((qY (qC s (qA s a+2))).1.1)),(iv ((qY (qC s (qA s a+2))).1.2)),se,(.osl 673 0 0)],pb 673 50 []]) 674 (by kernel_rfl) (by kernel_rfl)) ?_
    have hlt1:=zM h11
    refine qj (Wk.eq (show _=[ps 0 (.opt 0 0),ps 1 (iv lv),ps 4 (.opt 1 0),ps 5 (.opt 169 0),ps 10 (bv true),pb 0 103 (vN s (qA s (qA s (qA s a+2)+(qC s (qA s a+2)).length)+1) 0 0 (k-1)),pb 1 50 [(iv 0),(iv 0),sn,(iv 0),(iv 0),se,sn],pb 169 50 [(iv 5),(iv 1),sn,(iv ((qY (qC s (qA s a+2))).1.1)),(iv ((qY (qC s (qA s a+2))).1.2)),se,(.osl 673 0 (([]:List It).length))],pb 673 50 (zP ([]:List It))] from by rfl)) ?_
    refine zy (α:={x:List It × Nat × Int × Int × Int × Bool // KI s lv (k-1) (grL s lv [] (qA s (qA s (qA s a+2)+(qC s (qA s a+2)).length)+1) (k-1)) (glG s lv [] (qA s (qA s (qA s a+2)+(qC s (qA s a+2)).length)+1) (k-1)) x.1 x.2.1 x.2.2.1 x.2.2.2.1 x.2.2.2.2.1 x.2.2.2.2.2}) (fun x=>[ps 0 (.opt 0 0),ps 1 (iv lv),ps 4 (.opt 1 0),ps 5 (.opt 2 0),ps 10 (bv x.1.2.2.2.2.2),pb 0 103 (r5 s x.1.2.1 x.1.2.2.1 x.1.2.2.2.1 x.1.2.2.2.2.1),pb 1 50 [(iv 0),(iv 0),sn,(iv 0),(iv 0),se,sn],pb 2 50 [(iv 5),(iv 1),sn,(iv ((qY (qC s (qA s a+2))).1.1)),(iv ((qY (qC s (qA s a+2))).1.2)),se,(.osl 3 0 x.1.1.length)],pb 3 50 (zP x.1.1)]) (fun x=>mK x.1.2.2.2.2.2 x.1.2.2.1 x.1.2.2.2.2.1) 4 ⟨([],(qA s (qA s (qA s a+2)+(qC s (qA s a+2)).length)+1),0,0,((k-1:Nat):Int),true),.inl ⟨rfl,rfl,rfl,k-1,rfl,hlt1,Nat.le_of_eq (Nat.zero_add _),rfl,rfl⟩⟩ (Wk.ren3 _ 1 hc0 [0,1,169,673] [(kb 3,(zP ([]:List It)))] (oc (yA _) (oz)) (by kernel_rfl) rfl rfl (by kernel_rfl) (by kernel_rfl)) ?_
    rintro ⟨⟨l,b,e,f,kk,g⟩,hin⟩
    dsimp only at hin
    refine qB<|qB ?_
    by_cases h12:g=true
    ·refine zD qD [(2,.gd true .no),(3,.gd true (.call [0] [(.opt 0 0)] [some (103,(r5 s b e f kk))] (bv (decide (e=0))) [some (103,(r5 s b e f kk))])),(4,.yes true)] [ps 0 (.opt 0 0),ps 1 (iv lv),ps 4 (.opt 1 0),ps 5 (.opt 2 0),ps 108 (bv (decide (e=0))),pb 0 103 (r5 s b e f kk),pb 1 50 [(iv 0),(iv 0),sn,(iv 0),(iv 0),se,sn],pb 2 50 [(iv 5),(iv 1),sn,(iv ((qY (qC s (qA s a+2))).1.1)),(iv ((qY (qC s (qA s a+2))).1.2)),se,(.osl 3 0 l.length)],pb 3 50 (zP l)] (on 2 (h12:g=true) (zY [0] 28 (qbb s b e f kk) (oc (h12:g=true) oz))) ?_
     by_cases h13:e=0
     ·refine qS (qT h13)<|qF<|qX<|qB ?_
      obtain ⟨hf0,q,hkq,hb,hlq,hgl,hgg2⟩:=ki_go hin h12 h13
      refine qj (Wk.eq (show _=[ps 0 (.opt 0 0),ps 1 (iv lv),ps 4 (.opt 1 0),ps 5 (.opt 2 0),ps 108 (bv (decide (e=0))),pb 0 103 (vN s b 0 0 q),pb 1 50 [(iv 0),(iv 0),sn,(iv 0),(iv 0),se,sn],pb 2 50 [(iv 5),(iv 1),sn,(iv ((qY (qC s (qA s a+2))).1.1)),(iv ((qY (qC s (qA s a+2))).1.2)),se,(.osl 3 0 l.length)],pb 3 50 (zP l)] from by rw [h13,hf0,hkq])) ?_
      by_cases h14:(qN s (lv+1) b q).1=0
      ·refine wC qD [(5,.call [0] [(.opt 0 0),(iv (lv+1))] [some (103,(vN s b 0 0 q))] (.agg [(iv (iK ((qN s (lv+1) b q).2.1))),(iv (iS ((qN s (lv+1) b q).2.1))),(.ssl (wA (iP ((qN s (lv+1) b q).2.1))) 0 ((iP ((qN s (lv+1) b q).2.1)).length)),(iv ((iB ((qN s (lv+1) b q).2.1)).1)),(iv ((iB ((qN s (lv+1) b q).2.1)).2)),(sv (st (iL ((qN s (lv+1) b q).2.1)))),(.ssl (zP (iC ((qN s (lv+1) b q).2.1))) 0 ((iC ((qN s (lv+1) b q).2.1)).length))]) [some (103,(vN s ((qN s (lv+1) b q).2.2.1) 0 0 ((qN s (lv+1) b q).2.2.2))),none]),(7,.app none (some (zP (l++[(qN s (lv+1) b q).2.1]))))] (VB [(0,0),(0,1),(0,0),(0,0),(3,1),(2,3),(2,4),(0,7),(0,8),(0,9)]) [([218],[10]),([220],[5,218]),([222],[0]),([224],[2]),([226],[224]),([228,1,169],[1,222,226]),([230,185],[228]),([232,7,201],[7,185,220,230]),([234],[10]),([5],[5,232,234])] [.k4,.d,.d,.n,.k1,.d,.n,.d,.n] [pb 0 103 (vN s ((qN s (lv+1) b q).2.2.1) 0 0 ((qN s (lv+1) b q).2.2.2)),pb 2 50 [(iv 5),(iv 1),sn,(iv ((qY (qC s (qA s a+2))).1.1)),(iv ((qY (qC s (qA s a+2))).1.2)),se,(.osl 100 0 (l.length+1))],pb 100 50 (zP (l++[(qN s (lv+1) b q).2.1]))] (oi (lv+1) (by omega) (zY [0] 84 (jE (ih (by omega) (by omega) b q (by omega) (by omega)) h14) (oc (YD _:((zP l)).length=l.length*7) (oc (by omega:(l.length+1)*96≤140737488355328∧l.length+1≤9223372036854775807) (oc (Qj l _:(zP l)++[(iv (iK ((qN s (lv+1) b q).2.1))),(iv (iS ((qN s (lv+1) b q).2.1))),(.ssl (wA (iP ((qN s (lv+1) b q).2.1))) 0 ((iP ((qN s (lv+1) b q).2.1)).length)),(iv ((iB ((qN s (lv+1) b q).2.1)).1)),(iv ((iB ((qN s (lv+1) b q).2.1)).2)),(sv (st (iL ((qN s (lv+1) b q).2.1)))),(.ssl (zP (iC ((qN s (lv+1) b q).2.1))) 0 ((iC ((qN s (lv+1) b q).2.1)).length))]=(zP (l++[(qN s (lv+1) b q).2.1]))) oz))))) ?_
       have hie:=wT (lv:=lv+1) (k:=q) hb h14
       by_cases h15:(qP s ((qN s (lv+1) b q).2.2.1) 93)=true
       ·refine zC qD 1 [.k4,.n,.d,.n,.r] [ps 10 (bv false),pb 0 103 (vN s (qA s ((qN s (lv+1) b q).2.2.1)) 0 0 ((qN s (lv+1) b q).2.2.2))] (zY [0] 132 (qci (vU s ((qN s (lv+1) b q).2.2.1) (((qN s (lv+1) b q).2.2.2:Nat):Int) 93 hs (by omega)) (h15)) oz)<|qZ ?_
        exact qq ⟨((l++[(qN s (lv+1) b q).2.1]),(qA s (qN s (lv+1) b q).2.2.1),(0:Int),(0:Int),(((qN s (lv+1) b q).2.2.2:Nat):Int),false),ki_stop hb hgl h14 h15⟩ (Wk.trans (Wk.eq (show _=[ps 0 (.opt 0 0),ps 1 (iv lv),ps 4 (.opt 1 0),ps 5 (.opt 2 0),ps 10 (bv false),pb 0 103 (r5 s (qA s (qN s (lv+1) b q).2.2.1) (0:Int) (0:Int) (((qN s (lv+1) b q).2.2.2:Nat):Int)),pb 1 50 [(iv 0),(iv 0),sn,(iv 0),(iv 0),se,sn],pb 2 50 [(iv 5),(iv 1),sn,(iv ((qY (qC s (qA s a+2))).1.1)),(iv ((qY (qC s (qA s a+2))).1.2)),se,(.osl 100 0 ((l++[(qN s (lv+1) b q).2.1]).length))],pb 100 50 (zP (l++[(qN s (lv+1) b q).2.1]))] from by rw [List.length_append];rfl)) (Wk.ren3 _ 1 hc0 [0,1,2,100] [(kb 3,(zP (l++[(qN s (lv+1) b q).2.1])))] (oc (yA _) (oz)) (by kernel_rfl) rfl rfl (by kernel_rfl) (by kernel_rfl))) (show mK false (0:Int) (((qN s (lv+1) b q).2.2.2:Nat):Int)<mK g e kk from YB h12 h13 (fun c=>by cases c.1))
       refine zC qD 1 [.k4,.n,.d,.n,.r] [ps 10 (bv true),pb 0 103 (vN s (qA s ((qN s (lv+1) b q).2.2.1)) 0 0 ((qN s (lv+1) b q).2.2.2))] (zY [0] 132 (qci (vU s ((qN s (lv+1) b q).2.2.1) (((qN s (lv+1) b q).2.2.2:Nat):Int) 93 hs (by omega)) (eq_false_of_ne_true h15)) oz)<|qZ ?_
       exact qq ⟨((l++[(qN s (lv+1) b q).2.1]),(qA s (qN s (lv+1) b q).2.2.1),(0:Int),(0:Int),(((qN s (lv+1) b q).2.2.2:Nat):Int),true),ki_next hb hlq hgl hgg2 h14 h15⟩ (Wk.trans (Wk.eq (show _=[ps 0 (.opt 0 0),ps 1 (iv lv),ps 4 (.opt 1 0),ps 5 (.opt 2 0),ps 10 (bv true),pb 0 103 (r5 s (qA s (qN s (lv+1) b q).2.2.1) (0:Int) (0:Int) (((qN s (lv+1) b q).2.2.2:Nat):Int)),pb 1 50 [(iv 0),(iv 0),sn,(iv 0),(iv 0),se,sn],pb 2 50 [(iv 5),(iv 1),sn,(iv ((qY (qC s (qA s a+2))).1.1)),(iv ((qY (qC s (qA s a+2))).1.2)),se,(.osl 100 0 ((l++[(qN s (lv+1) b q).2.1]).length))],pb 100 50 (zP (l++[(qN s (lv+1) b q).2.1]))] from by rw [List.length_append];rfl)) (Wk.ren3 _ 1 hc0 [0,1,2,100] [(kb 3,(zP (l++[(qN s (lv+1) b q).2.1])))] (oc (yA _) (oz)) (by kernel_rfl) rfl rfl (by kernel_rfl) (by kernel_rfl))) (show mK true (0:Int) (((qN s (lv+1) b q).2.2.2:Nat):Int)<mK g e kk from qhu h12 h13 hkq (wT (lv:=lv+1) (k:=q) hb h14).2)
      refine wC qD [(5,.call [0] [(.opt 0 0),(iv (lv+1))] [some (103,(vN s b 0 0 q))] (.agg [(iv (iK ((yv s (lv+1) b q).1))),(iv (iS ((yv s (lv+1) b q).1))),(.ssl (wA (iP ((yv s (lv+1) b q).1))) 0 ((iP ((yv s (lv+1) b q).1)).length)),(iv ((iB ((yv s (lv+1) b q).1)).1)),(iv ((iB ((yv s (lv+1) b q).1)).2)),(sv (st (iL ((yv s (lv+1) b q).1)))),(.ssl (zP (iC ((yv s (lv+1) b q).1))) 0 ((iC ((yv s (lv+1) b q).1)).length))]) [some (103,(yz s ((qN s (lv+1) b q).2.2.1) ((qN s (lv+1) b q).1) ((qN s (lv+1) b q).2.2.1) ((yv s (lv+1) b q).2))),none]),(7,.app none (some (zP (l++[(yv s (lv+1) b q).1]))))] (VB [(0,0),(0,1),(0,0),(0,0),(3,1),(2,3),(2,4),(0,7),(0,8),(0,9)]) [([218],[10]),([220],[5,218]),([222],[0]),([224],[2]),([226],[224]),([228,1,169],[1,222,226]),([230,185],[228]),([232,7,201],[7,185,220,230]),([234],[10]),([5],[5,232,234])] [.k4,.d,.d,.n,.k1,.d,.n,.d,.n] [pb 0 103 (yz s ((qN s (lv+1) b q).2.2.1) ((qN s (lv+1) b q).1) ((qN s (lv+1) b q).2.2.1) ((yv s (lv+1) b q).2)),pb 2 50 [(iv 5),(iv 1),sn,(iv ((qY (qC s (qA s a+2))).1.1)),(iv ((qY (qC s (qA s a+2))).1.2)),se,(.osl 100 0 (l.length+1))],pb 100 50 (zP (l++[(yv s (lv+1) b q).1]))] (oi (lv+1) (by omega) (zY [0] 84 (QY (ih (by omega) (by omega) b q (by omega) (by omega)) h14) (oc (YD _:((zP l)).length=l.length*7) (oc (by omega:(l.length+1)*96≤140737488355328∧l.length+1≤9223372036854775807) (oc (Qj l _:(zP l)++[(iv (iK ((yv s (lv+1) b q).1))),(iv (iS ((yv s (lv+1) b q).1))),(.ssl (wA (iP ((yv s (lv+1) b q).1))) 0 ((iP ((yv s (lv+1) b q).1)).length)),(iv ((iB ((yv s (lv+1) b q).1)).1)),(iv ((iB ((yv s (lv+1) b q).1)).2)),(sv (st (iL ((yv s (lv+1) b q).1)))),(.ssl (zP (iC ((yv s (lv+1) b q).1))) 0 ((iC ((yv s (lv+1) b q).1)).length))]=(zP (l++[(yv s (lv+1) b q).1]))) oz)))))<|zC qD 1 [.k4,.n,.r] [ps 10 (bv true)] (zY [0] 132 (wF s ((qN s (lv+1) b q).2.2.1) ((yv s (lv+1) b q).2) 93 ((qN s (lv+1) b q).1) h14) oz)<|qZ ?_
      exact qq ⟨((l++[(yv s (lv+1) b q).1]),(qN s (lv+1) b q).2.2.1,(qN s (lv+1) b q).1,(((qN s (lv+1) b q).2.2.1:Nat):Int),(yv s (lv+1) b q).2,true),ki_no hgl hgg2 h14⟩ (Wk.trans (Wk.eq (show _=[ps 0 (.opt 0 0),ps 1 (iv lv),ps 4 (.opt 1 0),ps 5 (.opt 2 0),ps 10 (bv true),pb 0 103 (r5 s ((qN s (lv+1) b q).2.2.1) ((qN s (lv+1) b q).1) (((qN s (lv+1) b q).2.2.1:Nat):Int) ((yv s (lv+1) b q).2)),pb 1 50 [(iv 0),(iv 0),sn,(iv 0),(iv 0),se,sn],pb 2 50 [(iv 5),(iv 1),sn,(iv ((qY (qC s (qA s a+2))).1.1)),(iv ((qY (qC s (qA s a+2))).1.2)),se,(.osl 100 0 ((l++[(yv s (lv+1) b q).1]).length))],pb 100 50 (zP (l++[(yv s (lv+1) b q).1]))] from by rw [List.length_append];rfl)) (Wk.ren3 _ 1 hc0 [0,1,2,100] [(kb 3,(zP (l++[(yv s (lv+1) b q).1])))] (oc (yA _) (oz)) (by kernel_rfl) rfl rfl (by kernel_rfl) (by kernel_rfl))) (show mK true ((qN s (lv+1) b q).1) ((yv s (lv+1) b q).2)<mK g e kk from YB h12 h13 (fun c=>h14 c.2))
     refine qR (qV h13)<|zI rfl rfl ?_
     obtain ⟨hf0,hGL,hGG⟩:=ki_err hin h13
     refine qj (Wk.eq (show _=[ps 0 (.opt 0 0),ps 1 (iv lv),ps 4 (.opt 1 0),ps 5 (.opt 2 0),ps 108 (bv (decide (e=0))),pb 0 103 (yz s b e b kk),pb 1 50 [(iv 0),(iv 0),sn,(iv 0),(iv 0),se,sn],pb 2 50 [(iv 5),(iv 1),sn,(iv ((qY (qC s (qA s a+2))).1.1)),(iv ((qY (qC s (qA s a+2))).1.2)),se,(.osl 3 0 l.length)],pb 3 50 (zP l)] from by rw [hf0])) ?_
     refine zC qD 1 [.k1,.d,.k2,.d,.r] [] (zY [0] 52 (YY s b kk 93 e h13) oz)<|qB<|qB<|zC qD 1 [.k3,.n,.r] [ps 160 (bv false)] (zY [0] 68 (wF s b kk 42 e h13) oz)<|qO (b:=false) rfl rfl<|qF<|qB<|qB<|qH qD [.k3,.d,.n,.r] [ps 173 (bv false)]<|qO (b:=false) rfl rfl<|qF<|qB<|qH qD [.d,.k1,.d,.d,.k1,.d,.n,.d,.r] [pb 1 50 [(iv 5),(iv 1),sn,(iv ((qY (qC s (qA s a+2))).1.1)),(iv ((qY (qC s (qA s a+2))).1.2)),se,(.osl 3 0 l.length)]] ?_
     have hgr:yE s lv (qA s (qA s a+2)+(qC s (qA s a+2)).length) (k-1)=(e,[],b,0):=by rw [jN,if_pos h11,hGL]
     have hgG:gG s lv (qA s (qA s a+2)+(qC s (qA s a+2)).length) (k-1)=(l,kk):=by rw [gG_eq,if_pos h11,hGG]
     rw [show (qN s lv a k)=(e,zQ,b,0) from by rw [zT,if_neg hk0,if_neg h3,if_neg h6,if_pos h9,if_pos h10,hgr,if_neg h13],show (yv s lv a k)=(.mk 5 1 [] (qY (qC s (qA s a+2))).1 [] l,kk) from by rw [wj,if_neg hk0,if_neg h3,if_neg h6,if_pos h9,if_pos h10,hgr,if_neg h13,hgG],if_neg h13,if_neg h13]
     refine qj (Wk.frz (l':=[ps 4 (.opt 1 0),pb 0 103 (yz s b e b kk),pb 1 50 [(iv 5),(iv 1),sn,(iv ((qY (qC s (qA s a+2))).1.1)),(iv ((qY (qC s (qA s a+2))).1.2)),se,(.ssl (zP l) 0 l.length)],(kb 3,none)]) 3 (T:=50) (cs:=(zP l)) (by kernel_rfl) (yA _) (by kernel_rfl)) ?_
     exact qk hc0 [4] [0,1] (hbk:=by exact oc rfl (oz))
    refine zD qD (gn 2 2++[(4,.yes false)]) [ps 0 (.opt 0 0),ps 1 (iv lv),ps 4 (.opt 1 0),ps 5 (.opt 2 0),ps 108 (bv false),pb 0 103 (r5 s b e f kk),pb 1 50 [(iv 0),(iv 0),sn,(iv 0),(iv 0),se,sn],pb 2 50 [(iv 5),(iv 1),sn,(iv ((qY (qC s (qA s a+2))).1.1)),(iv ((qY (qC s (qA s a+2))).1.2)),se,(.osl 3 0 l.length)],pb 3 50 (zP l)] (oc (Bool.eq_false_iff.2 h12:g=false) (oc (Bool.eq_false_iff.2 h12:g=false) (oc (Bool.eq_false_iff.2 h12:g=false) oz)))<|qO (b:=false) rfl rfl<|zI rfl rfl ?_
    obtain ⟨he0,hf0,q,hkq,hb,hgb,hcm,hGL⟩:=ki_done hin h12
    have hltb:=zM hcm
    refine qj (Wk.eq (show _=[ps 0 (.opt 0 0),ps 1 (iv lv),ps 4 (.opt 1 0),ps 5 (.opt 2 0),ps 108 (bv false),pb 0 103 (vN s b 0 0 q),pb 1 50 [(iv 0),(iv 0),sn,(iv 0),(iv 0),se,sn],pb 2 50 [(iv 5),(iv 1),sn,(iv ((qY (qC s (qA s a+2))).1.1)),(iv ((qY (qC s (qA s a+2))).1.2)),se,(.osl 3 0 l.length)],pb 3 50 (zP l)] from by rw [he0,hf0,hkq])) ?_
    have h16:(qP s b 93)=true:=hcm
    refine zC qD 1 [.k1,.d,.k2,.d,.d,.n,.r] [pb 0 103 (vN s (qA s b+1) 0 0 q)] (zY [0] 52 (ZL s b (q:Int) 93 hs (by omega) h16) oz)<|qB<|qB ?_
    have hin_:qA s b+1≤s.length:=by omega
    have hgi:=zR hin_
    refine zC qD 1 [.k3,.n,.d,.n,.r] [ps 160 (bv (qP s (qA s b+1) 42)),pb 0 103 (vN s (qA s (qA s b+1)) 0 0 q)] (zY [0] 68 (vU s (qA s b+1) (q:Int) 42 hs (by omega)) oz) ?_
    by_cases h17:(qP s (qA s b+1) 42)=true
    ·refine qL (b:=(qP s (qA s b+1) 42)) rfl h17<|qB ?_
     have hlt2:=zM h17
     refine qQ qD [] [.k3,.d,.d,.n,.r] [pb 0 103 [(sv (st s)),(iv (((qA s (qA s b+1):Nat):Int)+1)),(iv 0),(iv 0),(nv q)]] (oi (((qA s (qA s b+1):Nat):Int)+1) (by omega) oz)<|qj (Wk.eq (show _=[ps 0 (.opt 0 0),ps 4 (.opt 1 0),ps 5 (.opt 2 0),pb 0 103 (vN s (qA s (qA s b+1)+1) 0 0 q),pb 1 50 [(iv 0),(iv 0),sn,(iv 0),(iv 0),se,sn],pb 2 50 [(iv 5),(iv 1),sn,(iv ((qY (qC s (qA s a+2))).1.1)),(iv ((qY (qC s (qA s a+2))).1.2)),se,(.osl 3 0 l.length)],pb 3 50 (zP l)] from by rfl)) ?_
     by_cases h18:(qE s (qA s (qA s b+1)+1)).1=0
     ·refine zC qD 1 [.k3,.d,.n,.k1,.d,.n,.r] [pb 0 103 (vN s ((qE s (qA s (qA s b+1)+1)).2.2) 0 0 q),pb 2 50 [(iv 5),(iv ((qE s (qA s (qA s b+1)+1)).2.1)),sn,(iv ((qY (qC s (qA s a+2))).1.1)),(iv ((qY (qC s (qA s a+2))).1.2)),se,(.osl 3 0 l.length)]] (zY [0] 148 (jE (wO s (qA s (qA s b+1)+1) (q:Int) hs (by omega)) h18) oz)<|qB<|qB ?_
      have hin2:=(wK (s:=s) (a:=(qA s (qA s b+1)+1)) (by omega)).2
      refine qH qD [.k3,.n,.r] [ps 173 (bv false)]<|qO (b:=false) rfl rfl<|qF<|qB<|qH qD [.d,.k1,.d,.d,.k1,.d,.n,.d,.r] [pb 1 50 [(iv 5),(iv ((qE s (qA s (qA s b+1)+1)).2.1)),sn,(iv ((qY (qC s (qA s a+2))).1.1)),(iv ((qY (qC s (qA s a+2))).1.2)),se,(.osl 3 0 l.length)]] ?_
      have hgr:yE s lv (qA s (qA s a+2)+(qC s (qA s a+2)).length) (k-1)=(0,l,qA s b+1,q):=by rw [jN,if_pos h11,hGL]
      rw [show (qN s lv a k)=(0,(Qw (.mk 5 1 [] (qY (qC s (qA s a+2))).1 [] l) (qE s (qA s (qA s b+1)+1)).2.1),(qE s (qA s (qA s b+1)+1)).2.2,q) from by rw [zT,if_neg hk0,if_neg h3,if_neg h6,if_pos h9,if_pos h10,hgr,if_pos rfl,zw,if_pos h17,if_pos h18,vI,if_neg (by show ¬ ((5:Int)=1);decide)],if_pos rfl,if_pos rfl]
      refine qj (Wk.frz (l':=[ps 4 (.opt 1 0),pb 0 103 (vN s ((qE s (qA s (qA s b+1)+1)).2.2) 0 0 q),pb 1 50 [(iv 5),(iv ((qE s (qA s (qA s b+1)+1)).2.1)),sn,(iv ((qY (qC s (qA s a+2))).1.1)),(iv ((qY (qC s (qA s a+2))).1.2)),se,(.ssl (zP l) 0 l.length)],(kb 3,none)]) 3 (T:=50) (cs:=(zP l)) (by kernel_rfl) (yA _) (by kernel_rfl)) ?_
      exact qk hc0 [4] [0,1] (hbk:=by exact oc rfl (oz))
     refine zC qD 1 [.k3,.d,.n,.k1,.d,.n,.r] [pb 0 103 (jV s ((qE s (qA s (qA s b+1)+1)).2.2) ((qE s (qA s (qA s b+1)+1)).1) ((qE s (qA s (qA s b+1)+1)).2.2) q),pb 2 50 [(iv 5),(iv 0),sn,(iv ((qY (qC s (qA s a+2))).1.1)),(iv ((qY (qC s (qA s a+2))).1.2)),se,(.osl 3 0 l.length)]] (zY [0] 148 (QY (wO s (qA s (qA s b+1)+1) (q:Int) hs (by omega)) h18) oz)<|qB<|qB<|qH qD [.k3,.n,.r] [ps 173 (bv false)]<|qO (b:=false) rfl rfl<|qF<|qB<|qH qD [.d,.k1,.d,.d,.k1,.d,.n,.d,.r] [pb 1 50 [(iv 5),(iv 0),sn,(iv ((qY (qC s (qA s a+2))).1.1)),(iv ((qY (qC s (qA s a+2))).1.2)),se,(.osl 3 0 l.length)]] ?_
     have hgr:yE s lv (qA s (qA s a+2)+(qC s (qA s a+2)).length) (k-1)=(0,l,qA s b+1,q):=by rw [jN,if_pos h11,hGL]
     rw [show (qN s lv a k)=((qE s (qA s (qA s b+1)+1)).1,zQ,(qE s (qA s (qA s b+1)+1)).2.2,q) from by rw [zT,if_neg hk0,if_neg h3,if_neg h6,if_pos h9,if_pos h10,hgr,if_pos rfl,zw,if_pos h17,if_neg h18],show (yv s lv a k)=(Qw (.mk 5 1 [] (qY (qC s (qA s a+2))).1 [] l) 0,(q:Int)) from by rw [wj,if_neg hk0,if_neg h3,if_neg h6,if_pos h9,if_pos h10,hgr,if_pos rfl,jL,if_pos h17,if_neg h18],if_neg h18,if_neg h18]
     refine qj (Wk.frz (l':=[ps 4 (.opt 1 0),pb 0 103 (jV s ((qE s (qA s (qA s b+1)+1)).2.2) ((qE s (qA s (qA s b+1)+1)).1) ((qE s (qA s (qA s b+1)+1)).2.2) q),pb 1 50 [(iv 5),(iv 0),sn,(iv ((qY (qC s (qA s a+2))).1.1)),(iv ((qY (qC s (qA s a+2))).1.2)),se,(.ssl (zP l) 0 l.length)],(kb 3,none)]) 3 (T:=50) (cs:=(zP l)) (by kernel_rfl) (yA _) (by kernel_rfl)) ?_
     exact qk hc0 [4] [0,1] (hbk:=by exact oc rfl (oz))
    refine qO (b:=(qP s (qA s b+1) 42)) rfl (Bool.eq_false_iff.2 h17)<|qF<|qB<|qB<|qH qD [.k3,.d,.n,.r] [ps 173 (bv false)]<|qO (b:=false) rfl rfl<|qF<|qB<|qH qD [.d,.k1,.d,.d,.k1,.d,.n,.d,.r] [pb 1 50 [(iv 5),(iv 1),sn,(iv ((qY (qC s (qA s a+2))).1.1)),(iv ((qY (qC s (qA s a+2))).1.2)),se,(.osl 3 0 l.length)]] ?_
    have hgr:yE s lv (qA s (qA s a+2)+(qC s (qA s a+2)).length) (k-1)=(0,l,qA s b+1,q):=by rw [jN,if_pos h11,hGL]
    rw [show (qN s lv a k)=(0,(.mk 5 1 [] (qY (qC s (qA s a+2))).1 [] l),(qA s (qA s b+1)),q) from by rw [zT,if_neg hk0,if_neg h3,if_neg h6,if_pos h9,if_pos h10,hgr,if_pos rfl,zw,if_neg h17,vI,if_neg (by show ¬ ((5:Int)=1);decide)],if_pos rfl,if_pos rfl]
    refine qj (Wk.frz (l':=[ps 4 (.opt 1 0),pb 0 103 (vN s (qA s (qA s b+1)) 0 0 q),pb 1 50 [(iv 5),(iv 1),sn,(iv ((qY (qC s (qA s a+2))).1.1)),(iv ((qY (qC s (qA s a+2))).1.2)),se,(.ssl (zP l) 0 l.length)],(kb 3,none)]) 3 (T:=50) (cs:=(zP l)) (by kernel_rfl) (yA _) (by kernel_rfl)) ?_
    exact qk hc0 [4] [0,1] (hbk:=by exact oc rfl (oz))
   refine zC qD 1 [.k4,.d,.n,.r] [pb 0 103 (jV s (qA s (qA s (qA s a+2)+(qC s (qA s a+2)).length)) 2 (qA s (qA s (qA s a+2)+(qC s (qA s a+2)).length)) (k-1))] (zY [0] 657 (qje s (qA s (qA s a+2)+(qC s (qA s a+2)).length) ((k-1:Nat):Int) 91 hs (by omega) h11) oz)<|qB<|qB<|qH qD [.k4,.n,.r] [ps 10 (bv true)]<|qX<|zy (α:={x:Nat // True}) (fun x=>[ps 0 (.opt 0 0),ps 1 (iv lv),ps 4 (.opt 1 0),ps 5 (.opt 2 0),ps 10 (bv true),pb 0 103 (jV s (qA s (qA s (qA s a+2)+(qC s (qA s a+2)).length)) 2 (qA s (qA s (qA s a+2)+(qC s (qA s a+2)).length)) (k-1)),pb 1 50 [(iv 0),(iv 0),sn,(iv 0),(iv 0),se,sn],pb 2 50 [(iv 5),(iv 1),sn,(iv ((qY (qC s (qA s a+2))).1.1)),(iv ((qY (qC s (qA s a+2))).1.2)),se,sn]]) (fun x=>0) 3 ⟨0,trivial⟩ (Wk.ren2 _ 1 hc0 [0,1,169] rfl rfl (by kernel_rfl) (by kernel_rfl)) ?_
   rintro ⟨_zz,_⟩
   refine qB<|qB<|zD qD [(2,.gd true .no),(3,.gd true (.call [0] [(.opt 0 0)] [some (103,(jV s (qA s (qA s (qA s a+2)+(qC s (qA s a+2)).length)) 2 (qA s (qA s (qA s a+2)+(qC s (qA s a+2)).length)) (k-1)))] (bv false) [some (103,(jV s (qA s (qA s (qA s a+2)+(qC s (qA s a+2)).length)) 2 (qA s (qA s (qA s a+2)+(qC s (qA s a+2)).length)) (k-1)))]))] [ps 0 (.opt 0 0),ps 1 (iv lv),ps 4 (.opt 1 0),ps 5 (.opt 2 0),ps 108 (bv false),pb 0 103 (jV s (qA s (qA s (qA s a+2)+(qC s (qA s a+2)).length)) 2 (qA s (qA s (qA s a+2)+(qC s (qA s a+2)).length)) (k-1)),pb 1 50 [(iv 0),(iv 0),sn,(iv 0),(iv 0),se,sn],pb 2 50 [(iv 5),(iv 1),sn,(iv ((qY (qC s (qA s a+2))).1.1)),(iv ((qY (qC s (qA s a+2))).1.2)),se,sn]] (on 2 tt (zY [0] 27 (wG s (qA s (qA s (qA s a+2)+(qC s (qA s a+2)).length)) ((k-1:Nat):Int) 2 (by decide)) oz))<|qO (b:=false) rfl rfl<|zI rfl rfl<|zC qD 1 [.k1,.d,.k2,.d,.r] [] (zY [0] 51 (YY s (qA s (qA s (qA s a+2)+(qC s (qA s a+2)).length)) ((k-1:Nat):Int) 93 2 (by decide)) oz)<|qB<|qB<|zC qD 1 [.k3,.n,.r] [ps 160 (bv false)] (zY [0] 67 (wF s (qA s (qA s (qA s a+2)+(qC s (qA s a+2)).length)) ((k-1:Nat):Int) 42 2 (by decide)) oz)<|qO (b:=false) rfl rfl<|qF<|qB<|qB<|qH qD [.k3,.d,.n,.r] [ps 173 (bv false)]<|qO (b:=false) rfl rfl<|qF<|qB<|qH qD [.d,.k1,.d,.d,.k1,.d,.n,.d] [pb 1 50 [(iv 5),(iv 1),sn,(iv ((qY (qC s (qA s a+2))).1.1)),(iv ((qY (qC s (qA s a+2))).1.2)),se,sn]] ?_
   have hgr:yE s lv (qA s (qA s a+2)+(qC s (qA s a+2)).length) (k-1)=(2,[],qA s (qA s (qA s a+2)+(qC s (qA s a+2)).length),0):=by rw [jN,if_neg h11]
   have hgG:gG s lv (qA s (qA s a+2)+(qC s (qA s a+2)).length) (k-1)=([],((k-1:Nat):Int)):=by rw [gG_eq,if_neg h11]
   rw [show (qN s lv a k)=(2,zQ,qA s (qA s (qA s a+2)+(qC s (qA s a+2)).length),0) from by rw [zT,if_neg hk0,if_neg h3,if_neg h6,if_pos h9,if_pos h10,hgr,if_neg (by show ¬ ((2:Int)=0);decide)],show (yv s lv a k)=(.mk 5 1 [] (qY (qC s (qA s a+2))).1 [] [],((k-1:Nat):Int)) from by rw [wj,if_neg hk0,if_neg h3,if_neg h6,if_pos h9,if_pos h10,hgr,if_neg (by show ¬ ((2:Int)=0);decide),hgG],if_neg (by show ¬ ((2:Int)=0);decide),if_neg (by show ¬ ((2:Int)=0);decide)]
   exact qk hc0 [4] [0,1] (hbk:=by exact oc rfl (oz))
  refine qS (bf h10)<|qB<|zC qD 2 [.d,.d,.k2,.d,.d,.d,.d,.d,.n,.k2,.d] [pb 0 103 (jV s (qA s (qA s a+2)) ((qY (qC s (qA s a+2))).2) (qA s (qA s a+2)) (k-1))] (zY [0] 553 (yy s (qA s (qA s a+2)) ((k-1:Nat):Int) ((qY (qC s (qA s a+2))).2)) oz)<|qB<|qH qD [.k1,.d,.k1,.d,.n,.d] [pb 1 50 [(iv 5),(iv 1),sn,(iv 0),(iv 0),se,sn]] ?_
  rw [show (qN s lv a k)=((qY (qC s (qA s a+2))).2,zQ,qA s (qA s a+2),0) from by rw [zT,if_neg hk0,if_neg h3,if_neg h6,if_pos h9,if_neg h10],show (yv s lv a k)=(.mk 5 1 [] (0,0) [] [],((k-1:Nat):Int)) from by rw [wj,if_neg hk0,if_neg h3,if_neg h6,if_pos h9,if_neg h10],if_neg h10,if_neg h10]
  exact qk hc0 [4] [0,1] (hbk:=by exact oc rfl (oz))
 refine qQ qD [(1,.val (.av (.bool (decide ((qC s a)=([117,112]:TX)))))),(3,.gd false .no),(4,.gd false (.call [0] [(.opt 0 0),(.av (.int .u8 91))] [some (103,(vN s (qA s a) 0 0 (k-1)))] (bv (qP s a 91)) [some (103,(vN s (qA s a) 0 0 (k-1)))])),(5,.yes false)] [.k5,.d,.n,.r] [ps 64 (bv (qP s a 91))] (oc (qv _ _:((st (qC s a)).toList == (st ([117,112]:TX)).toList)=decide ((qC s a)=([117,112]:TX))) (on 2 (qV h9) (zY [0] 297 (qcg s a ((k-1:Nat):Int) 91 hs (by omega)) (oc (qV h9) oz)))) ?_
 by_cases h19:(qP s a 91)=true
 ·refine qL (b:=(qP s a 91)) rfl h19<|qB<|qH qD [.k5,.d,.k2,.d,.n] [pb 169 50 [(iv 4),(iv 1),sn,(iv 0),(iv 0),se,sn]]<|qB<|qB<|qQ qD [(1,.val (.av (.bool (decide ((qC s a)=([117,112]:TX))))))] [.k4,.d,.n,.r] [ps 67 (bv (decide ((qC s a)=([117,112]:TX))))] (oc (qv _ _:((st (qC s a)).toList == (st ([117,112]:TX)).toList)=decide ((qC s a)=([117,112]:TX))) oz)<|qR (qV h9)<|qF<|qB<|zC qD 1 [.k4,.d,.d,.n,.r] [pb 0 103 (vN s (qA s a+1) 0 0 (k-1))] (zY [0] 353 (qwant_yesG s a ((k-1:Nat):Int) 91 hs (by omega) h19) oz)<|qB<|qB<|qH qD [.k4,.n,.r] [ps 10 (bv true)]<|qX<|qj (Wk.nilc (B:=50) (cells:=[(iv 4),(iv 1),sn,(iv 0),(iv 0),se,sn]) 169 6 50 (by kernel_rfl) rfl)<|qj (Wk.less (l':=[ps 0 (.opt 0 0),ps 1 (iv lv),ps 4 (.opt 1 0),ps 5 (.opt 169 0),ps 10 (bv true),pb 0 103 (vN s (qA s a+1) 0 0 (k-1)),pb 1 50 [(iv 0),(iv 0),sn,(iv 0),(iv 0),se,sn],pb 169 50 [(iv 4),(iv 1),sn,(iv 0),(iv 0),se,(.osl 369 0 0)],pb 369 50 []]) 370 (by kernel_rfl) (by kernel_rfl)) ?_
  have hlt1:=zM h19
  refine qj (Wk.eq (show _=[ps 0 (.opt 0 0),ps 1 (iv lv),ps 4 (.opt 1 0),ps 5 (.opt 169 0),ps 10 (bv true),pb 0 103 (vN s (qA s a+1) 0 0 (k-1)),pb 1 50 [(iv 0),(iv 0),sn,(iv 0),(iv 0),se,sn],pb 169 50 [(iv 4),(iv 1),sn,(iv 0),(iv 0),se,(.osl 369 0 (([]:List It).length))],pb 369 50 (zP ([]:List It))] from by rfl)) ?_
  refine zy (α:={x:List It × Nat × Int × Int × Int × Bool // KI s lv (k-1) (grL s lv [] (qA s a+1) (k-1)) (glG s lv [] (qA s a+1) (k-1)) x.1 x.2.1 x.2.2.1 x.2.2.2.1 x.2.2.2.2.1 x.2.2.2.2.2}) (fun x=>[ps 0 (.opt 0 0),ps 1 (iv lv),ps 4 (.opt 1 0),ps 5 (.opt 2 0),ps 10 (bv x.1.2.2.2.2.2),pb 0 103 (r5 s x.1.2.1 x.1.2.2.1 x.1.2.2.2.1 x.1.2.2.2.2.1),pb 1 50 [(iv 0),(iv 0),sn,(iv 0),(iv 0),se,sn],pb 2 50 [(iv 4),(iv 1),sn,(iv 0),(iv 0),se,(.osl 3 0 x.1.1.length)],pb 3 50 (zP x.1.1)]) (fun x=>mK x.1.2.2.2.2.2 x.1.2.2.1 x.1.2.2.2.2.1) 4 ⟨([],(qA s a+1),0,0,((k-1:Nat):Int),true),.inl ⟨rfl,rfl,rfl,k-1,rfl,hlt1,Nat.le_of_eq (Nat.zero_add _),rfl,rfl⟩⟩ (Wk.ren3 _ 1 hc0 [0,1,169,369] [(kb 3,(zP ([]:List It)))] (oc (yA _) (oz)) (by kernel_rfl) rfl rfl (by kernel_rfl) (by kernel_rfl)) ?_
  rintro ⟨⟨l,b,e,f,kk,g⟩,hin⟩
  dsimp only at hin
  refine qB<|qB ?_
  by_cases h20:g=true
  ·refine zD qD [(2,.gd true .no),(3,.gd true (.call [0] [(.opt 0 0)] [some (103,(r5 s b e f kk))] (bv (decide (e=0))) [some (103,(r5 s b e f kk))])),(4,.yes true)] [ps 0 (.opt 0 0),ps 1 (iv lv),ps 4 (.opt 1 0),ps 5 (.opt 2 0),ps 108 (bv (decide (e=0))),pb 0 103 (r5 s b e f kk),pb 1 50 [(iv 0),(iv 0),sn,(iv 0),(iv 0),se,sn],pb 2 50 [(iv 4),(iv 1),sn,(iv 0),(iv 0),se,(.osl 3 0 l.length)],pb 3 50 (zP l)] (on 2 (h20:g=true) (zY [0] 28 (qbb s b e f kk) (oc (h20:g=true) oz))) ?_
   by_cases h21:e=0
   ·refine qS (qT h21)<|qF<|qX<|qB ?_
    obtain ⟨hf0,q,hkq,hb,hlq,hgl,hgg2⟩:=ki_go hin h20 h21
    refine qj (Wk.eq (show _=[ps 0 (.opt 0 0),ps 1 (iv lv),ps 4 (.opt 1 0),ps 5 (.opt 2 0),ps 108 (bv (decide (e=0))),pb 0 103 (vN s b 0 0 q),pb 1 50 [(iv 0),(iv 0),sn,(iv 0),(iv 0),se,sn],pb 2 50 [(iv 4),(iv 1),sn,(iv 0),(iv 0),se,(.osl 3 0 l.length)],pb 3 50 (zP l)] from by rw [h21,hf0,hkq])) ?_
    by_cases h22:(qN s (lv+1) b q).1=0
    ·refine wC qD [(5,.call [0] [(.opt 0 0),(iv (lv+1))] [some (103,(vN s b 0 0 q))] (.agg [(iv (iK ((qN s (lv+1) b q).2.1))),(iv (iS ((qN s (lv+1) b q).2.1))),(.ssl (wA (iP ((qN s (lv+1) b q).2.1))) 0 ((iP ((qN s (lv+1) b q).2.1)).length)),(iv ((iB ((qN s (lv+1) b q).2.1)).1)),(iv ((iB ((qN s (lv+1) b q).2.1)).2)),(sv (st (iL ((qN s (lv+1) b q).2.1)))),(.ssl (zP (iC ((qN s (lv+1) b q).2.1))) 0 ((iC ((qN s (lv+1) b q).2.1)).length))]) [some (103,(vN s ((qN s (lv+1) b q).2.2.1) 0 0 ((qN s (lv+1) b q).2.2.2))),none]),(7,.app none (some (zP (l++[(qN s (lv+1) b q).2.1]))))] (VB [(0,0),(0,1),(0,0),(0,0),(3,1),(2,3),(2,4),(0,7),(0,8),(0,9)]) [([218],[10]),([220],[5,218]),([222],[0]),([224],[2]),([226],[224]),([228,1,169],[1,222,226]),([230,185],[228]),([232,7,201],[7,185,220,230]),([234],[10]),([5],[5,232,234])] [.k4,.d,.d,.n,.k1,.d,.n,.d,.n] [pb 0 103 (vN s ((qN s (lv+1) b q).2.2.1) 0 0 ((qN s (lv+1) b q).2.2.2)),pb 2 50 [(iv 4),(iv 1),sn,(iv 0),(iv 0),se,(.osl 100 0 (l.length+1))],pb 100 50 (zP (l++[(qN s (lv+1) b q).2.1]))] (oi (lv+1) (by omega) (zY [0] 84 (jE (ih (by omega) (by omega) b q (by omega) (by omega)) h22) (oc (YD _:((zP l)).length=l.length*7) (oc (by omega:(l.length+1)*96≤140737488355328∧l.length+1≤9223372036854775807) (oc (Qj l _:(zP l)++[(iv (iK ((qN s (lv+1) b q).2.1))),(iv (iS ((qN s (lv+1) b q).2.1))),(.ssl (wA (iP ((qN s (lv+1) b q).2.1))) 0 ((iP ((qN s (lv+1) b q).2.1)).length)),(iv ((iB ((qN s (lv+1) b q).2.1)).1)),(iv ((iB ((qN s (lv+1) b q).2.1)).2)),(sv (st (iL ((qN s (lv+1) b q).2.1)))),(.ssl (zP (iC ((qN s (lv+1) b q).2.1))) 0 ((iC ((qN s (lv+1) b q).2.1)).length))]=(zP (l++[(qN s (lv+1) b q).2.1]))) oz))))) ?_
     have hie:=wT (lv:=lv+1) (k:=q) hb h22
     by_cases h23:(qP s ((qN s (lv+1) b q).2.2.1) 93)=true
     ·refine zC qD 1 [.k4,.n,.d,.n,.r] [ps 10 (bv false),pb 0 103 (vN s (qA s ((qN s (lv+1) b q).2.2.1)) 0 0 ((qN s (lv+1) b q).2.2.2))] (zY [0] 132 (qci (vU s ((qN s (lv+1) b q).2.2.1) (((qN s (lv+1) b q).2.2.2:Nat):Int) 93 hs (by omega)) (h23)) oz)<|qZ ?_
      exact qq ⟨((l++[(qN s (lv+1) b q).2.1]),(qA s (qN s (lv+1) b q).2.2.1),(0:Int),(0:Int),(((qN s (lv+1) b q).2.2.2:Nat):Int),false),ki_stop hb hgl h22 h23⟩ (Wk.trans (Wk.eq (show _=[ps 0 (.opt 0 0),ps 1 (iv lv),ps 4 (.opt 1 0),ps 5 (.opt 2 0),ps 10 (bv false),pb 0 103 (r5 s (qA s (qN s (lv+1) b q).2.2.1) (0:Int) (0:Int) (((qN s (lv+1) b q).2.2.2:Nat):Int)),pb 1 50 [(iv 0),(iv 0),sn,(iv 0),(iv 0),se,sn],pb 2 50 [(iv 4),(iv 1),sn,(iv 0),(iv 0),se,(.osl 100 0 ((l++[(qN s (lv+1) b q).2.1]).length))],pb 100 50 (zP (l++[(qN s (lv+1) b q).2.1]))] from by rw [List.length_append];rfl)) (Wk.ren3 _ 1 hc0 [0,1,2,100] [(kb 3,(zP (l++[(qN s (lv+1) b q).2.1])))] (oc (yA _) (oz)) (by kernel_rfl) rfl rfl (by kernel_rfl) (by kernel_rfl))) (show mK false (0:Int) (((qN s (lv+1) b q).2.2.2:Nat):Int)<mK g e kk from YB h20 h21 (fun c=>by cases c.1))
     refine zC qD 1 [.k4,.n,.d,.n,.r] [ps 10 (bv true),pb 0 103 (vN s (qA s ((qN s (lv+1) b q).2.2.1)) 0 0 ((qN s (lv+1) b q).2.2.2))] (zY [0] 132 (qci (vU s ((qN s (lv+1) b q).2.2.1) (((qN s (lv+1) b q).2.2.2:Nat):Int) 93 hs (by omega)) (eq_false_of_ne_true h23)) oz)<|qZ ?_
     exact qq ⟨((l++[(qN s (lv+1) b q).2.1]),(qA s (qN s (lv+1) b q).2.2.1),(0:Int),(0:Int),(((qN s (lv+1) b q).2.2.2:Nat):Int),true),ki_next hb hlq hgl hgg2 h22 h23⟩ (Wk.trans (Wk.eq (show _=[ps 0 (.opt 0 0),ps 1 (iv lv),ps 4 (.opt 1 0),ps 5 (.opt 2 0),ps 10 (bv true),pb 0 103 (r5 s (qA s (qN s (lv+1) b q).2.2.1) (0:Int) (0:Int) (((qN s (lv+1) b q).2.2.2:Nat):Int)),pb 1 50 [(iv 0),(iv 0),sn,(iv 0),(iv 0),se,sn],pb 2 50 [(iv 4),(iv 1),sn,(iv 0),(iv 0),se,(.osl 100 0 ((l++[(qN s (lv+1) b q).2.1]).length))],pb 100 50 (zP (l++[(qN s (lv+1) b q).2.1]))] from by rw [List.length_append];rfl)) (Wk.ren3 _ 1 hc0 [0,1,2,100] [(kb 3,(zP (l++[(qN s (lv+1) b q).2.1])))] (oc (yA _) (oz)) (by kernel_rfl) rfl rfl (by kernel_rfl) (by kernel_rfl))) (show mK true (0:Int) (((qN s (lv+1) b q).2.2.2:Nat):Int)<mK g e kk from qhu h20 h21 hkq (wT (lv:=lv+1) (k:=q) hb h22).2)
    refine wC qD [(5,.call [0] [(.opt 0 0),(iv (lv+1))] [some (103,(vN s b 0 0 q))] (.agg [(iv (iK ((yv s (lv+1) b q).1))),(iv (iS ((yv s (lv+1) b q).1))),(.ssl (wA (iP ((yv s (lv+1) b q).1))) 0 ((iP ((yv s (lv+1) b q).1)).length)),(iv ((iB ((yv s (lv+1) b q).1)).1)),(iv ((iB ((yv s (lv+1) b q).1)).2)),(sv (st (iL ((yv s (lv+1) b q).1)))),(.ssl (zP (iC ((yv s (lv+1) b q).1))) 0 ((iC ((yv s (lv+1) b q).1)).length))]) [some (103,(yz s ((qN s (lv+1) b q).2.2.1) ((qN s (lv+1) b q).1) ((qN s (lv+1) b q).2.2.1) ((yv s (lv+1) b q).2))),none]),(7,.app none (some (zP (l++[(yv s (lv+1) b q).1]))))] (VB [(0,0),(0,1),(0,0),(0,0),(3,1),(2,3),(2,4),(0,7),(0,8),(0,9)]) [([218],[10]),([220],[5,218]),([222],[0]),([224],[2]),([226],[224]),([228,1,169],[1,222,226]),([230,185],[228]),([232,7,201],[7,185,220,230]),([234],[10]),([5],[5,232,234])] [.k4,.d,.d,.n,.k1,.d,.n,.d,.n] [pb 0 103 (yz s ((qN s (lv+1) b q).2.2.1) ((qN s (lv+1) b q).1) ((qN s (lv+1) b q).2.2.1) ((yv s (lv+1) b q).2)),pb 2 50 [(iv 4),(iv 1),sn,(iv 0),(iv 0),se,(.osl 100 0 (l.length+1))],pb 100 50 (zP (l++[(yv s (lv+1) b q).1]))] (oi (lv+1) (by omega) (zY [0] 84 (QY (ih (by omega) (by omega) b q (by omega) (by omega)) h22) (oc (YD _:((zP l)).length=l.length*7) (oc (by omega:(l.length+1)*96≤140737488355328∧l.length+1≤9223372036854775807) (oc (Qj l _:(zP l)++[(iv (iK ((yv s (lv+1) b q).1))),(iv (iS ((yv s (lv+1) b q).1))),(.ssl (wA (iP ((yv s (lv+1) b q).1))) 0 ((iP ((yv s (lv+1) b q).1)).length)),(iv ((iB ((yv s (lv+1) b q).1)).1)),(iv ((iB ((yv s (lv+1) b q).1)).2)),(sv (st (iL ((yv s (lv+1) b q).1)))),(.ssl (zP (iC ((yv s (lv+1) b q).1))) 0 ((iC ((yv s (lv+1) b q).1)).length))]=(zP (l++[(yv s (lv+1) b q).1]))) oz)))))<|zC qD 1 [.k4,.n,.r] [ps 10 (bv true)] (zY [0] 132 (wF s ((qN s (lv+1) b q).2.2.1) ((yv s (lv+1) b q).2) 93 ((qN s (lv+1) b q).1) h22) oz)<|qZ ?_
    exact qq ⟨((l++[(yv s (lv+1) b q).1]),(qN s (lv+1) b q).2.2.1,(qN s (lv+1) b q).1,(((qN s (lv+1) b q).2.2.1:Nat):Int),(yv s (lv+1) b q).2,true),ki_no hgl hgg2 h22⟩ (Wk.trans (Wk.eq (show _=[ps 0 (.opt 0 0),ps 1 (iv lv),ps 4 (.opt 1 0),ps 5 (.opt 2 0),ps 10 (bv true),pb 0 103 (r5 s ((qN s (lv+1) b q).2.2.1) ((qN s (lv+1) b q).1) (((qN s (lv+1) b q).2.2.1:Nat):Int) ((yv s (lv+1) b q).2)),pb 1 50 [(iv 0),(iv 0),sn,(iv 0),(iv 0),se,sn],pb 2 50 [(iv 4),(iv 1),sn,(iv 0),(iv 0),se,(.osl 100 0 ((l++[(yv s (lv+1) b q).1]).length))],pb 100 50 (zP (l++[(yv s (lv+1) b q).1]))] from by rw [List.length_append];rfl)) (Wk.ren3 _ 1 hc0 [0,1,2,100] [(kb 3,(zP (l++[(yv s (lv+1) b q).1])))] (oc (yA _) (oz)) (by kernel_rfl) rfl rfl (by kernel_rfl) (by kernel_rfl))) (show mK true ((qN s (lv+1) b q).1) ((yv s (lv+1) b q).2)<mK g e kk from YB h20 h21 (fun c=>h22 c.2))
   refine qR (qV h21)<|zI rfl rfl ?_
   obtain ⟨hf0,hGL,hGG⟩:=ki_err hin h21
   refine qj (Wk.eq (show _=[ps 0 (.opt 0 0),ps 1 (iv lv),ps 4 (.opt 1 0),ps 5 (.opt 2 0),ps 108 (bv (decide (e=0))),pb 0 103 (yz s b e b kk),pb 1 50 [(iv 0),(iv 0),sn,(iv 0),(iv 0),se,sn],pb 2 50 [(iv 4),(iv 1),sn,(iv 0),(iv 0),se,(.osl 3 0 l.length)],pb 3 50 (zP l)] from by rw [hf0])) ?_
   refine zC qD 1 [.k1,.d,.k2,.d,.r] [] (zY [0] 52 (YY s b kk 93 e h21) oz)<|qB<|qB<|zC qD 1 [.k3,.n,.r] [ps 160 (bv false)] (zY [0] 68 (wF s b kk 42 e h21) oz)<|qO (b:=false) rfl rfl<|qF<|qB<|qB<|qH qD [.k3,.d,.n,.r] [ps 173 (bv false)]<|qO (b:=false) rfl rfl<|qF<|qB<|qH qD [.d,.k1,.d,.d,.k1,.d,.n,.d,.r] [pb 1 50 [(iv 4),(iv 1),sn,(iv 0),(iv 0),se,(.osl 3 0 l.length)]] ?_
   have hgr:yE s lv (qA s a) (k-1)=(e,[],b,0):=by rw [jN,jX,if_pos h19,vG,hGL]
   have hgG:gG s lv (qA s a) (k-1)=(l,kk):=by rw [gG_eq,jX,if_pos h19,vG,hGG]
   rw [show (qN s lv a k)=(e,zQ,b,0) from by rw [zT,if_neg hk0,if_neg h3,if_neg h6,if_neg h9,if_pos h19,hgr,if_neg h21],show (yv s lv a k)=(.mk 4 1 [] (0,0) [] l,kk) from by rw [wj,if_neg hk0,if_neg h3,if_neg h6,if_neg h9,if_pos h19,hgr,if_neg h21,hgG],if_neg h21,if_neg h21]
   refine qj (Wk.frz (l':=[ps 4 (.opt 1 0),pb 0 103 (yz s b e b kk),pb 1 50 [(iv 4),(iv 1),sn,(iv 0),(iv 0),se,(.ssl (zP l) 0 l.length)],(kb 3,none)]) 3 (T:=50) (cs:=(zP l)) (by kernel_rfl) (yA _) (by kernel_rfl)) ?_
   exact qk hc0 [4] [0,1] (hbk:=by exact oc rfl (oz))
  refine zD qD (gn 2 2++[(4,.yes false)]) [ps 0 (.opt 0 0),ps 1 (iv lv),ps 4 (.opt 1 0),ps 5 (.opt 2 0),ps 108 (bv false),pb 0 103 (r5 s b e f kk),pb 1 50 [(iv 0),(iv 0),sn,(iv 0),(iv 0),se,sn],pb 2 50 [(iv 4),(iv 1),sn,(iv 0),(iv 0),se,(.osl 3 0 l.length)],pb 3 50 (zP l)] (oc (Bool.eq_false_iff.2 h20:g=false) (oc (Bool.eq_false_iff.2 h20:g=false) (oc (Bool.eq_false_iff.2 h20:g=false) oz)))<|qO (b:=false) rfl rfl<|zI rfl rfl ?_
  obtain ⟨he0,hf0,q,hkq,hb,hgb,hcm,hGL⟩:=ki_done hin h20
  have hltb:=zM hcm
  refine qj (Wk.eq (show _=[ps 0 (.opt 0 0),ps 1 (iv lv),ps 4 (.opt 1 0),ps 5 (.opt 2 0),ps 108 (bv false),pb 0 103 (vN s b 0 0 q),pb 1 50 [(iv 0),(iv 0),sn,(iv 0),(iv 0),se,sn],pb 2 50 [(iv 4),(iv 1),sn,(iv 0),(iv 0),se,(.osl 3 0 l.length)],pb 3 50 (zP l)] from by rw [he0,hf0,hkq])) ?_
  have h24:(qP s b 93)=true:=hcm
  refine zC qD 1 [.k1,.d,.k2,.d,.d,.n,.r] [pb 0 103 (vN s (qA s b+1) 0 0 q)] (zY [0] 52 (ZL s b (q:Int) 93 hs (by omega) h24) oz)<|qB<|qB ?_
  have hin_:qA s b+1≤s.length:=by omega
  have hgi:=zR hin_
  refine zC qD 1 [.k3,.n,.d,.n,.r] [ps 160 (bv (qP s (qA s b+1) 42)),pb 0 103 (vN s (qA s (qA s b+1)) 0 0 q)] (zY [0] 68 (vU s (qA s b+1) (q:Int) 42 hs (by omega)) oz) ?_
  by_cases h25:(qP s (qA s b+1) 42)=true
  ·refine qL (b:=(qP s (qA s b+1) 42)) rfl h25<|qB ?_
   have hlt2:=zM h25
   refine qQ qD [] [.k3,.d,.d,.n,.r] [pb 0 103 [(sv (st s)),(iv (((qA s (qA s b+1):Nat):Int)+1)),(iv 0),(iv 0),(nv q)]] (oi (((qA s (qA s b+1):Nat):Int)+1) (by omega) oz)<|qj (Wk.eq (show _=[ps 0 (.opt 0 0),ps 4 (.opt 1 0),ps 5 (.opt 2 0),pb 0 103 (vN s (qA s (qA s b+1)+1) 0 0 q),pb 1 50 [(iv 0),(iv 0),sn,(iv 0),(iv 0),se,sn],pb 2 50 [(iv 4),(iv 1),sn,(iv 0),(iv 0),se,(.osl 3 0 l.length)],pb 3 50 (zP l)] from by rfl)) ?_
   by_cases h26:(qE s (qA s (qA s b+1)+1)).1=0
   ·refine zC qD 1 [.k3,.d,.n,.k1,.d,.n,.r] [pb 0 103 (vN s ((qE s (qA s (qA s b+1)+1)).2.2) 0 0 q),pb 2 50 [(iv 4),(iv ((qE s (qA s (qA s b+1)+1)).2.1)),sn,(iv 0),(iv 0),se,(.osl 3 0 l.length)]] (zY [0] 148 (jE (wO s (qA s (qA s b+1)+1) (q:Int) hs (by omega)) h26) oz)<|qB<|qB ?_
    have hin2:=(wK (s:=s) (a:=(qA s (qA s b+1)+1)) (by omega)).2
    refine qH qD [.k3,.n,.r] [ps 173 (bv false)]<|qO (b:=false) rfl rfl<|qF<|qB<|qH qD [.d,.k1,.d,.d,.k1,.d,.n,.d,.r] [pb 1 50 [(iv 4),(iv ((qE s (qA s (qA s b+1)+1)).2.1)),sn,(iv 0),(iv 0),se,(.osl 3 0 l.length)]] ?_
    have hgr:yE s lv (qA s a) (k-1)=(0,l,qA s b+1,q):=by rw [jN,jX,if_pos h19,vG,hGL]
    rw [show (qN s lv a k)=(0,(Qw (.mk 4 1 [] (0,0) [] l) (qE s (qA s (qA s b+1)+1)).2.1),(qE s (qA s (qA s b+1)+1)).2.2,q) from by rw [zT,if_neg hk0,if_neg h3,if_neg h6,if_neg h9,if_pos h19,hgr,if_pos rfl,zw,if_pos h25,if_pos h26,vI,if_neg (by show ¬ ((4:Int)=1);decide)],if_pos rfl,if_pos rfl]
    refine qj (Wk.frz (l':=[ps 4 (.opt 1 0),pb 0 103 (vN s ((qE s (qA s (qA s b+1)+1)).2.2) 0 0 q),pb 1 50 [(iv 4),(iv ((qE s (qA s (qA s b+1)+1)).2.1)),sn,(iv 0),(iv 0),se,(.ssl (zP l) 0 l.length)],(kb 3,none)]) 3 (T:=50) (cs:=(zP l)) (by kernel_rfl) (yA _) (by kernel_rfl)) ?_
    exact qk hc0 [4] [0,1] (hbk:=by exact oc rfl (oz))
   refine zC qD 1 [.k3,.d,.n,.k1,.d,.n,.r] [pb 0 103 (jV s ((qE s (qA s (qA s b+1)+1)).2.2) ((qE s (qA s (qA s b+1)+1)).1) ((qE s (qA s (qA s b+1)+1)).2.2) q),pb 2 50 [(iv 4),(iv 0),sn,(iv 0),(iv 0),se,(.osl 3 0 l.length)]] (zY [0] 148 (QY (wO s (qA s (qA s b+1)+1) (q:Int) hs (by omega)) h26) oz)<|qB<|qB<|qH qD [.k3,.n,.r] [ps 173 (bv false)]<|qO (b:=false) rfl rfl<|qF<|qB<|qH qD [.d,.k1,.d,.d,.k1,.d,.n,.d,.r] [pb 1 50 [(iv 4),(iv 0),sn,(iv 0),(iv 0),se,(.osl 3 0 l.length)]] ?_
   have hgr:yE s lv (qA s a) (k-1)=(0,l,qA s b+1,q):=by rw [jN,jX,if_pos h19,vG,hGL]
   rw [show (qN s lv a k)=((qE s (qA s (qA s b+1)+1)).1,zQ,(qE s (qA s (qA s b+1)+1)).2.2,q) from by rw [zT,if_neg hk0,if_neg h3,if_neg h6,if_neg h9,if_pos h19,hgr,if_pos rfl,zw,if_pos h25,if_neg h26],show (yv s lv a k)=(Qw (.mk 4 1 [] (0,0) [] l) 0,(q:Int)) from by rw [wj,if_neg hk0,if_neg h3,if_neg h6,if_neg h9,if_pos h19,hgr,if_pos rfl,jL,if_pos h25,if_neg h26],if_neg h26,if_neg h26]
   refine qj (Wk.frz (l':=[ps 4 (.opt 1 0),pb 0 103 (jV s ((qE s (qA s (qA s b+1)+1)).2.2) ((qE s (qA s (qA s b+1)+1)).1) ((qE s (qA s (qA s b+1)+1)).2.2) q),pb 1 50 [(iv 4),(iv 0),sn,(iv 0),(iv 0),se,(.ssl (zP l) 0 l.length)],(kb 3,none)]) 3 (T:=50) (cs:=(zP l)) (by kernel_rfl) (yA _) (by kernel_rfl)) ?_
   exact qk hc0 [4] [0,1] (hbk:=by exact oc rfl (oz))
  refine qO (b:=(qP s (qA s b+1) 42)) rfl (Bool.eq_false_iff.2 h25)<|qF<|qB<|qB<|qH qD [.k3,.d,.n,.r] [ps 173 (bv false)]<|qO (b:=false) rfl rfl<|qF<|qB<|qH qD [.d,.k1,.d,.d,.k1,.d,.n,.d,.r] [pb 1 50 [(iv 4),(iv 1),sn,(iv 0),(iv 0),se,(.osl 3 0 l.length)]] ?_
  have hgr:yE s lv (qA s a) (k-1)=(0,l,qA s b+1,q):=by rw [jN,jX,if_pos h19,vG,hGL]
  rw [show (qN s lv a k)=(0,(.mk 4 1 [] (0,0) [] l),(qA s (qA s b+1)),q) from by rw [zT,if_neg hk0,if_neg h3,if_neg h6,if_neg h9,if_pos h19,hgr,if_pos rfl,zw,if_neg h25,vI,if_neg (by show ¬ ((4:Int)=1);decide)],if_pos rfl,if_pos rfl]
  refine qj (Wk.frz (l':=[ps 4 (.opt 1 0),pb 0 103 (vN s (qA s (qA s b+1)) 0 0 q),pb 1 50 [(iv 4),(iv 1),sn,(iv 0),(iv 0),se,(.ssl (zP l) 0 l.length)],(kb 3,none)]) 3 (T:=50) (cs:=(zP l)) (by kernel_rfl) (yA _) (by kernel_rfl)) ?_
  exact qk hc0 [4] [0,1] (hbk:=by exact oc rfl (oz))
 refine qO (b:=(qP s a 91)) rfl (Bool.eq_false_iff.2 h19)<|qB<|zC qD 1 [.k1,.d,.k2,.d,.d,.n,.r] [ps 124 (bv (qP s a 60))] (zY [0] 321 (qcg s a ((k-1:Nat):Int) 60 hs (by omega)) oz) ?_
 by_cases h27:(qP s a 60)=true
 ·refine qL (b:=(qP s a 60)) rfl h27<|qB ?_
  have hlt:=zM h27
  refine qQ qD [] [.k3,.d,.d,.n,.r] [pb 0 103 [(sv (st s)),(iv (((qA s a:Nat):Int)+1)),(iv 0),(iv 0),(nv (k-1))]] (oi (((qA s a:Nat):Int)+1) (by omega) oz)<|qj (Wk.eq (show _=[ps 0 (.opt 0 0),ps 4 (.opt 1 0),ps 5 (.opt 169 0),pb 0 103 (vN s (qA s a+1) 0 0 (k-1)),pb 1 50 [(iv 0),(iv 0),sn,(iv 0),(iv 0),se,sn],pb 169 50 [(iv 1),(iv 1),sn,(iv 0),(iv 0),se,sn]] from by rfl)) ?_
  refine qB<|qB<|qH qD [.k3,.n,.r] [ps 11 (bv true)]<|qX<|qj (Wk.nilc (B:=50) (cells:=[(iv 1),(iv 1),sn,(iv 0),(iv 0),se,sn]) 169 2 52 (by kernel_rfl) rfl)<|qj (Wk.less (l':=[ps 0 (.opt 0 0),ps 4 (.opt 1 0),ps 5 (.opt 169 0),ps 11 (bv true),pb 0 103 (vN s (qA s a+1) 0 0 (k-1)),pb 1 50 [(iv 0),(iv 0),sn,(iv 0),(iv 0),se,sn],pb 169 50 [(iv 1),(iv 1),(.osl 401 0 0),(iv 0),(iv 0),se,sn],pb 401 52 []]) 402 (by kernel_rfl) (by kernel_rfl)) ?_
  have hlt1:qA s a+1≤s.length:=hlt
  refine qj (Wk.eq (show _=[ps 0 (.opt 0 0),ps 4 (.opt 1 0),ps 5 (.opt 169 0),ps 11 (bv true),pb 0 103 (vN s (qA s a+1) 0 0 (k-1)),pb 1 50 [(iv 0),(iv 0),sn,(iv 0),(iv 0),se,sn],pb 169 50 [(iv 1),(iv 1),(.osl 401 0 (([]:List Pt).length)),(iv 0),(iv 0),se,sn],pb 401 52 (wA ([]:List Pt))] from by rfl)) ?_
  refine zy (α:={x:List Pt × Nat × Int × Int × Bool // CI s (Yx s 16 [] (qA s a+1)) (chG s 16 [] (qA s a+1)) x.1 x.2.1 x.2.2.1 x.2.2.2.1 x.2.2.2.2}) (fun x=>[ps 0 (.opt 0 0),ps 4 (.opt 1 0),ps 5 (.opt 2 0),ps 11 (bv x.1.2.2.2.2),pb 0 103 (vN s x.1.2.1 x.1.2.2.1 x.1.2.2.2.1 (k-1)),pb 1 50 [(iv 0),(iv 0),sn,(iv 0),(iv 0),se,sn],pb 2 50 [(iv 1),(iv 1),(.osl 3 0 x.1.1.length),(iv 0),(iv 0),se,sn],pb 3 52 (wA x.1.1)]) (fun x=>mC x.1.2.2.2.2 x.1.2.2.1 x.1.1.length) 4 ⟨([],qA s a+1,0,0,true),.inl ⟨rfl,rfl,rfl,hlt1,Nat.zero_le _,rfl,rfl⟩⟩ (Wk.ren3 _ 1 hc0 [0,1,169,401] [(kb 3,(wA ([]:List Pt)))] (oc (wS _) (oz)) (by kernel_rfl) rfl rfl (by kernel_rfl) (by kernel_rfl)) ?_
  rintro ⟨⟨us,b,e,f,g⟩,hin⟩
  dsimp only at hin
  refine qB<|qB ?_
  by_cases h28:g=true
  ·refine zD qD [(2,.gd true .no),(3,.gd true (.call [0] [(.opt 0 0)] [some (103,(vN s b e f (k-1)))] (bv (decide (e=0))) [some (103,(vN s b e f (k-1)))])),(4,.yes true)] [ps 0 (.opt 0 0),ps 4 (.opt 1 0),ps 5 (.opt 2 0),ps 136 (bv (decide (e=0))),pb 0 103 (vN s b e f (k-1)),pb 1 50 [(iv 0),(iv 0),sn,(iv 0),(iv 0),se,sn],pb 2 50 [(iv 1),(iv 1),(.osl 3 0 us.length),(iv 0),(iv 0),se,sn],pb 3 52 (wA us)] (on 2 (h28:g=true) (zY [0] 28 (qbb s b e f ((k-1:Nat):Int)) (oc (h28:g=true) oz))) ?_
   by_cases h29:e=0
   ·refine qS (qT h29)<|qF<|qX<|qB<|qB ?_
    obtain ⟨hf0,hb,hu16,hcc,hcg⟩:=ci_go hin h28 h29
    refine qj (Wk.eq (show _=[ps 0 (.opt 0 0),ps 4 (.opt 1 0),ps 5 (.opt 2 0),ps 136 (bv (decide (e=0))),pb 0 103 (vN s b 0 0 (k-1)),pb 1 50 [(iv 0),(iv 0),sn,(iv 0),(iv 0),se,sn],pb 2 50 [(iv 1),(iv 1),(.osl 3 0 us.length),(iv 0),(iv 0),se,sn],pb 3 52 (wA us)] from by rw [h29,hf0])) ?_
    refine qH qD [.k3,.d,.n,.r] [ps 140 (bv (decide (((us.length:Nat):Int)=16)))] ?_
    by_cases h30:(us.length:Int)=16
    ·refine qS (qT h30)<|zC qD 1 [.k3,.d,.d,.n,.r] [pb 0 103 (jV s b 5 b (k-1))] (zY [0] 84 (yy s b ((k-1:Nat):Int) 5) oz)<|qB<|wC qD [(3,.call [0] [(.opt 0 0)] [some (103,(jV s b 5 b (k-1)))] (.agg [(iv ((qW (qK s b)).1.1)),(iv ((qW (qK s b)).1.2.1)),(iv ((qW (qK s b)).1.2.2))]) [some (103,(jV s b 5 b (k-1))),none]),(5,.app none (some (wA (us++[((qW (qK s b)).1.1,(qW (qK s b)).1.2.1,(qW (qK s b)).1.2.2)]))))] (VB [(0,0),(0,1),(0,0),(2,1),(2,2),(0,5),(0,6),(0,7)]) [([286],[10]),([288],[5,286]),([290],[0]),([292,1,233],[1,290]),([294,249],[292]),([296,7,265],[7,249,288,294]),([298],[10]),([5],[5,296,298])] [.k5,.d,.n,.d,.n] [pb 2 50 [(iv 1),(iv 1),(.osl 132 0 (us.length+1)),(iv 0),(iv 0),se,sn],pb 132 52 (wA (us++[((qW (qK s b)).1.1,(qW (qK s b)).1.2.1,(qW (qK s b)).1.2.2)]))] (zY [0] 116 (qpit_pcE s b ((k-1:Nat):Int) hs (by omega) 5 (by decide)) (oc (qdj _:((wA us)).length=us.length*3) (oc (by omega:(us.length+1)*24≤140737488355328∧us.length+1≤9223372036854775807) (oc ((qbq ptC us [((qW (qK s b)).1.1,(qW (qK s b)).1.2.1,(qW (qK s b)).1.2.2)]).symm:(wA us)++[(iv ((qW (qK s b)).1.1)),(iv ((qW (qK s b)).1.2.1)),(iv ((qW (qK s b)).1.2.2))]=(wA (us++[((qW (qK s b)).1.1,(qW (qK s b)).1.2.1,(qW (qK s b)).1.2.2)]))) oz))))<|zC qD 1 [.k3,.n,.r] [ps 11 (bv true)] (zY [0] 164 (wF s b ((k-1:Nat):Int) 62 5 (by decide)) oz)<|qZ ?_
     exact qq ⟨((us++[(qW (qK s b)).1]),b,(5:Int),(b:Int),true),ci_much (by omega) hcc hcg⟩ (Wk.trans (Wk.eq (show _=[ps 0 (.opt 0 0),ps 4 (.opt 1 0),ps 5 (.opt 2 0),ps 11 (bv true),pb 0 103 (vN s b (5:Int) (b:Int) (k-1)),pb 1 50 [(iv 0),(iv 0),sn,(iv 0),(iv 0),se,sn],pb 2 50 [(iv 1),(iv 1),(.osl 132 0 ((us++[(qW (qK s b)).1]).length)),(iv 0),(iv 0),se,sn],pb 132 52 (wA (us++[(qW (qK s b)).1]))] from by rw [List.length_append];rfl)) (Wk.ren3 _ 1 hc0 [0,1,2,132] [(kb 3,(wA (us++[(qW (qK s b)).1])))] (oc (wS _) (oz)) (by kernel_rfl) rfl rfl (by kernel_rfl) (by kernel_rfl))) (show mC true (5:Int) (us++[(qW (qK s b)).1]).length<mC g e us.length from qhv h28 h29 hu16 (fun c=>by cases c.2))
    refine qR (qV h30)<|qF<|qB ?_
    by_cases h31:(qJ s b).1=0
    ·refine wC qD [(3,.call [0] [(.opt 0 0)] [some (103,(vN s b 0 0 (k-1)))] (.agg [(iv ((qJ s b).2.1.1)),(iv ((qJ s b).2.1.2.1)),(iv ((qJ s b).2.1.2.2))]) [some (103,(vN s ((qJ s b).2.2) 0 0 (k-1))),none]),(5,.app none (some (wA (us++[((qJ s b).2.1.1,(qJ s b).2.1.2.1,(qJ s b).2.1.2.2)]))))] (VB [(0,0),(0,1),(0,0),(2,1),(2,2),(0,5),(0,6),(0,7)]) [([286],[10]),([288],[5,286]),([290],[0]),([292,1,201],[1,290]),([294,217],[292]),([296,7,233],[7,217,288,294]),([298],[10]),([5],[5,296,298])] [.k3,.d,.d,.n,.k1,.d,.n,.d,.n] [pb 0 103 (vN s ((qJ s b).2.2) 0 0 (k-1)),pb 2 50 [(iv 1),(iv 1),(.osl 116 0 (us.length+1)),(iv 0),(iv 0),se,sn],pb 116 52 (wA (us++[((qJ s b).2.1.1,(qJ s b).2.1.2.1,(qJ s b).2.1.2.2)]))] (zY [0] 100 (jE (qdi s b ((k-1:Nat):Int) hs (by omega)) h31) (oc (qdj _:((wA us)).length=us.length*3) (oc (by omega:(us.length+1)*24≤140737488355328∧us.length+1≤9223372036854775807) (oc ((qbq ptC us [((qJ s b).2.1.1,(qJ s b).2.1.2.1,(qJ s b).2.1.2.2)]).symm:(wA us)++[(iv ((qJ s b).2.1.1)),(iv ((qJ s b).2.1.2.1)),(iv ((qJ s b).2.1.2.2))]=(wA (us++[((qJ s b).2.1.1,(qJ s b).2.1.2.1,(qJ s b).2.1.2.2)]))) oz)))) ?_
     have hpe:=VE hb h31
     by_cases h32:(qP s ((qJ s b).2.2) 62)=true
     ·refine zC qD 1 [.k3,.n,.d,.n,.r] [ps 11 (bv false),pb 0 103 (vN s (qA s ((qJ s b).2.2)) 0 0 (k-1))] (zY [0] 148 (qci (vU s ((qJ s b).2.2) ((k-1:Nat):Int) 62 hs (by omega)) (h32)) oz)<|qZ ?_
      exact qq ⟨((us++[(qJ s b).2.1]),(qA s (qJ s b).2.2),(0:Int),(0:Int),false),ci_stop hb (by omega) hcc h31 h32⟩ (Wk.trans (Wk.eq (show _=[ps 0 (.opt 0 0),ps 4 (.opt 1 0),ps 5 (.opt 2 0),ps 11 (bv false),pb 0 103 (vN s (qA s (qJ s b).2.2) (0:Int) (0:Int) (k-1)),pb 1 50 [(iv 0),(iv 0),sn,(iv 0),(iv 0),se,sn],pb 2 50 [(iv 1),(iv 1),(.osl 116 0 ((us++[(qJ s b).2.1]).length)),(iv 0),(iv 0),se,sn],pb 116 52 (wA (us++[(qJ s b).2.1]))] from by rw [List.length_append];rfl)) (Wk.ren3 _ 1 hc0 [0,1,2,116] [(kb 3,(wA (us++[(qJ s b).2.1])))] (oc (wS _) (oz)) (by kernel_rfl) rfl rfl (by kernel_rfl) (by kernel_rfl))) (show mC false (0:Int) (us++[(qJ s b).2.1]).length<mC g e us.length from qhv h28 h29 hu16 (fun c=>by cases c.1))
     refine zC qD 1 [.k3,.n,.d,.n,.r] [ps 11 (bv true),pb 0 103 (vN s (qA s ((qJ s b).2.2)) 0 0 (k-1))] (zY [0] 148 (qci (vU s ((qJ s b).2.2) ((k-1:Nat):Int) 62 hs (by omega)) (eq_false_of_ne_true h32)) oz)<|qZ ?_
     exact qq ⟨((us++[(qJ s b).2.1]),(qA s (qJ s b).2.2),(0:Int),(0:Int),true),ci_next hb (by omega) hcc hcg h31 h32⟩ (Wk.trans (Wk.eq (show _=[ps 0 (.opt 0 0),ps 4 (.opt 1 0),ps 5 (.opt 2 0),ps 11 (bv true),pb 0 103 (vN s (qA s (qJ s b).2.2) (0:Int) (0:Int) (k-1)),pb 1 50 [(iv 0),(iv 0),sn,(iv 0),(iv 0),se,sn],pb 2 50 [(iv 1),(iv 1),(.osl 116 0 ((us++[(qJ s b).2.1]).length)),(iv 0),(iv 0),se,sn],pb 116 52 (wA (us++[(qJ s b).2.1]))] from by rw [List.length_append];rfl)) (Wk.ren3 _ 1 hc0 [0,1,2,116] [(kb 3,(wA (us++[(qJ s b).2.1])))] (oc (wS _) (oz)) (by kernel_rfl) rfl rfl (by kernel_rfl) (by kernel_rfl))) (show mC true (0:Int) (us++[(qJ s b).2.1]).length<mC g e us.length from mC_next h28 h29 hu16 (by rw [List.length_append,List.length_singleton];omega))
    refine wC qD [(3,.call [0] [(.opt 0 0)] [some (103,(vN s b 0 0 (k-1)))] (.agg [(iv ((qW (qC s b)).1.1)),(iv ((qW (qC s b)).1.2.1)),(iv ((qW (qC s b)).1.2.2))]) [some (103,(jV s ((qJ s b).2.2) ((qJ s b).1) ((qJ s b).2.2) (k-1))),none]),(5,.app none (some (wA (us++[((qW (qC s b)).1.1,(qW (qC s b)).1.2.1,(qW (qC s b)).1.2.2)]))))] (VB [(0,0),(0,1),(0,0),(2,1),(2,2),(0,5),(0,6),(0,7)]) [([286],[10]),([288],[5,286]),([290],[0]),([292,1,201],[1,290]),([294,217],[292]),([296,7,233],[7,217,288,294]),([298],[10]),([5],[5,296,298])] [.k3,.d,.d,.n,.k1,.d,.n,.d,.n] [pb 0 103 (jV s ((qJ s b).2.2) ((qJ s b).1) ((qJ s b).2.2) (k-1)),pb 2 50 [(iv 1),(iv 1),(.osl 116 0 (us.length+1)),(iv 0),(iv 0),se,sn],pb 116 52 (wA (us++[((qW (qC s b)).1.1,(qW (qC s b)).1.2.1,(qW (qC s b)).1.2.2)]))] (zY [0] 100 (QY (qdi s b ((k-1:Nat):Int) hs (by omega)) h31) (oc (qdj _:((wA us)).length=us.length*3) (oc (by omega:(us.length+1)*24≤140737488355328∧us.length+1≤9223372036854775807) (oc ((qbq ptC us [((qW (qC s b)).1.1,(qW (qC s b)).1.2.1,(qW (qC s b)).1.2.2)]).symm:(wA us)++[(iv ((qW (qC s b)).1.1)),(iv ((qW (qC s b)).1.2.1)),(iv ((qW (qC s b)).1.2.2))]=(wA (us++[((qW (qC s b)).1.1,(qW (qC s b)).1.2.1,(qW (qC s b)).1.2.2)]))) oz))))<|zC qD 1 [.k3,.n,.r] [ps 11 (bv true)] (zY [0] 148 (wF s ((qJ s b).2.2) ((k-1:Nat):Int) 62 ((qJ s b).1) h31) oz)<|qZ ?_
    exact qq ⟨((us++[(qW (qC s b)).1]),(qJ s b).2.2,(qJ s b).1,(((qJ s b).2.2:Nat):Int),true),ci_no (by omega) hcc hcg h31⟩ (Wk.trans (Wk.eq (show _=[ps 0 (.opt 0 0),ps 4 (.opt 1 0),ps 5 (.opt 2 0),ps 11 (bv true),pb 0 103 (vN s ((qJ s b).2.2) ((qJ s b).1) (((qJ s b).2.2:Nat):Int) (k-1)),pb 1 50 [(iv 0),(iv 0),sn,(iv 0),(iv 0),se,sn],pb 2 50 [(iv 1),(iv 1),(.osl 116 0 ((us++[(qW (qC s b)).1]).length)),(iv 0),(iv 0),se,sn],pb 116 52 (wA (us++[(qW (qC s b)).1]))] from by rw [List.length_append];rfl)) (Wk.ren3 _ 1 hc0 [0,1,2,116] [(kb 3,(wA (us++[(qW (qC s b)).1])))] (oc (wS _) (oz)) (by kernel_rfl) rfl rfl (by kernel_rfl) (by kernel_rfl))) (show mC true ((qJ s b).1) (us++[(qW (qC s b)).1]).length<mC g e us.length from qhv h28 h29 hu16 (fun c=>h31 c.2))
   refine qR (qV h29)<|zI rfl rfl ?_
   obtain ⟨hf0,hCC,hCG⟩:=ci_err hin h29
   refine qj (Wk.eq (show _=[ps 0 (.opt 0 0),ps 4 (.opt 1 0),ps 5 (.opt 2 0),ps 136 (bv (decide (e=0))),pb 0 103 (yz s b e b ((k-1:Nat):Int)),pb 1 50 [(iv 0),(iv 0),sn,(iv 0),(iv 0),se,sn],pb 2 50 [(iv 1),(iv 1),(.osl 3 0 us.length),(iv 0),(iv 0),se,sn],pb 3 52 (wA us)] from by rw [hf0])) ?_
   refine zC qD 1 [.k3,.d,.d,.n,.r] [pb 0 103 (jV s b e b (k-1))] (zY [0] 52 (YY s b ((k-1:Nat):Int) 62 e h29) oz)<|qB<|qB<|zC qD 1 [.k3,.n,.r] [ps 160 (bv false)] (zY [0] 68 (wF s b ((k-1:Nat):Int) 42 e h29) oz)<|qO (b:=false) rfl rfl<|qF<|qB<|qB<|qH qD [.k3,.d,.n,.r] [ps 173 (bv true)]<|qL (b:=true) rfl rfl<|zC qD 1 [.d,.k2,.d,.r] [] (zY [0] 108 (qbc s b ((k-1:Nat):Int) e h29) oz)<|qB<|qH qD [.k1,.d,.k1,.d,.n,.d,.r] [pb 1 50 [(iv 1),(iv 1),(.osl 3 0 us.length),(iv 0),(iv 0),se,sn]] ?_
   rw [show (qN s lv a k)=(e,zQ,b,0) from by rw [zT,if_neg hk0,if_neg h3,if_neg h6,if_neg h9,if_neg h19,if_pos h27,hCC,if_neg h29],show (yv s lv a k)=(.mk 1 1 us (0,0) [] [],((k-1:Nat):Int)) from by rw [wj,if_neg hk0,if_neg h3,if_neg h6,if_neg h9,if_neg h19,if_pos h27,hCC,if_neg h29,hCG],if_neg h29,if_neg h29]
   refine qj (Wk.frz (l':=[ps 4 (.opt 1 0),pb 0 103 (jV s b e b (k-1)),pb 1 50 [(iv 1),(iv 1),(.ssl (wA us) 0 us.length),(iv 0),(iv 0),se,sn],(kb 3,none)]) 3 (T:=52) (cs:=(wA us)) (by kernel_rfl) (wS _) (by kernel_rfl)) ?_
   exact qk hc0 [4] [0,1] (hbk:=by exact oc rfl (oz))
  refine zD qD (gn 2 2++[(4,.yes false)]) [ps 0 (.opt 0 0),ps 4 (.opt 1 0),ps 5 (.opt 2 0),ps 136 (bv false),pb 0 103 (vN s b e f (k-1)),pb 1 50 [(iv 0),(iv 0),sn,(iv 0),(iv 0),se,sn],pb 2 50 [(iv 1),(iv 1),(.osl 3 0 us.length),(iv 0),(iv 0),se,sn],pb 3 52 (wA us)] (oc (Bool.eq_false_iff.2 h28:g=false) (oc (Bool.eq_false_iff.2 h28:g=false) (oc (Bool.eq_false_iff.2 h28:g=false) oz)))<|qO (b:=false) rfl rfl<|zI rfl rfl ?_
  obtain ⟨he0,hf0,hb,hcm,hCC⟩:=ci_done hin h28
  have hltb:=zM hcm
  refine qj (Wk.eq (show _=[ps 0 (.opt 0 0),ps 4 (.opt 1 0),ps 5 (.opt 2 0),ps 136 (bv false),pb 0 103 (vN s b 0 0 (k-1)),pb 1 50 [(iv 0),(iv 0),sn,(iv 0),(iv 0),se,sn],pb 2 50 [(iv 1),(iv 1),(.osl 3 0 us.length),(iv 0),(iv 0),se,sn],pb 3 52 (wA us)] from by rw [he0,hf0])) ?_
  have h33:(qP s b 62)=true:=hcm
  refine zC qD 1 [.k3,.d,.d,.n,.r] [pb 0 103 (vN s (qA s b+1) 0 0 (k-1))] (zY [0] 52 (ZL s b ((k-1:Nat):Int) 62 hs (by omega) h33) oz)<|qB<|qB ?_
  have hin_:qA s b+1≤s.length:=by omega
  have hgi:=zR hin_
  refine zC qD 1 [.k3,.n,.d,.n,.r] [ps 160 (bv (qP s (qA s b+1) 42)),pb 0 103 (vN s (qA s (qA s b+1)) 0 0 (k-1))] (zY [0] 68 (vU s (qA s b+1) ((k-1:Nat):Int) 42 hs (by omega)) oz) ?_
  by_cases h34:(qP s (qA s b+1) 42)=true
  ·refine qL (b:=(qP s (qA s b+1) 42)) rfl h34<|qB ?_
   have hlt2:=zM h34
   refine qQ qD [] [.k3,.d,.d,.n,.r] [pb 0 103 [(sv (st s)),(iv (((qA s (qA s b+1):Nat):Int)+1)),(iv 0),(iv 0),(nv (k-1))]] (oi (((qA s (qA s b+1):Nat):Int)+1) (by omega) oz)<|qj (Wk.eq (show _=[ps 0 (.opt 0 0),ps 4 (.opt 1 0),ps 5 (.opt 2 0),pb 0 103 (vN s (qA s (qA s b+1)+1) 0 0 (k-1)),pb 1 50 [(iv 0),(iv 0),sn,(iv 0),(iv 0),se,sn],pb 2 50 [(iv 1),(iv 1),(.osl 3 0 us.length),(iv 0),(iv 0),se,sn],pb 3 52 (wA us)] from by rfl)) ?_
   by_cases h35:(qE s (qA s (qA s b+1)+1)).1=0
   ·refine zC qD 1 [.k3,.d,.n,.k1,.d,.n,.r] [pb 0 103 (vN s ((qE s (qA s (qA s b+1)+1)).2.2) 0 0 (k-1)),pb 2 50 [(iv 1),(iv ((qE s (qA s (qA s b+1)+1)).2.1)),(.osl 3 0 us.length),(iv 0),(iv 0),se,sn]] (zY [0] 148 (jE (wO s (qA s (qA s b+1)+1) ((k-1:Nat):Int) hs (by omega)) h35) oz)<|qB<|qB ?_
    have hin2:=(wK (s:=s) (a:=(qA s (qA s b+1)+1)) (by omega)).2
    refine qH qD [.k3,.n,.r] [ps 173 (bv true)]<|qL (b:=true) rfl rfl ?_
    by_cases h36:(zA s ((qE s (qA s (qA s b+1)+1)).2.2)).1=0
    ·refine zC qD 1 [.d,.k2,.d,.d,.n,.k1,.d,.n,.r] [pb 0 103 (vN s ((zA s ((qE s (qA s (qA s b+1)+1)).2.2)).2.2) 0 0 (k-1)),pb 2 50 [(iv 1),(iv ((qE s (qA s (qA s b+1)+1)).2.1)),(.osl 3 0 us.length),(iv 0),(iv 0),(sv (st ((zA s ((qE s (qA s (qA s b+1)+1)).2.2)).2.1))),sn]] (zY [0] 204 (jE (Zw s ((qE s (qA s (qA s b+1)+1)).2.2) ((k-1:Nat):Int) hs (by omega)) h36) oz)<|qB<|qH qD [.k1,.d,.k1,.d,.n,.d,.r] [pb 1 50 [(iv 1),(iv ((qE s (qA s (qA s b+1)+1)).2.1)),(.osl 3 0 us.length),(iv 0),(iv 0),(sv (st ((zA s ((qE s (qA s (qA s b+1)+1)).2.2)).2.1))),sn]] ?_
     rw [show (qN s lv a k)=(0,(setL (Qw (.mk 1 1 us (0,0) [] []) (qE s (qA s (qA s b+1)+1)).2.1) (zA s ((qE s (qA s (qA s b+1)+1)).2.2)).2.1),(zA s ((qE s (qA s (qA s b+1)+1)).2.2)).2.2,(k-1)) from by rw [zT,if_neg hk0,if_neg h3,if_neg h6,if_neg h9,if_neg h19,if_pos h27,hCC,if_pos rfl,zw,if_pos h34,if_pos h35,vI,if_pos (by rfl),if_pos h36],if_pos rfl,if_pos rfl]
     refine qj (Wk.frz (l':=[ps 4 (.opt 1 0),pb 0 103 (vN s ((zA s ((qE s (qA s (qA s b+1)+1)).2.2)).2.2) 0 0 (k-1)),pb 1 50 [(iv 1),(iv ((qE s (qA s (qA s b+1)+1)).2.1)),(.ssl (wA us) 0 us.length),(iv 0),(iv 0),(sv (st ((zA s ((qE s (qA s (qA s b+1)+1)).2.2)).2.1))),sn],(kb 3,none)]) 3 (T:=52) (cs:=(wA us)) (by kernel_rfl) (wS _) (by kernel_rfl)) ?_
     exact qk hc0 [4] [0,1] (hbk:=by exact oc rfl (oz))
    refine zC qD 1 [.d,.k2,.d,.d,.n,.r] [pb 0 103 (jV s ((zA s ((qE s (qA s (qA s b+1)+1)).2.2)).2.2) ((zA s ((qE s (qA s (qA s b+1)+1)).2.2)).1) ((zA s ((qE s (qA s (qA s b+1)+1)).2.2)).2.2) (k-1))] (zY [0] 204 (QY (Zw s ((qE s (qA s (qA s b+1)+1)).2.2) ((k-1:Nat):Int) hs (by omega)) h36) oz)<|qB<|qH qD [.k1,.d,.k1,.d,.n,.d,.r] [pb 1 50 [(iv 1),(iv ((qE s (qA s (qA s b+1)+1)).2.1)),(.osl 3 0 us.length),(iv 0),(iv 0),se,sn]] ?_
    rw [show (qN s lv a k)=((zA s ((qE s (qA s (qA s b+1)+1)).2.2)).1,zQ,(zA s ((qE s (qA s (qA s b+1)+1)).2.2)).2.2,(k-1)) from by rw [zT,if_neg hk0,if_neg h3,if_neg h6,if_neg h9,if_neg h19,if_pos h27,hCC,if_pos rfl,zw,if_pos h34,if_pos h35,vI,if_pos (by rfl),if_neg h36],show (yv s lv a k)=((Qw (.mk 1 1 us (0,0) [] []) (qE s (qA s (qA s b+1)+1)).2.1),((k-1:Nat):Int)) from by rw [wj,if_neg hk0,if_neg h3,if_neg h6,if_neg h9,if_neg h19,if_pos h27,hCC,if_pos rfl,jL,if_pos h34,if_pos h35],if_neg h36,if_neg h36]
    refine qj (Wk.frz (l':=[ps 4 (.opt 1 0),pb 0 103 (jV s ((zA s ((qE s (qA s (qA s b+1)+1)).2.2)).2.2) ((zA s ((qE s (qA s (qA s b+1)+1)).2.2)).1) ((zA s ((qE s (qA s (qA s b+1)+1)).2.2)).2.2) (k-1)),pb 1 50 [(iv 1),(iv ((qE s (qA s (qA s b+1)+1)).2.1)),(.ssl (wA us) 0 us.length),(iv 0),(iv 0),se,sn],(kb 3,none)]) 3 (T:=52) (cs:=(wA us)) (by kernel_rfl) (wS _) (by kernel_rfl)) ?_
    exact qk hc0 [4] [0,1] (hbk:=by exact oc rfl (oz))
   refine zC qD 1 [.k3,.d,.n,.k1,.d,.n,.r] [pb 0 103 (jV s ((qE s (qA s (qA s b+1)+1)).2.2) ((qE s (qA s (qA s b+1)+1)).1) ((qE s (qA s (qA s b+1)+1)).2.2) (k-1)),pb 2 50 [(iv 1),(iv 0),(.osl 3 0 us.length),(iv 0),(iv 0),se,sn]] (zY [0] 148 (QY (wO s (qA s (qA s b+1)+1) ((k-1:Nat):Int) hs (by omega)) h35) oz)<|qB<|qB<|qH qD [.k3,.n,.r] [ps 173 (bv true)]<|qL (b:=true) rfl rfl<|zC qD 1 [.d,.k2,.d,.r] [] (zY [0] 204 (qbc s ((qE s (qA s (qA s b+1)+1)).2.2) ((k-1:Nat):Int) ((qE s (qA s (qA s b+1)+1)).1) h35) oz)<|qB<|qH qD [.k1,.d,.k1,.d,.n,.d,.r] [pb 1 50 [(iv 1),(iv 0),(.osl 3 0 us.length),(iv 0),(iv 0),se,sn]] ?_
   rw [show (qN s lv a k)=((qE s (qA s (qA s b+1)+1)).1,zQ,(qE s (qA s (qA s b+1)+1)).2.2,(k-1)) from by rw [zT,if_neg hk0,if_neg h3,if_neg h6,if_neg h9,if_neg h19,if_pos h27,hCC,if_pos rfl,zw,if_pos h34,if_neg h35],show (yv s lv a k)=(Qw (.mk 1 1 us (0,0) [] []) 0,((k-1:Nat):Int)) from by rw [wj,if_neg hk0,if_neg h3,if_neg h6,if_neg h9,if_neg h19,if_pos h27,hCC,if_pos rfl,jL,if_pos h34,if_neg h35],if_neg h35,if_neg h35]
   refine qj (Wk.frz (l':=[ps 4 (.opt 1 0),pb 0 103 (jV s ((qE s (qA s (qA s b+1)+1)).2.2) ((qE s (qA s (qA s b+1)+1)).1) ((qE s (qA s (qA s b+1)+1)).2.2) (k-1)),pb 1 50 [(iv 1),(iv 0),(.ssl (wA us) 0 us.length),(iv 0),(iv 0),se,sn],(kb 3,none)]) 3 (T:=52) (cs:=(wA us)) (by kernel_rfl) (wS _) (by kernel_rfl)) ?_
   exact qk hc0 [4] [0,1] (hbk:=by exact oc rfl (oz))
  refine qO (b:=(qP s (qA s b+1) 42)) rfl (Bool.eq_false_iff.2 h34)<|qF<|qB<|qB<|qH qD [.k3,.d,.n,.r] [ps 173 (bv true)]<|qL (b:=true) rfl rfl ?_
  by_cases h37:(zA s (qA s (qA s b+1))).1=0
  ·refine zC qD 1 [.d,.k2,.d,.d,.n,.k1,.d,.n,.r] [pb 0 103 (vN s ((zA s (qA s (qA s b+1))).2.2) 0 0 (k-1)),pb 2 50 [(iv 1),(iv 1),(.osl 3 0 us.length),(iv 0),(iv 0),(sv (st ((zA s (qA s (qA s b+1))).2.1))),sn]] (zY [0] 108 (jE (Zw s (qA s (qA s b+1)) ((k-1:Nat):Int) hs (by omega)) h37) oz)<|qB<|qH qD [.k1,.d,.k1,.d,.n,.d,.r] [pb 1 50 [(iv 1),(iv 1),(.osl 3 0 us.length),(iv 0),(iv 0),(sv (st ((zA s (qA s (qA s b+1))).2.1))),sn]] ?_
   rw [show (qN s lv a k)=(0,(setL (.mk 1 1 us (0,0) [] []) (zA s (qA s (qA s b+1))).2.1),(zA s (qA s (qA s b+1))).2.2,(k-1)) from by rw [zT,if_neg hk0,if_neg h3,if_neg h6,if_neg h9,if_neg h19,if_pos h27,hCC,if_pos rfl,zw,if_neg h34,vI,if_pos (by rfl),if_pos h37],if_pos rfl,if_pos rfl]
   refine qj (Wk.frz (l':=[ps 4 (.opt 1 0),pb 0 103 (vN s ((zA s (qA s (qA s b+1))).2.2) 0 0 (k-1)),pb 1 50 [(iv 1),(iv 1),(.ssl (wA us) 0 us.length),(iv 0),(iv 0),(sv (st ((zA s (qA s (qA s b+1))).2.1))),sn],(kb 3,none)]) 3 (T:=52) (cs:=(wA us)) (by kernel_rfl) (wS _) (by kernel_rfl)) ?_
   exact qk hc0 [4] [0,1] (hbk:=by exact oc rfl (oz))
  refine zC qD 1 [.d,.k2,.d,.d,.n,.r] [pb 0 103 (jV s ((zA s (qA s (qA s b+1))).2.2) ((zA s (qA s (qA s b+1))).1) ((zA s (qA s (qA s b+1))).2.2) (k-1))] (zY [0] 108 (QY (Zw s (qA s (qA s b+1)) ((k-1:Nat):Int) hs (by omega)) h37) oz)<|qB<|qH qD [.k1,.d,.k1,.d,.n,.d,.r] [pb 1 50 [(iv 1),(iv 1),(.osl 3 0 us.length),(iv 0),(iv 0),se,sn]] ?_
  rw [show (qN s lv a k)=((zA s (qA s (qA s b+1))).1,zQ,(zA s (qA s (qA s b+1))).2.2,(k-1)) from by rw [zT,if_neg hk0,if_neg h3,if_neg h6,if_neg h9,if_neg h19,if_pos h27,hCC,if_pos rfl,zw,if_neg h34,vI,if_pos (by rfl),if_neg h37],show (yv s lv a k)=((.mk 1 1 us (0,0) [] []),((k-1:Nat):Int)) from by rw [wj,if_neg hk0,if_neg h3,if_neg h6,if_neg h9,if_neg h19,if_pos h27,hCC,if_pos rfl,jL,if_neg h34],if_neg h37,if_neg h37]
  refine qj (Wk.frz (l':=[ps 4 (.opt 1 0),pb 0 103 (jV s ((zA s (qA s (qA s b+1))).2.2) ((zA s (qA s (qA s b+1))).1) ((zA s (qA s (qA s b+1))).2.2) (k-1)),pb 1 50 [(iv 1),(iv 1),(.ssl (wA us) 0 us.length),(iv 0),(iv 0),se,sn],(kb 3,none)]) 3 (T:=52) (cs:=(wA us)) (by kernel_rfl) (wS _) (by kernel_rfl)) ?_
  exact qk hc0 [4] [0,1] (hbk:=by exact oc rfl (oz))
 refine qO (b:=(qP s a 60)) rfl (Bool.eq_false_iff.2 h27) ?_
 by_cases h38:(qJ s (qA s a)).1=0
 ·refine zC qD 1 [.k3,.d,.d,.n,.k1,.d,.n,.n] [pb 0 103 (vN s ((qJ s (qA s a)).2.2) 0 0 (k-1)),pb 169 50 [(iv 1),(iv 1),(.osl 345 0 1),(iv 0),(iv 0),se,sn],pb 345 52 [(iv ((qJ s (qA s a)).2.1.1)),(iv ((qJ s (qA s a)).2.1.2.1)),(iv ((qJ s (qA s a)).2.1.2.2))]] (zY [0] 337 (jE (qdi s (qA s a) ((k-1:Nat):Int) hs (by omega)) h38) oz)<|qB<|qB ?_
  have hin_:=(VE (by omega) h38).2
  have hgi:=zR hin_
  refine zC qD 1 [.k3,.n,.d,.n,.r] [ps 160 (bv (qP s ((qJ s (qA s a)).2.2) 42)),pb 0 103 (vN s (qA s ((qJ s (qA s a)).2.2)) 0 0 (k-1))] (zY [0] 377 (vU s ((qJ s (qA s a)).2.2) ((k-1:Nat):Int) 42 hs (by omega)) oz) ?_
  by_cases h39:(qP s ((qJ s (qA s a)).2.2) 42)=true
  ·refine qL (b:=(qP s ((qJ s (qA s a)).2.2) 42)) rfl h39<|qB ?_
   have hlt2:=zM h39
   refine qQ qD [] [.k3,.d,.d,.n,.r] [pb 0 103 [(sv (st s)),(iv (((qA s ((qJ s (qA s a)).2.2):Nat):Int)+1)),(iv 0),(iv 0),(nv (k-1))]] (oi (((qA s ((qJ s (qA s a)).2.2):Nat):Int)+1) (by omega) oz)<|qj (Wk.eq (show _=[ps 0 (.opt 0 0),ps 4 (.opt 1 0),ps 5 (.opt 169 0),pb 0 103 (vN s (qA s ((qJ s (qA s a)).2.2)+1) 0 0 (k-1)),pb 1 50 [(iv 0),(iv 0),sn,(iv 0),(iv 0),se,sn],pb 169 50 [(iv 1),(iv 1),(.osl 345 0 1),(iv 0),(iv 0),se,sn],pb 345 52 [(iv ((qJ s (qA s a)).2.1.1)),(iv ((qJ s (qA s a)).2.1.2.1)),(iv ((qJ s (qA s a)).2.1.2.2))]] from by rfl)) ?_
   by_cases h40:(qE s (qA s ((qJ s (qA s a)).2.2)+1)).1=0
   ·refine zC qD 1 [.k3,.d,.n,.k1,.d,.n,.r] [pb 0 103 (vN s ((qE s (qA s ((qJ s (qA s a)).2.2)+1)).2.2) 0 0 (k-1)),pb 169 50 [(iv 1),(iv ((qE s (qA s ((qJ s (qA s a)).2.2)+1)).2.1)),(.osl 345 0 1),(iv 0),(iv 0),se,sn]] (zY [0] 457 (jE (wO s (qA s ((qJ s (qA s a)).2.2)+1) ((k-1:Nat):Int) hs (by omega)) h40) oz)<|qB<|qB ?_
    have hin2:=(wK (s:=s) (a:=(qA s ((qJ s (qA s a)).2.2)+1)) (by omega)).2
    refine qH qD [.k3,.n,.r] [ps 173 (bv true)]<|qL (b:=true) rfl rfl ?_
    by_cases h41:(zA s ((qE s (qA s ((qJ s (qA s a)).2.2)+1)).2.2)).1=0
    ·refine zC qD 1 [.d,.k2,.d,.d,.n,.k1,.d,.n,.r] [pb 0 103 (vN s ((zA s ((qE s (qA s ((qJ s (qA s a)).2.2)+1)).2.2)).2.2) 0 0 (k-1)),pb 169 50 [(iv 1),(iv ((qE s (qA s ((qJ s (qA s a)).2.2)+1)).2.1)),(.osl 345 0 1),(iv 0),(iv 0),(sv (st ((zA s ((qE s (qA s ((qJ s (qA s a)).2.2)+1)).2.2)).2.1))),sn]] (zY [0] 513 (jE (Zw s ((qE s (qA s ((qJ s (qA s a)).2.2)+1)).2.2) ((k-1:Nat):Int) hs (by omega)) h41) oz)<|qB<|qH qD [.k1,.d,.k1,.d,.n,.d,.r] [pb 1 50 [(iv 1),(iv ((qE s (qA s ((qJ s (qA s a)).2.2)+1)).2.1)),(.osl 345 0 1),(iv 0),(iv 0),(sv (st ((zA s ((qE s (qA s ((qJ s (qA s a)).2.2)+1)).2.2)).2.1))),sn]] ?_
     have hwg:=QW s a
     rw [show (qN s lv a k)=(0,(setL (Qw (.mk 1 1 [(qJ s (qA s a)).2.1] (0,0) [] []) (qE s (qA s ((qJ s (qA s a)).2.2)+1)).2.1) (zA s ((qE s (qA s ((qJ s (qA s a)).2.2)+1)).2.2)).2.1),(zA s ((qE s (qA s ((qJ s (qA s a)).2.2)+1)).2.2)).2.2,(k-1)) from by rw [zT,if_neg hk0,if_neg h3,if_neg h6,if_neg h9,if_neg h19,if_neg h27,if_pos h38,zw,if_pos h39,if_pos h40,vI,if_pos (by rfl),if_pos h41],if_pos rfl,if_pos rfl]
     refine qj (Wk.frz (l':=[ps 4 (.opt 1 0),pb 0 103 (vN s ((zA s ((qE s (qA s ((qJ s (qA s a)).2.2)+1)).2.2)).2.2) 0 0 (k-1)),pb 1 50 [(iv 1),(iv ((qE s (qA s ((qJ s (qA s a)).2.2)+1)).2.1)),(.ssl [(iv ((qJ s (qA s a)).2.1.1)),(iv ((qJ s (qA s a)).2.1.2.1)),(iv ((qJ s (qA s a)).2.1.2.2))] 0 1),(iv 0),(iv 0),(sv (st ((zA s ((qE s (qA s ((qJ s (qA s a)).2.2)+1)).2.2)).2.1))),sn],(kb 345,none)]) 345 (T:=52) (cs:=[(iv ((qJ s (qA s a)).2.1.1)),(iv ((qJ s (qA s a)).2.1.2.1)),(iv ((qJ s (qA s a)).2.1.2.2))]) (by kernel_rfl) (fun p hp=>List.all_eq_true.1 (show [(iv ((qJ s (qA s a)).2.1.1)),(iv ((qJ s (qA s a)).2.1.2.1)),(iv ((qJ s (qA s a)).2.1.2.2))].all PV.shd=true from rfl) p hp) (by kernel_rfl)) ?_
     exact qk hc0 [4] [0,1] (hbk:=by exact oc rfl (oz))
    refine zC qD 1 [.d,.k2,.d,.d,.n,.r] [pb 0 103 (jV s ((zA s ((qE s (qA s ((qJ s (qA s a)).2.2)+1)).2.2)).2.2) ((zA s ((qE s (qA s ((qJ s (qA s a)).2.2)+1)).2.2)).1) ((zA s ((qE s (qA s ((qJ s (qA s a)).2.2)+1)).2.2)).2.2) (k-1))] (zY [0] 513 (QY (Zw s ((qE s (qA s ((qJ s (qA s a)).2.2)+1)).2.2) ((k-1:Nat):Int) hs (by omega)) h41) oz)<|qB<|qH qD [.k1,.d,.k1,.d,.n,.d,.r] [pb 1 50 [(iv 1),(iv ((qE s (qA s ((qJ s (qA s a)).2.2)+1)).2.1)),(.osl 345 0 1),(iv 0),(iv 0),se,sn]] ?_
    have hwg:=QW s a
    rw [show (qN s lv a k)=((zA s ((qE s (qA s ((qJ s (qA s a)).2.2)+1)).2.2)).1,zQ,(zA s ((qE s (qA s ((qJ s (qA s a)).2.2)+1)).2.2)).2.2,(k-1)) from by rw [zT,if_neg hk0,if_neg h3,if_neg h6,if_neg h9,if_neg h19,if_neg h27,if_pos h38,zw,if_pos h39,if_pos h40,vI,if_pos (by rfl),if_neg h41],show (yv s lv a k)=((Qw (.mk 1 1 [(qJ s (qA s a)).2.1] (0,0) [] []) (qE s (qA s ((qJ s (qA s a)).2.2)+1)).2.1),((k-1:Nat):Int)) from by rw [wj,if_neg hk0,if_neg h3,if_neg h6,if_neg h9,if_neg h19,if_neg h27,if_pos h38,jL,if_pos h39,if_pos h40],if_neg h41,if_neg h41]
    refine qj (Wk.frz (l':=[ps 4 (.opt 1 0),pb 0 103 (jV s ((zA s ((qE s (qA s ((qJ s (qA s a)).2.2)+1)).2.2)).2.2) ((zA s ((qE s (qA s ((qJ s (qA s a)).2.2)+1)).2.2)).1) ((zA s ((qE s (qA s ((qJ s (qA s a)).2.2)+1)).2.2)).2.2) (k-1)),pb 1 50 [(iv 1),(iv ((qE s (qA s ((qJ s (qA s a)).2.2)+1)).2.1)),(.ssl [(iv ((qJ s (qA s a)).2.1.1)),(iv ((qJ s (qA s a)).2.1.2.1)),(iv ((qJ s (qA s a)).2.1.2.2))] 0 1),(iv 0),(iv 0),se,sn],(kb 345,none)]) 345 (T:=52) (cs:=[(iv ((qJ s (qA s a)).2.1.1)),(iv ((qJ s (qA s a)).2.1.2.1)),(iv ((qJ s (qA s a)).2.1.2.2))]) (by kernel_rfl) (fun p hp=>List.all_eq_true.1 (show [(iv ((qJ s (qA s a)).2.1.1)),(iv ((qJ s (qA s a)).2.1.2.1)),(iv ((qJ s (qA s a)).2.1.2.2))].all PV.shd=true from rfl) p hp) (by kernel_rfl)) ?_
    exact qk hc0 [4] [0,1] (hbk:=by exact oc rfl (oz))
   refine zC qD 1 [.k3,.d,.n,.k1,.d,.n,.r] [pb 0 103 (jV s ((qE s (qA s ((qJ s (qA s a)).2.2)+1)).2.2) ((qE s (qA s ((qJ s (qA s a)).2.2)+1)).1) ((qE s (qA s ((qJ s (qA s a)).2.2)+1)).2.2) (k-1)),pb 169 50 [(iv 1),(iv 0),(.osl 345 0 1),(iv 0),(iv 0),se,sn]] (zY [0] 457 (QY (wO s (qA s ((qJ s (qA s a)).2.2)+1) ((k-1:Nat):Int) hs (by omega)) h40) oz)<|qB<|qB<|qH qD [.k3,.n,.r] [ps 173 (bv true)]<|qL (b:=true) rfl rfl<|zC qD 1 [.d,.k2,.d,.r] [] (zY [0] 513 (qbc s ((qE s (qA s ((qJ s (qA s a)).2.2)+1)).2.2) ((k-1:Nat):Int) ((qE s (qA s ((qJ s (qA s a)).2.2)+1)).1) h40) oz)<|qB<|qH qD [.k1,.d,.k1,.d,.n,.d,.r] [pb 1 50 [(iv 1),(iv 0),(.osl 345 0 1),(iv 0),(iv 0),se,sn]] ?_
   have hwg:=QW s a
   rw [show (qN s lv a k)=((qE s (qA s ((qJ s (qA s a)).2.2)+1)).1,zQ,(qE s (qA s ((qJ s (qA s a)).2.2)+1)).2.2,(k-1)) from by rw [zT,if_neg hk0,if_neg h3,if_neg h6,if_neg h9,if_neg h19,if_neg h27,if_pos h38,zw,if_pos h39,if_neg h40],show (yv s lv a k)=(Qw (.mk 1 1 [(qJ s (qA s a)).2.1] (0,0) [] []) 0,((k-1:Nat):Int)) from by rw [wj,if_neg hk0,if_neg h3,if_neg h6,if_neg h9,if_neg h19,if_neg h27,if_pos h38,jL,if_pos h39,if_neg h40],if_neg h40,if_neg h40]
   refine qj (Wk.frz (l':=[ps 4 (.opt 1 0),pb 0 103 (jV s ((qE s (qA s ((qJ s (qA s a)).2.2)+1)).2.2) ((qE s (qA s ((qJ s (qA s a)).2.2)+1)).1) ((qE s (qA s ((qJ s (qA s a)).2.2)+1)).2.2) (k-1)),pb 1 50 [(iv 1),(iv 0),(.ssl [(iv ((qJ s (qA s a)).2.1.1)),(iv ((qJ s (qA s a)).2.1.2.1)),(iv ((qJ s (qA s a)).2.1.2.2))] 0 1),(iv 0),(iv 0),se,sn],(kb 345,none)]) 345 (T:=52) (cs:=[(iv ((qJ s (qA s a)).2.1.1)),(iv ((qJ s (qA s a)).2.1.2.1)),(iv ((qJ s (qA s a)).2.1.2.2))]) (by kernel_rfl) (fun p hp=>List.all_eq_true.1 (show [(iv ((qJ s (qA s a)).2.1.1)),(iv ((qJ s (qA s a)).2.1.2.1)),(iv ((qJ s (qA s a)).2.1.2.2))].all PV.shd=true from rfl) p hp) (by kernel_rfl)) ?_
   exact qk hc0 [4] [0,1] (hbk:=by exact oc rfl (oz))
  refine qO (b:=(qP s ((qJ s (qA s a)).2.2) 42)) rfl (Bool.eq_false_iff.2 h39)<|qF<|qB<|qB<|qH qD [.k3,.d,.n,.r] [ps 173 (bv true)]<|qL (b:=true) rfl rfl ?_
  by_cases h42:(zA s (qA s ((qJ s (qA s a)).2.2))).1=0
  ·refine zC qD 1 [.d,.k2,.d,.d,.n,.k1,.d,.n,.r] [pb 0 103 (vN s ((zA s (qA s ((qJ s (qA s a)).2.2))).2.2) 0 0 (k-1)),pb 169 50 [(iv 1),(iv 1),(.osl 345 0 1),(iv 0),(iv 0),(sv (st ((zA s (qA s ((qJ s (qA s a)).2.2))).2.1))),sn]] (zY [0] 417 (jE (Zw s (qA s ((qJ s (qA s a)).2.2)) ((k-1:Nat):Int) hs (by omega)) h42) oz)<|qB<|qH qD [.k1,.d,.k1,.d,.n,.d,.r] [pb 1 50 [(iv 1),(iv 1),(.osl 345 0 1),(iv 0),(iv 0),(sv (st ((zA s (qA s ((qJ s (qA s a)).2.2))).2.1))),sn]] ?_
   have hwg:=QW s a
   rw [show (qN s lv a k)=(0,(setL (.mk 1 1 [(qJ s (qA s a)).2.1] (0,0) [] []) (zA s (qA s ((qJ s (qA s a)).2.2))).2.1),(zA s (qA s ((qJ s (qA s a)).2.2))).2.2,(k-1)) from by rw [zT,if_neg hk0,if_neg h3,if_neg h6,if_neg h9,if_neg h19,if_neg h27,if_pos h38,zw,if_neg h39,vI,if_pos (by rfl),if_pos h42],if_pos rfl,if_pos rfl]
   refine qj (Wk.frz (l':=[ps 4 (.opt 1 0),pb 0 103 (vN s ((zA s (qA s ((qJ s (qA s a)).2.2))).2.2) 0 0 (k-1)),pb 1 50 [(iv 1),(iv 1),(.ssl [(iv ((qJ s (qA s a)).2.1.1)),(iv ((qJ s (qA s a)).2.1.2.1)),(iv ((qJ s (qA s a)).2.1.2.2))] 0 1),(iv 0),(iv 0),(sv (st ((zA s (qA s ((qJ s (qA s a)).2.2))).2.1))),sn],(kb 345,none)]) 345 (T:=52) (cs:=[(iv ((qJ s (qA s a)).2.1.1)),(iv ((qJ s (qA s a)).2.1.2.1)),(iv ((qJ s (qA s a)).2.1.2.2))]) (by kernel_rfl) (fun p hp=>List.all_eq_true.1 (show [(iv ((qJ s (qA s a)).2.1.1)),(iv ((qJ s (qA s a)).2.1.2.1)),(iv ((qJ s (qA s a)).2.1.2.2))].all PV.shd=true from rfl) p hp) (by kernel_rfl)) ?_
   exact qk hc0 [4] [0,1] (hbk:=by exact oc rfl (oz))
  refine zC qD 1 [.d,.k2,.d,.d,.n,.r] [pb 0 103 (jV s ((zA s (qA s ((qJ s (qA s a)).2.2))).2.2) ((zA s (qA s ((qJ s (qA s a)).2.2))).1) ((zA s (qA s ((qJ s (qA s a)).2.2))).2.2) (k-1))] (zY [0] 417 (QY (Zw s (qA s ((qJ s (qA s a)).2.2)) ((k-1:Nat):Int) hs (by omega)) h42) oz)<|qB<|qH qD [.k1,.d,.k1,.d,.n,.d,.r] [pb 1 50 [(iv 1),(iv 1),(.osl 345 0 1),(iv 0),(iv 0),se,sn]] ?_
  have hwg:=QW s a
  rw [show (qN s lv a k)=((zA s (qA s ((qJ s (qA s a)).2.2))).1,zQ,(zA s (qA s ((qJ s (qA s a)).2.2))).2.2,(k-1)) from by rw [zT,if_neg hk0,if_neg h3,if_neg h6,if_neg h9,if_neg h19,if_neg h27,if_pos h38,zw,if_neg h39,vI,if_pos (by rfl),if_neg h42],show (yv s lv a k)=((.mk 1 1 [(qJ s (qA s a)).2.1] (0,0) [] []),((k-1:Nat):Int)) from by rw [wj,if_neg hk0,if_neg h3,if_neg h6,if_neg h9,if_neg h19,if_neg h27,if_pos h38,jL,if_neg h39],if_neg h42,if_neg h42]
  refine qj (Wk.frz (l':=[ps 4 (.opt 1 0),pb 0 103 (jV s ((zA s (qA s ((qJ s (qA s a)).2.2))).2.2) ((zA s (qA s ((qJ s (qA s a)).2.2))).1) ((zA s (qA s ((qJ s (qA s a)).2.2))).2.2) (k-1)),pb 1 50 [(iv 1),(iv 1),(.ssl [(iv ((qJ s (qA s a)).2.1.1)),(iv ((qJ s (qA s a)).2.1.2.1)),(iv ((qJ s (qA s a)).2.1.2.2))] 0 1),(iv 0),(iv 0),se,sn],(kb 345,none)]) 345 (T:=52) (cs:=[(iv ((qJ s (qA s a)).2.1.1)),(iv ((qJ s (qA s a)).2.1.2.1)),(iv ((qJ s (qA s a)).2.1.2.2))]) (by kernel_rfl) (fun p hp=>List.all_eq_true.1 (show [(iv ((qJ s (qA s a)).2.1.1)),(iv ((qJ s (qA s a)).2.1.2.1)),(iv ((qJ s (qA s a)).2.1.2.2))].all PV.shd=true from rfl) p hp) (by kernel_rfl)) ?_
  exact qk hc0 [4] [0,1] (hbk:=by exact oc rfl (oz))
 refine zC qD 1 [.k3,.d,.d,.n,.k1,.d,.n,.n] [pb 0 103 (jV s ((qJ s (qA s a)).2.2) ((qJ s (qA s a)).1) ((qJ s (qA s a)).2.2) (k-1)),pb 169 50 [(iv 1),(iv 1),(.osl 345 0 1),(iv 0),(iv 0),se,sn],pb 345 52 [(iv ((qW (qC s (qA s a))).1.1)),(iv ((qW (qC s (qA s a))).1.2.1)),(iv ((qW (qC s (qA s a))).1.2.2))]] (zY [0] 337 (QY (qdi s (qA s a) ((k-1:Nat):Int) hs (by omega)) h38) oz)<|qB<|qB<|zC qD 1 [.k3,.n,.r] [ps 160 (bv false)] (zY [0] 377 (wF s ((qJ s (qA s a)).2.2) ((k-1:Nat):Int) 42 ((qJ s (qA s a)).1) h38) oz)<|qO (b:=false) rfl rfl<|qF<|qB<|qB<|qH qD [.k3,.d,.n,.r] [ps 173 (bv true)]<|qL (b:=true) rfl rfl<|zC qD 1 [.d,.k2,.d,.r] [] (zY [0] 417 (qbc s ((qJ s (qA s a)).2.2) ((k-1:Nat):Int) ((qJ s (qA s a)).1) h38) oz)<|qB<|qH qD [.k1,.d,.k1,.d,.n,.d,.r] [pb 1 50 [(iv 1),(iv 1),(.osl 345 0 1),(iv 0),(iv 0),se,sn]] ?_
 have hwg:=QW s a
 rw [show (qN s lv a k)=((qJ s (qA s a)).1,zQ,(qJ s (qA s a)).2.2,0) from by rw [zT,if_neg hk0,if_neg h3,if_neg h6,if_neg h9,if_neg h19,if_neg h27,if_neg h38],show (yv s lv a k)=(.mk 1 1 [(qW (qC s (qA s a))).1] (0,0) [] [],((k-1:Nat):Int)) from by rw [wj,if_neg hk0,if_neg h3,if_neg h6,if_neg h9,if_neg h19,if_neg h27,if_neg h38],if_neg h38,if_neg h38]
 refine qj (Wk.frz (l':=[ps 4 (.opt 1 0),pb 0 103 (jV s ((qJ s (qA s a)).2.2) ((qJ s (qA s a)).1) ((qJ s (qA s a)).2.2) (k-1)),pb 1 50 [(iv 1),(iv 1),(.ssl [(iv ((qW (qC s (qA s a))).1.1)),(iv ((qW (qC s (qA s a))).1.2.1)),(iv ((qW (qC s (qA s a))).1.2.2))] 0 1),(iv 0),(iv 0),se,sn],(kb 345,none)]) 345 (T:=52) (cs:=[(iv ((qW (qC s (qA s a))).1.1)),(iv ((qW (qC s (qA s a))).1.2.1)),(iv ((qW (qC s (qA s a))).1.2.2))]) (by kernel_rfl) (fun p hp=>List.all_eq_true.1 (show [(iv ((qW (qC s (qA s a))).1.1)),(iv ((qW (qC s (qA s a))).1.2.1)),(iv ((qW (qC s (qA s a))).1.2.2))].all PV.shd=true from rfl) p hp) (by kernel_rfl)) ?_
 exact qk hc0 [4] [0,1] (hbk:=by exact oc rfl (oz))
def PD (P:Program) (f:FuncId) (args:List PV) (H:Hp) (u u':FrameMode) (H':Hp):Prop:=FnOk P f∧H.length≤H'.length∧∀ (c:Cx) (vs:Array Value),Heap (jZ P c H) (· < H.length) c (VX H)→RL P c args vs →
 CallsD P f vs u c.w fun e u2 w'=>∃ v c',e = .returned v∧u2=u'∧c'.w=w'∧Heap (jZ P c H) (· < H'.length) c' (VX H')
def Recs (u:FrameMode) (x:Value) (u':FrameMode):Prop:=∀ (c₀:Frame) (cs:List Frame),c₀.mode=u→recoverD (c₀ :: cs)=some (x,{ c₀ with mode:=u' } :: cs)∨(recoverD (c₀ :: cs)=none∧x = .nilIface∧u'=u)
theorem recs_ret:Recs .returning .nilIface .returning:=fun c₀ cs h=>.inr ⟨by simp only [recoverD,h],rfl,rfl⟩
theorem recs_pan (v:Value):Recs (.panicking [{ v:=v,recovered:=false }]) v (.panicking [{ v:=v,recovered:=true }]):=fun c₀ cs h=>.inl (by simp only [recoverD,h])
theorem qjo {P:Program} {f:FuncId} {fn:Func} {rest:Code} {id:Nat} {o:Oper} {t:Nat} {ts:Array TypeId} {args:List PV} {H H':Hp} {x:Value} {u u':FrameMode} {l0:L} (hf:P.funcs[f]? = some fn) (hb:fn.body=some (.seq (.region id #[o] false) rest))
  (hname : (fn.name == "runtime.NumGoroutine") = false) (hop : o.op = .call { callee := .builtin .recover, args := #[], argTypes := ts }) (hg : o.guard = none) (hdst : o.dst = some t) (ht : Nat.blt t fn.ntmps = true) (hrec : Recs u x u') (hlen : H.length ≤ H'.length)
  (hn:Nat.ble args.length fn.ntmps=true) (hl0:Yz 0 args++YC 0 H=l0)
  (h:∀ c0 (Bor:Nat→Prop),(∀ i x,c0.own i=some x→i<H.length)→T P fn.ntmps c0 ⟨Bor,[]⟩ (retQ P fn c0 ⟨Bor,[]⟩ (.tup []) H') H.length ([(ks t,some (.pv (.av x)))]++l0) [.code rest]):PD P f args H u u' H':=by
 refine ⟨⟨fn,hf,by rw [hb];rfl,hname⟩,hlen,fun c vs hh hrl=>?_⟩
 have hI:=qkf (Nat.le_of_ble_eq_true hn) hl0 c vs hh hrl
 have ht':t<fn.ntmps:=by simpa [Nat.blt_eq] using ht
 have hI2:=hI.pure (nx':=fun i=>i<H.length) (fun _ h=>h) (some t) (fun y hy=>by cases hy;exact ht') (p:=.av x) (v:=x) fun _=>.sh (.av _)
 have key:=h c (jZ P c H).Bor.bor (fun i x hx=>hh.ids i x hx) c _ (by rw [vY];exact hI2)
 refine callsD_of_wpS hf hb fun c₀ cs hu=>wpS_seq (wpS_region ?_)
 have hrun:∀ a:Act,(execOp a.eval o).run P c.w = .ok .recover c.w:=fun a=>by simp [execOp,hop,resolve,invoke,builtin]
 show wpOpsS P #[o] _ [0] _ _ _
 have hw:∀ y,Region.wanted o y=true:=fun y=>by simp [Region.wanted,hg]
 have hrest:∀ cs':List Frame,cs'={ c₀ with mode:=u' } :: cs→rest.wpS P (bodyPostS P fn c₀ cs fun e u2 w'=>∃ v c',e = .returned v∧u2=u'∧c'.w=w'∧Heap (jZ P c H) (· < H'.length) c' (VX H'))
   (Act.put { tmps:=vs++Array.replicate (fn.ntmps-vs.size) undef,defers:=[] } (some t) x) cs' c.w:=by
  intro cs' hcs
  refine wpS_of_wp (wp_mono key ?_)
  rintro e a' w' ⟨cx',rfl,he,hd,v,cx2,h1,h2,h3,h4⟩
  rcases he with rfl|rfl
  ·exact ⟨hd,u',hcs,v,h2,v,cx2,rfl,rfl,h1,h4⟩
  ·exact ⟨hd,u',hcs,v,h2,v,cx2,rfl,rfl,h1,h4⟩
 simp only [wpOpsS,List.getElem?_toArray,List.getElem?_cons_zero,hw,if_true,hrun,hdst]
 rcases hrec c₀ cs hu with h1|⟨h1,rfl,rfl⟩
 ·rw [h1]
  exact hrest _ rfl
 ·rw [h1]
  exact hrest _ (by subst hu;rfl)
theorem Heap.envD {P:Program} {n m:Nat} {c0 c:Cx} {B:Nat→Prop} {d e:List Deferred} {nx:Nat→Prop} {g:St} (h:Heap ⟨P,n,c0,⟨B,d⟩⟩ nx c g):Heap ⟨P,m,c0,⟨B,e⟩⟩ nx c g :=
 { ids:=h.ids,blk:=h.blk,inj:=h.inj,apart:=h.apart,bnd:=h.bnd,sok:=h.sok,os:=h.os,tape:=h.tape,output:=h.output,size:=h.size,same:=h.same,laid:=h.laid,s0:=h.s0,s1:=h.s1,keep:=h.keep }
theorem Heap.bare {E:Env} {nx:Nat→Prop} {c:Cx} {g:St} (h:Heap E nx c g) {k:Nat} (hk:∀ i x,E.c0.own i=some x→i<k):Heap E (· < k) ⟨c.w,c.S,E.c0.own⟩ (fun _=>none) :=
 { ids:=hk,blk:=fun i T cs h=>(by cases h),inj:=fun i j b T T' ⟨_,_,h⟩=>(by cases h),apart:=fun i b T ⟨_,_,h⟩=>(by cases h),bnd:=fun i b T hx=>h.bnd i b T (h.keep.own i _ hx),sok:=h.sok,os:=h.os,tape:=h.tape,output:=h.output,size:=h.size,same:=h.same,laid:=h.laid,s0:=h.s0,s1:=h.s1,keep:=⟨h.keep.S,fun _ _ h=>h,h.keep.shape⟩ }
theorem qkj {H:Hp} (h:∀ i,H.getD i none=none):∀ i T cs,¬ VX H (kb i)=some (.blk T cs):=fun i T cs hx=>by
 rw [ZA,h i] at hx
 cases hx
theorem Heap.bareH {E:Env} {nx:Nat→Prop} {c:Cx} {g:St} (h:Heap E nx c g) {H:Hp} (hH:∀ i,H.getD i none=none) (hk:∀ i x,E.c0.own i=some x→i<H.length):Heap E (· < H.length) ⟨c.w,c.S,E.c0.own⟩ (VX H) :=
 (h.bare hk).less fun i T cs hx=>absurd hx (qkj hH i T cs)

theorem wp_one {P:Program} {ops:Array Oper} {Q:Exit→Act→World→Prop} {i:Nat} {rest:List Nat} {o:Oper} {a:Act} {w:World} (ho:ops[i]? = some o) (hg:o.guard=none) (h:o.wp P a w (wpOps P ops Q rest) Q):wpOps P ops Q (i :: rest) a w:=by
 rw [wpOps_cons]
 unfold wpOp
 simp only [ho]
 rw [if_pos (by simp [Region.wanted,hg])]
 exact .inl h
section
variable {P:Program} {n:Nat} {c0:Cx} {B:Nat→Prop} {m:Nat} {l:L} {cx:Cx} {a:Act} {d:Deferred} {fn:Func} {fl:FuncId} {t0 t1:Nat} {T0 T1:TypeId} {X0 X1 Y0 Y1:List PV} {u u':FrameMode} {r:PV}
theorem qgk {v0 v1:Value} (hI:Inv ⟨P,n,c0,⟨B,[d]⟩⟩ (· < m) cx (get l) a) (hdd:d={ target:=.fn (.func fl) #[v0,v1],args := #[] }) (hv0:a.tmps.getD t0 undef=v0) (hv1:a.tmps.getD t1 undef=v1)
  (h0:get l (ks t0)=some (.pv (.opt 0 0))) (h1:get l (ks t1)=some (.pv (.opt 1 0))) (hb0:get l (kb 0)=some (.blk T0 X0)) (hb1:get l (kb 1)=some (.blk T1 X1)) (hX0:∀ σ,vJ σ X0=X0) (hX1:∀ σ,vJ σ X1=X1) (hY0:∀ σ,vJ σ Y0=Y0) (hY1:∀ σ,vJ σ Y1=Y1)
  (hpd:PD P fl [.opt 0 0,.opt 1 0] [some (T0,X0),some (T1,X1)] u u' [some (T0,Y0),some (T1,Y1)]) (hu:u≠.run) (hs:settle u' = .returning)
  (hr:runv (get [(ks t0,some (.pv (.opt 0 0))),(ks t1,some (.pv (.opt 1 0))),(kb 0,some (.blk T0 Y0)),(kb 1,some (.blk T1 Y1))]) (resP P fn.results.toList fun ps=>.done (qgc ps) [])=some (r,[]))
  {R:Ending→World→Prop} (hR:∀ v own2 (c':Cx),Heap ⟨P,n,c0,⟨B,[d]⟩⟩ (· < m+8) ⟨c'.w,c'.S,own2⟩ (fun _=>none)→Rep P ⟨c'.w,c'.S,own2⟩ r v→R (.returned v) c'.w):Leaves P fn a.tmps R a.defers u cx.w:=by
 have hdf:a.defers=[d]:=hI.dfr
 rw [hdf,hdd]
 obtain ⟨hfn,hHl,hpd⟩:=hpd
 have hinv:(invoke (.fn (.func fl) #[v0,v1]) #[]).run P cx.w = .ok (.enter fl #[v0,v1]) cx.w:=by
  obtain ⟨fn,h1,h2,h3⟩:=hfn
  have h2':¬ fn.body=none:=fun e=>by rw [e] at h2;cases h2
  have h3' : ¬ fn.name = "runtime.NumGoroutine" := by simpa using h3
  simp [invoke,callFunc,h1,h3',h2']
 have hfr:∀ t,t<8→¬ (m+t<m):=fun t _=>by omega
 have hlent:∀ i,i < [0,1].length→∃ T cs,([some (T0,X0),some (T1,X1)]:Hp).getD i none=some (T,cs)∧get l (kb ([0,1].getD i 0))=some (.blk T (vJ (yq [0,1] m) cs)):=fun i hi=>by
  match i,hi with
  | 0,_=>exact ⟨T0,X0,rfl,by rw [hX0];exact hb0⟩
  | 1,_=>exact ⟨T1,X1,rfl,by rw [hX1];exact hb1⟩
 have hh:=WZ (id:=m) (ids:=[0,1]) (H:=[some (T0,X0),some (T1,X1)]) hfr hI.toHeap rfl rfl hlent
 have hra:RL P (cx.via (yq [0,1] m)) [.opt 0 0,.opt 1 0] #[v0,v1]:=⟨rfl,fun i hi=>by
  match i,hi with
  | 0,_=>exact ZC (hv0▸hI.slot t0 _ h0) (.opt 0 0) rfl
  | 1,_=>exact ZC (hv1▸hI.slot t1 _ h1) (.opt 1 0) rfl⟩
 refine leaves_cons hu hinv ((hpd _ _ hh hra).mono ?_)
 rintro e u2 w' ⟨v,c',rfl,rfl,rfl,hh'⟩
 obtain ⟨own2,hk,hto,hh2⟩:=qcq (E:=⟨P,n,c0,⟨B,[d]⟩⟩) (id:=m) (ids:=[0,1]) (H:=[some (T0,X0),some (T1,X1)]) (H':=[some (T0,Y0),some (T1,Y1)]) (Nat.le_of_ble_eq_true rfl) hHl hfr hI.toHeap rfl rfl hlent hh'
 have hI2:Inv ⟨P,n,c0,⟨B,[d]⟩⟩ (· < m+8) ⟨c'.w,c'.S,own2⟩ (zF (jK (wW [0,1] m) 0 [some (T0,Y0),some (T1,Y1)]) (get l)) a:=(hI.keeps hk hh2 fun s=>by unfold zF;rw [QL]).more fun i hi=>by
  rcases hi with h|h
  ·omega
  ·omega
 have hI3:Inv ⟨P,n,c0,⟨B,[d]⟩⟩ (· < m+8) ⟨c'.w,c'.S,own2⟩ (get [(ks t0,some (.pv (.opt 0 0))),(ks t1,some (.pv (.opt 1 0))),(kb 0,some (.blk T0 Y0)),(kb 1,some (.blk T1 Y1))]) a:=hI2.less fun k v hx=>by
  simp only [get,lk] at hx
  split at hx
  ·rename_i e
   rw [Nat.eq_of_beq_eq_true e]
   unfold zF
   rw [QL,h0]
   simpa using hx
  split at hx
  ·rename_i e
   rw [Nat.eq_of_beq_eq_true e]
   unfold zF
   rw [QL,h1]
   simpa using hx
  split at hx
  ·rename_i e
   rw [Nat.eq_of_beq_eq_true e]
   show (match lk (kb 0) (jK (wW [0,1] m) 0 [some (T0,Y0),some (T1,Y1)]) with|some x=>x|none=>get l (kb 0))=some v
   rw [show lk (kb 0) (jK (wW [0,1] m) 0 [some (T0,Y0),some (T1,Y1)])=some (some (.blk T0 (vJ (wW [0,1] m) Y0))) from rfl,hY0]
   simpa using hx
  split at hx
  ·rename_i e
   rw [Nat.eq_of_beq_eq_true e]
   show (match lk (kb 1) (jK (wW [0,1] m) 0 [some (T0,Y0),some (T1,Y1)]) with|some x=>x|none=>get l (kb 1))=some v
   rw [show lk (kb 1) (jK (wW [0,1] m) 0 [some (T0,Y0),some (T1,Y1)])=some (some (.blk T1 (vJ (wW [0,1] m) Y1))) from rfl,hY1]
   simpa using hx
  ·simp at hx
 obtain ⟨v',h2,h3⟩:=wN hr _ a hI3
 show Leaves P fn a.tmps R [] (settle u2) c'.w
 rw [hs]
 exact ⟨v',h2,hR v' own2 c' (hI3.toHeap.less fun i T cs hx=>by cases hx) h3⟩
theorem lend_two {d0:List Deferred} {c0:Cx} {B:Nat→Prop} {n0:Nat} {l:L} {cx:Cx} {a a2:Act} {i1 t0 t1:Nat} {rest:List (Nat × PV)} (hI:Inv ⟨P,n,c0,⟨B,d0⟩⟩ (· < n0) cx (get l) a) (hn:Nat.blt 0 i1=true) (hb0:get l (kb 0)=some (.blk T0 X0)) (hb1:get l (kb i1)=some (.blk T1 X1)) (hX0:∀ σ,vJ σ X0=X0) (hX1:∀ σ,vJ σ X1=X1)
  (h0:get l (ks t0)=some (.pv (.opt 0 0))) (h1:get l (ks t1)=some (.pv (.opt i1 0))) (hts:a2.tmps.size=a.tmps.size) (hsame:∀ s p,get l (ks s)=some (.pv p)→a2.tmps.getD s undef=a.tmps.getD s undef)
  (hrest:∀ x∈rest,get l (ks x.1)=some (.pv x.2)∧∀ σ,ren σ x.2=x.2) :
  Inv ⟨P,n,cx.via (yq [0,i1] n0),⟨(jZ P (cx.via (yq [0,i1] n0)) [some (T0,X0),some (T1,X1)]).Bor.bor,a2.defers⟩⟩ (· < 2) (cx.via (yq [0,i1] n0))
   (get ([(ks t0,some (.pv (.opt 0 0))),(ks t1,some (.pv (.opt 1 0))),(kb 0,some (.blk T0 X0)),(kb 1,some (.blk T1 X1))]++rest.map fun x=>(ks x.1,some (.pv x.2)))) a2:=by
 have hi1:0<i1:=by simpa [Nat.blt_eq] using hn
 have hnd:wL [0,i1]=true:=by
  have:Nat.beq 0 i1=false:=by rw [Bool.eq_false_iff];intro h;have:=Nat.eq_of_beq_eq_true h;omega
  simp [wL,this]
 have hlent:∀ i,i < [0,i1].length→∃ T cs,([some (T0,X0),some (T1,X1)]:Hp).getD i none=some (T,cs)∧get l (kb ([0,i1].getD i 0))=some (.blk T (vJ (yq [0,i1] n0) cs)):=fun i hi=>by
  match i,hi with
  | 0,_=>exact ⟨T0,X0,rfl,by rw [hX0];exact hb0⟩
  | 1,_=>exact ⟨T1,X1,rfl,by rw [hX1];exact hb1⟩
 have hh:=WZ (E:=⟨P,n,c0,⟨B,d0⟩⟩) (id:=n0) (ids:=[0,i1]) (H:=[some (T0,X0),some (T1,X1)]) (fun t _=>by omega) hI.toHeap hnd rfl hlent
 have hsl:∀ s p,get ([(ks t0,some (.pv (.opt 0 0))),(ks t1,some (.pv (.opt 1 0))),(kb 0,some (.blk T0 X0)),(kb 1,some (.blk T1 X1))]++rest.map fun x=>(ks x.1,some (.pv x.2))) (ks s)=some p→∃ q,p = .pv q∧Rep P (cx.via (yq [0,i1] n0)) q (a2.tmps.getD s undef):=by
  intro s p hx
  simp only [get,List.cons_append,List.nil_append,lk,YS,jy] at hx
  by_cases e0:s=t0
  ·subst e0
   simp only [decide_true,if_true,Option.join_some,Option.some.injEq] at hx
   exact ⟨_,hx.symm,by rw [hsame s _ h0];exact ZC (hI.slot s _ h0) (.opt 0 0) rfl⟩
  by_cases e1:s=t1
  ·subst e1
   simp only [e0,decide_false,decide_true,Bool.false_eq_true,if_true,if_false,Option.join_some,Option.some.injEq] at hx
   exact ⟨_,hx.symm,by rw [hsame s _ h1];exact ZC (hI.slot s _ h1) (.opt 1 0) rfl⟩
  simp only [e0,e1,decide_false,Bool.false_eq_true,if_false] at hx
  have key:∀ rs:List (Nat × PV),(∀ x∈rs,x∈rest)→(lk (ks s) (rs.map fun x=>(ks x.1,some (Val.pv x.2)))).join=some p→∃ x∈rs,x.1=s∧p = .pv x.2:=by
   intro rs
   induction rs with
   | nil=>intro _ h;simp [lk] at h
   | cons y rs ih =>
    intro hy h
    simp only [List.map_cons,lk,YS] at h
    by_cases e:s=y.1
    ·simp only [e,decide_true,if_true,Option.join_some,Option.some.injEq] at h
     exact ⟨y,by simp,e.symm,h.symm⟩
    ·simp only [e,decide_false,Bool.false_eq_true,if_false] at h
     obtain ⟨x,h1,h2,h3⟩:=ih (fun x hx=>hy x (by simp [hx])) h
     exact ⟨x,by simp [h1],h2,h3⟩
  obtain ⟨x,h2,h3,h4⟩:=key rest (fun x hx=>hx) hx
  obtain ⟨h5,h6⟩:=hrest x h2
  subst h3
  exact ⟨x.2,h4,by rw [hsame x.1 _ h5];exact ZC (hI.slot x.1 _ h5) x.2 (h6 _).symm⟩
 have hbk:∀ i T cs,get ([(ks t0,some (.pv (.opt 0 0))),(ks t1,some (.pv (.opt 1 0))),(kb 0,some (.blk T0 X0)),(kb 1,some (.blk T1 X1))]++rest.map fun x=>(ks x.1,some (.pv x.2))) (kb i)=some (.blk T cs)→VX [some (T0,X0),some (T1,X1)] (kb i)=some (.blk T cs):=by
  intro i T cs hx
  simp only [get,List.cons_append,List.nil_append,lk,qbu,VN] at hx
  rw [ZA]
  match i,hx with
  | 0,hx=>simpa using hx
  | 1,hx=>simpa using hx
  | i+2,hx =>
   exfalso
   have e0:¬ i+2=0:=by omega
   have e1:¬ i+2=1:=by omega
   simp only [e0,e1,decide_false,Bool.false_eq_true,if_false] at hx
   have:∀ rs:List (Nat × PV),lk (kb (i+2)) (rs.map fun x=>(ks x.1,some (Val.pv x.2)))=none:=by
    intro rs
    induction rs with
    | nil=>rfl
    | cons y rs ih=>simp only [List.map_cons,lk,qbu];exact ih
   rw [this rest] at hx
   cases hx
 have hh2:Heap ⟨P,n,cx.via (yq [0,i1] n0),⟨(jZ P (cx.via (yq [0,i1] n0)) [some (T0,X0),some (T1,X1)]).Bor.bor,a2.defers⟩⟩ (· < 2) (cx.via (yq [0,i1] n0)) (VX [some (T0,X0),some (T1,X1)]):=Heap.envD (n:=0) (d:=[]) hh
 exact { hh2.less hbk with
   tmps:=by rw [hts];exact hI.tmps
   dfr:=rfl
   slot:=fun s p hp=>by
     obtain ⟨q,h2,h3⟩:=hsl s _ hp
     cases h2
     exact h3
   isv:=fun s x hx=>by
     obtain ⟨q,h2,_⟩:=hsl s _ hx
     exact ⟨q,h2⟩ }
theorem back_two {d0 ds:List Deferred} {c0:Cx} {B:Nat→Prop} {n0:Nat} {l:L} {cx:Cx} {a:Act} {i1:Nat} (hI:Inv ⟨P,n,c0,⟨B,d0⟩⟩ (· < n0) cx (get l) a) (hn:Nat.blt 0 i1=true) (hb0:get l (kb 0)=some (.blk T0 X0)) (hb1:get l (kb i1)=some (.blk T1 X1)) (hX0:∀ σ,vJ σ X0=X0) (hX1:∀ σ,vJ σ X1=X1)
  (hc0:∀ i x,c0.own i=some x→i<0) {nx:Nat→Prop} {c':Cx} {g':St} (h:Heap ⟨P,n,cx.via (yq [0,i1] n0),⟨(jZ P (cx.via (yq [0,i1] n0)) [some (T0,X0),some (T1,X1)]).Bor.bor,ds⟩⟩ nx c' g') :
  Heap ⟨P,0,c0,⟨B,[]⟩⟩ (· < 0) ⟨c'.w,c'.S,c0.own⟩ (fun _=>none):=by
 have hi1:0<i1:=by simpa [Nat.blt_eq] using hn
 have hnd:wL [0,i1]=true:=by
  have:Nat.beq 0 i1=false:=by rw [Bool.eq_false_iff];intro h;have:=Nat.eq_of_beq_eq_true h;omega
  simp [wL,this]
 have hlent:∀ i,i < [0,i1].length→∃ T cs,([some (T0,X0),some (T1,X1)]:Hp).getD i none=some (T,cs)∧get l (kb ([0,i1].getD i 0))=some (.blk T (vJ (yq [0,i1] n0) cs)):=fun i hi=>by
  match i,hi with
  | 0,_=>exact ⟨T0,X0,rfl,by rw [hX0];exact hb0⟩
  | 1,_=>exact ⟨T1,X1,rfl,by rw [hX1];exact hb1⟩
 have hh:=WZ (E:=⟨P,n,c0,⟨B,d0⟩⟩) (id:=n0) (ids:=[0,i1]) (H:=[some (T0,X0),some (T1,X1)]) (fun t _=>by omega) hI.toHeap hnd rfl hlent
 have h2:=(h.bareH (H:=[none,none]) (fun i=>by rcases i with _|_|i <;> rfl) (fun i x hx=>hh.ids i x hx)).envD (m:=0) (e:=[])
 obtain ⟨own3,_,_,hh3⟩:=qcq (E:=⟨P,n,c0,⟨B,d0⟩⟩) (id:=n0) (ids:=[0,i1]) (H:=[some (T0,X0),some (T1,X1)]) (H':=[none,none]) (show 2≤2+8 by omega) (Nat.le_refl 2) (fun t _=>by omega) hI.toHeap hnd rfl hlent h2
 exact (hh3.bare hc0).envD
mutual
def dsh:PV→Bool
 | .agg cs=>dshL cs
 | .tup cs=>dshL cs
 | .fn _ cs ds=>dshL cs && dshL ds
 | .osl _ _ _=>false
 | .opt _ _=>false
 | .av _=>true
 | .ssl _ _ _=>true
 | .spt _ _=>true
 | .err=>true
def dshL:List PV→Bool
 | []=>true
 | p :: l=>dsh p && dshL l
end
theorem WD:∀ {l:List PV} {i:Nat},dshL l=true→i<l.length→dsh (l.getD i P0)=true
 | [],i,_,h=>absurd h (Nat.not_lt_zero i)
 | p :: l,0,h,_=>by
  simp only [dshL,Bool.and_eq_true] at h
  exact h.1
 | p :: l,i+1,h,hi=>by
  simp only [dshL,Bool.and_eq_true] at h
  simpa using WD (i:=i) h.2 (by simpa using hi)
theorem rep_dsh {c:Cx} {p:PV} {v:Value} (h:Rep P c p v) (hd:dsh p=true):SRep c.w c.S p v:=by
 induction h with
 | sh h=>exact h
 | agg hn _ ih =>
  simp only [dsh] at hd
  exact .agg hn fun i hi=>ih i hi (WD hd hi)
 | tup hn _ ih =>
  simp only [dsh] at hd
  exact .tup hn fun i hi=>ih i hi (WD hd hi)
 | osl=>cases hd
 | opt=>cases hd
 | fn hn _ hm _ ih ik =>
  simp only [dsh,Bool.and_eq_true] at hd
  exact .fn hn (fun i hi=>ih i hi (WD hd.1 hi)) hm fun i hi=>ik i hi (WD hd.2 hi)
theorem cell_av {g:St} {nx:Nat→Prop} {E:Env} {c:Cx} (h:Heap E nx c g) {i:Nat} {T:TypeId} {p:PV} (hg:g (kb i)=some (.blk T [p])):∃ v:Value,v.oneCell'=true∧Heap E nx c (zF [(kb i,some (.blk T [.av v]))] g):=by
 obtain ⟨ob,h1,h2,h3⟩:=h.blk i T _ hg
 have hp:p.one=true:=h2 p (by simp)
 rcases h3 with ⟨_,h4⟩|⟨b,cs,h4,h5,h6,h7⟩
 ·cases h4
 have hr:=h7 0 (by simp)
 refine ⟨cs.getD 0 undef,Rep.one hr hp,?_⟩
 have hl:∀ j,vQ (zF [(kb i,some (.blk T [.av (cs.getD 0 undef)]))] g) j→vQ g j:=fun j ⟨T',cs',hx⟩=>by
  rw [jv] at hx
  by_cases e:j=i
  ·subst e;exact ⟨T,_,hg⟩
  ·rw [if_neg e] at hx;exact ⟨T',cs',hx⟩
 exact { h with
   blk:=fun j T' cs' hx=>by
     rw [jv] at hx
     by_cases e:j=i
     · subst e
       rw [if_pos rfl] at hx
       simp only [Option.some.injEq,Val.blk.injEq] at hx
       obtain ⟨rfl,rfl⟩:=hx
       refine ⟨ob,h1,fun q hq=>?_,.inr ⟨b,cs,h4,h5,h6,fun k hk=>?_⟩⟩
       · rw [List.mem_singleton.1 hq];exact Rep.one hr hp
       · obtain rfl:k=0:=by simpa using hk
         exact .sh (.av _)
     · rw [if_neg e] at hx
       exact h.blk j T' cs' hx
   inj:=fun j j' b T T' l1 l2=>h.inj j j' b T T' (hl j l1) (hl j' l2)
   apart:=fun j b T l1=>h.apart j b T (hl j l1) }
end
theorem rdL_ok' {s:zX}:∀ (m:Nat) (l:List Vo) (a:Nat) (z:Int),(rdL s m l a z).1=0→(rdL s m l a z).2.2=0
 | 0,l,a,z,h=>by
  rw [rdL] at h ⊢
  split at h
  ·rename_i c;rw [if_pos c]
  ·cases h
 | m+1,l,a,z,h=>by
  rw [rdL] at h ⊢
  split at h
  ·rename_i c;rw [if_pos c]
  ·rename_i c
   rw [if_neg c]
   split at h
   ·rename_i c2;rw [if_pos c2];exact rdL_ok' m _ _ _ h
   ·rename_i c2;exact absurd h c2
theorem rdL_no' {s:zX}:∀ (m:Nat) (l:List Vo) (a:Nat) (z:Int),¬ (rdL s m l a z).1=0→(rdL s m l a z).2.1=[]
 | 0,l,a,z,h=>by
  rw [rdL] at h ⊢
  split at h
  ·exact absurd rfl h
  ·rename_i c;rw [if_neg c]
 | m+1,l,a,z,h=>by
  rw [rdL] at h ⊢
  split at h
  ·exact absurd rfl h
  ·rename_i c
   rw [if_neg c]
   split at h
   ·rename_i c2;rw [if_pos c2];exact rdL_no' m _ _ _ h
   ·rename_i c2;rw [if_neg c2]
theorem rdL_ok {s:zX} (h:(rdL s 64 [] 0 0).1=0):(rdL s 64 [] 0 0).2.2=0:=rdL_ok' _ _ _ _ h
theorem rdL_no {s:zX} (h:¬ (rdL s 64 [] 0 0).1=0):(rdL s 64 [] 0 0).2.1=[]:=rdL_no' _ _ _ _ h
theorem run_defer {P:Program} {w:World} {ρ:Operand→Value} {o:Oper} {x:Operand} {f:Fn} {fs cs:Array Value} (ho:o.op = .defer { callee:=.value x,args := #[],argTypes := #[] }) (hv:ρ x = .func f fs cs):(execOp ρ o).run P w = .ok (.defer { target:=.fn f cs,args:=fs }) w:=by
 simp [execOp,ho,resolve,hv,Deferred.ofValue]
theorem Qz {P:Program} {fn:Func} {tmps:Array Value} {R R':Ending→World→Prop} (hR:∀ e w,R e w→R' e w):∀ {ds:List Deferred} {u:FrameMode} {w:World},Leaves P fn tmps R ds u w→Leaves P fn tmps R' ds u w
 | [],.returning,w,h=>let ⟨v,h1,h2⟩:=h;⟨v,h1,hR _ _ h2⟩
 | [],.panicking _,w,h=>hR _ _ h
 | [],.run,w,h=>h.elim
 | d :: ds,u,w,h=>by
  obtain ⟨h0,fv,cap,f,args,h1,h2,h3⟩:=h
  refine ⟨h0,fv,cap,f,args,h1,h2,h3.mono fun e u' w' h4=>?_⟩
  cases e with
  | returned v=>exact Qz hR h4
  | panicked ch=>exact Qz hR h4
  | outgrown=>exact hR _ _ h4
end Go.Proofs.YtmlnilkbolcknaaGreatDoor.Pm
