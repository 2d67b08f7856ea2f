/-
  SCORE: a text read: items: walk. (Printed by wip/pm.) | SCORE: a text read: bars and voices: walks. (Printed by wip/pm.) | SCORE: a text read: the literal,the voices: walks. (Printed by wip/pm.) | SCORE: a text read: the whole. (Printed by wip/pm.) | SCORE: the law: both readers read alike. (Printed by wip/pm.) | THE VALUE MACHINE (Open): whatever came in,by its type: numbers,truth values,floats,strings,slices and structs of such,as deep as they are. | What came in,at its types: lists of numbers,lists of such;how much they hold. | TEXTS: pitches and intervals that came in.
-/
import Derived.Test.YtmlnilkbolcknaaGreatDoorJLawSReads5
import Derived.Test.YtmlnilkbolcknaaGreatDoorJLawSReads4
import Derived.Test.YtmlnilkbolcknaaGreatDoorJLawSReads3
import Derived.Test.YtmlnilkbolcknaaGreatDoorJLawSReads2
set_option linter.unusedVariables false
set_option linter.unusedSimpArgs false
set_option linter.deprecated false
set_option maxRecDepth 100000
set_option maxHeartbeats 4000000
namespace Go.Proofs.YtmlnilkbolcknaaGreatDoor.Pm
open Go Go.Proofs.YtmlnilkbolcknaaGreatDoor.Pi
theorem gr_end {s:zX} {lv:Int} {a k:Nat} (ha:a≤s.length) (h0:(yE s lv a k).1=0):Yv s a (yE s lv a k).2.2.1∧(yE s lv a k).2.2.2<k:=by
 rw [jN] at h0 ⊢
 split at h0
 ·rename_i c
  rw [if_pos c]
  have:=zM c
  have hga:=vH s a
  have h2:=grL_end (lv:=lv) (l:=[]) (k:=k) (show qA s a+1≤s.length by omega) h0
  exact ⟨⟨by have:=h2.1.1;omega,h2.1.2⟩,h2.2⟩
 ·cases h0
theorem ritem_step (s:zX) (hs:s.length≤65536) (hr:Rdy s) (lv:Int) (hlv:0≤lv∧lv≤32) (a k:Nat) (ha:a≤s.length) (hk:k≤4095) (ihg:0<k→lv≤31→∀ (b:Nat),b≤s.length→PO Tryz.prog 140 [.opt 0 0,iv lv] [some (98,[sv (st s),nv b,nv (k-1)])] (if (yE s lv b (k-1)).1=0 then .ret (.ssl (zP (yE s lv b (k-1)).2.1) 0 (yE s lv b (k-1)).2.1.length) [some (98,[sv (st s),nv (yE s lv b (k-1)).2.2.1,nv (yE s lv b (k-1)).2.2.2])] else .pan (yY (yE s lv b (k-1)).1 (((yE s lv b (k-1)).2.2.1:Nat):Int)) [none])):PO Tryz.prog 109 [(.opt 0 0),(iv lv)] [some (98,(vB s a k))] (if (qN s lv a k).1=0 then .ret (.agg (gI (qN s lv a k).2.1)) [some (98,(vB s ((qN s lv a k).2.2.1) ((qN s lv a k).2.2.2))),none] else .pan (yY ((qN s lv a k).1) (((qN s lv a k).2.2.1:Nat):Int)) [none]):=by
 refine jk Tryz.func109 rfl (by kernel_rfl) (ZF (Nat.le_of_ble_eq_true rfl) (Nat.le_of_ble_eq_true rfl)) (by kernel_rfl) (l0:=[ps 0 (.opt 0 0),ps 1 (iv lv),pb 0 98 (vB s a k)]) rfl (fun c0 Bor hc0=>?_)
 refine qB<|qH qD [.k2,.n,.k1,.n] [ps 4 (.opt 1 0),pb 1 50 [(iv 0),(iv 0),sn,(iv 0),(iv 0),se,sn]]<|qB<|zC qD 1 [.k3,.d,.n,.r] [pb 0 98 (vB s (qA s a) k)] (zY [0] 17 (qia s a (k:Int) hs (by omega)) oz)<|qB<|qB<|qQ qD [] [.k3,.d,.n,.r] [pb 0 98 (r3 s (qA s a) (((k:Nat):Int)-1))] (oi (((k:Nat):Int)-1) (by omega) oz)<|qB ?_
 have hga:=zR ha
 have hgg:=vH s a
 have hwl:=yV ha
 by_cases h1:(((k:Nat):Int)-1)<0
 ·refine qQ qD (gy 6 2++[(8,.yes true)]) [.k3,.n,.r] [ps 27 (bv true)] (oc (decide_eq_true h1) (oc (decide_eq_true h1) (oc (decide_eq_true h1) oz)))<|qL (b:=true) rfl rfl ?_
  rw [show (qN s lv a k)=(4,zQ,qA s a,0) from by rw [zT,if_pos (by omega)],if_neg (by show ¬ ((4:Int)=0);decide)]
  exact vV qD [(1,.call [0] [(.opt 0 0),(iv 4)] [some (98,(r3 s (qA s a) (((k:Nat):Int)-1)))] (.av (yY 4 (qA s a:Int))) [none])] [] 1 [] (Qx [0] 169 (yT s (qA s a) (((k:Nat):Int)-1) 4) oz) (fun cx_ a_ hI_=>zv hc0 hI_)
 refine qQ qD (gn 6 2++[(8,.yes false)]) [.k3,.n,.r] [ps 27 (bv (decide (31<lv)))] (oc (decide_eq_false h1) (oc (decide_eq_false h1) (oc (decide_eq_false h1) oz))) ?_
 by_cases h2:31<lv
 ·refine qS (decide_eq_true h2) ?_
  rw [show (qN s lv a k)=(4,zQ,qA s a,0) from by rw [zT,if_pos (by omega)],if_neg (by show ¬ ((4:Int)=0);decide)]
  exact vV qD [(1,.call [0] [(.opt 0 0),(iv 4)] [some (98,(r3 s (qA s a) (((k:Nat):Int)-1)))] (.av (yY 4 (qA s a:Int))) [none])] [] 1 [] (Qx [0] 169 (yT s (qA s a) (((k:Nat):Int)-1) 4) oz) (fun cx_ a_ hI_=>zv hc0 hI_)
 refine qR (decide_eq_false h2)<|qF<|qB ?_
 have hk0:¬ (k=0∨31<lv):=by omega
 have hk1:(k:Int)-1=((k-1:Nat):Int):=by omega
 refine qj (Wk.eq (show _=[ps 0 (.opt 0 0),ps 1 (iv lv),ps 4 (.opt 1 0),ps 27 (bv (decide (31<lv))),pb 0 98 (vB s (qA s a) (k-1)),pb 1 50 [(iv 0),(iv 0),sn,(iv 0),(iv 0),se,sn]] from by rw [hk1])) ?_
 refine qH qD [.k3,.n,.d,.k2,.n] [ps 5 (.opt 169 0),pb 169 50 [(iv 0),(iv 1),sn,(iv 0),(iv 0),se,sn]]<|qB<|qB<|zC qD 1 [.k4,.n,.r] [ps 6 (sv (st (qC s a)))] (zY [0] 193 (qej s a ((k-1:Nat):Int) hs hr (by omega)) oz)<|qX<|qB<|qQ qD [(1,.val (.av (.bool (decide ((qC s a)=([45]:TX))))))] [.k5,.n,.r] [ps 38 (bv (decide ((qC s a)=([45]:TX))))] (oc (qv _ _:((st (qC s a)).toList == (st ([45]:TX)).toList)=decide ((qC s a)=([45]:TX))) oz) ?_
 by_cases h3:(qC s a)=([45]:TX)
 ·refine qS (decide_eq_true h3)<|qB ?_
  have hw1:(qC s a).length=1:=by rw [h3];rfl
  refine qQ qD [] [.k1,.d,.k2,.d,.d,.d,.n,.r] [pb 0 98 [(sv (st s)),(iv (((qA s a:Nat):Int)+1)),(nv (k-1))]] (oi (((qA s a:Nat):Int)+1) (by omega) oz)<|qj (Wk.eq (show _=[ps 0 (.opt 0 0),ps 4 (.opt 1 0),ps 5 (.opt 169 0),pb 0 98 (vB s (qA s a+1) (k-1)),pb 1 50 [(iv 0),(iv 0),sn,(iv 0),(iv 0),se,sn],pb 169 50 [(iv 0),(iv 1),sn,(iv 0),(iv 0),se,sn]] from by rfl)) ?_
  refine qH qD [.k5,.d,.n] [pb 169 50 [(iv 2),(iv 1),sn,(iv 0),(iv 0),se,sn]]<|qZ<|qB<|qB ?_
  have hin:qA s a+1≤s.length:=by omega
  have hgi:=zR hin
  by_cases h4:(qP s (qA s a+1) 42)=true
  ·refine zC qD 1 [.k3,.n,.d,.n,.r] [ps 133 (bv true),pb 0 98 (vB s (qA s (qA s a+1)+1) (k-1))] (zY [0] 321 (YO (jW s (qA s a+1) ((k-1:Nat):Int) 42 hs (by omega)) h4) oz)<|qL (b:=true) rfl rfl ?_
   have hlt2:=zM h4
   by_cases h5:(qE s (qA s (qA s a+1)+1)).1=0
   ·refine zC qD 1 [.k3,.d,.d,.n,.k1,.d,.n] [pb 0 98 (vB s ((qE s (qA s (qA s a+1)+1)).2.2) (k-1)),pb 169 50 [(iv 2),(iv ((qE s (qA s (qA s a+1)+1)).2.1)),sn,(iv 0),(iv 0),se,sn]] (zY [0] 337 (jM (vO s (qA s (qA s a+1)+1) ((k-1:Nat):Int) hs hr (by omega)) h5) oz)<|qB<|qB ?_
    have hin2:=(wK (s:=s) (a:=(qA s (qA s a+1)+1)) (by omega)).2
    refine qH qD [.k3,.n,.r] [ps 139 (bv false)]<|qO (b:=false) rfl rfl<|qF<|qB<|qH qD [.d,.k1,.d,.d,.k1,.d,.n,.d] [pb 1 50 [(iv 2),(iv ((qE s (qA s (qA s a+1)+1)).2.1)),sn,(iv 0),(iv 0),se,sn]] ?_
    rw [show (qN s lv a k)=(0,(Qw (.mk 2 1 [] (0,0) [] []) (qE s (qA s (qA s a+1)+1)).2.1),(qE s (qA s (qA s a+1)+1)).2.2,(k-1)) from by rw [zT,if_neg hk0,if_pos h3,zw,if_pos h4,if_pos h5,vI,if_neg (by show ¬ ((2:Int)=1);decide)],if_pos rfl]
    exact qk hc0 [4] [0,1] (hbk:=by exact oc rfl (oz))
   rw [show (qN s lv a k)=((qE s (qA s (qA s a+1)+1)).1,zQ,(qE s (qA s (qA s a+1)+1)).2.2,(k-1)) from by rw [zT,if_neg hk0,if_pos h3,zw,if_pos h4,if_neg h5],if_neg h5]
   exact vV qD [(1,.call [0] [(.opt 0 0)] [some (98,(vB s (qA s (qA s a+1)+1) (k-1)))] (.av (yY ((qE s (qA s (qA s a+1)+1)).1) (((qE s (qA s (qA s a+1)+1)).2.2:Nat):Int))) [none])] [2,3] 1 [] (Qx [0] 337 (jD (vO s (qA s (qA s a+1)+1) ((k-1:Nat):Int) hs hr (by omega)) h5) oz) (fun cx_ a_ hI_=>zv hc0 hI_)
  refine zC qD 1 [.k3,.n,.d,.n,.r] [ps 133 (bv false),pb 0 98 (vB s (qA s (qA s a+1)) (k-1))] (zY [0] 321 (qad (jW s (qA s a+1) ((k-1:Nat):Int) 42 hs (by omega)) h4) oz)<|qO (b:=false) rfl rfl<|qF<|qB<|qB<|qH qD [.k3,.d,.n,.r] [ps 139 (bv false)]<|qO (b:=false) rfl rfl<|qF<|qB<|qH qD [.d,.k1,.d,.d,.k1,.d,.n,.d] [pb 1 50 [(iv 2),(iv 1),sn,(iv 0),(iv 0),se,sn]] ?_
  rw [show (qN s lv a k)=(0,(.mk 2 1 [] (0,0) [] []),(qA s (qA s a+1)),(k-1)) from by rw [zT,if_neg hk0,if_pos h3,zw,if_neg h4,vI,if_neg (by show ¬ ((2:Int)=1);decide)],if_pos rfl]
  exact qk hc0 [4] [0,1] (hbk:=by exact oc rfl (oz))
 refine qR (decide_eq_false h3)<|qB<|zC qD 1 [.k5,.d,.n,.r] [ps 49 (bv (qP s a 126))] (zY [0] 241 (Yw s a ((k-1:Nat):Int) 126 hs (by omega)) oz) ?_
 by_cases h6:(qP s a 126)=true
 ·refine qL (b:=(qP s a 126)) rfl h6<|qB ?_
  have hlt:=zM h6
  refine qQ qD [] [.k1,.d,.k2,.d,.d,.d,.n,.r] [pb 0 98 [(sv (st s)),(iv (((qA s a:Nat):Int)+1)),(nv (k-1))]] (oi (((qA s a:Nat):Int)+1) (by omega) oz)<|qj (Wk.eq (show _=[ps 0 (.opt 0 0),ps 4 (.opt 1 0),ps 5 (.opt 169 0),pb 0 98 (vB s (qA s a+1) (k-1)),pb 1 50 [(iv 0),(iv 0),sn,(iv 0),(iv 0),se,sn],pb 169 50 [(iv 0),(iv 1),sn,(iv 0),(iv 0),se,sn]] from by rfl)) ?_
  refine qH qD [.k5,.d,.n] [pb 169 50 [(iv 3),(iv 1),sn,(iv 0),(iv 0),se,sn]]<|qZ<|qB<|qB ?_
  have hin:qA s a+1≤s.length:=by omega
  have hgi:=zR hin
  by_cases h7:(qP s (qA s a+1) 42)=true
  ·refine zC qD 1 [.k3,.n,.d,.n,.r] [ps 133 (bv true),pb 0 98 (vB s (qA s (qA s a+1)+1) (k-1))] (zY [0] 345 (YO (jW s (qA s a+1) ((k-1:Nat):Int) 42 hs (by omega)) h7) oz)<|qL (b:=true) rfl rfl ?_
   have hlt2:=zM h7
   by_cases h8:(qE s (qA s (qA s a+1)+1)).1=0
   ·refine zC qD 1 [.k3,.d,.d,.n,.k1,.d,.n] [pb 0 98 (vB s ((qE s (qA s (qA s a+1)+1)).2.2) (k-1)),pb 169 50 [(iv 3),(iv ((qE s (qA s (qA s a+1)+1)).2.1)),sn,(iv 0),(iv 0),se,sn]] (zY [0] 361 (jM (vO s (qA s (qA s a+1)+1) ((k-1:Nat):Int) hs hr (by omega)) h8) oz)<|qB<|qB ?_
    have hin2:=(wK (s:=s) (a:=(qA s (qA s a+1)+1)) (by omega)).2
    refine qH qD [.k3,.n,.r] [ps 139 (bv false)]<|qO (b:=false) rfl rfl<|qF<|qB<|qH qD [.d,.k1,.d,.d,.k1,.d,.n,.d] [pb 1 50 [(iv 3),(iv ((qE s (qA s (qA s a+1)+1)).2.1)),sn,(iv 0),(iv 0),se,sn]] ?_
    rw [show (qN s lv a k)=(0,(Qw (.mk 3 1 [] (0,0) [] []) (qE s (qA s (qA s a+1)+1)).2.1),(qE s (qA s (qA s a+1)+1)).2.2,(k-1)) from by rw [zT,if_neg hk0,if_neg h3,if_pos h6,zw,if_pos h7,if_pos h8,vI,if_neg (by show ¬ ((3:Int)=1);decide)],if_pos rfl]
    exact qk hc0 [4] [0,1] (hbk:=by exact oc rfl (oz))
   rw [show (qN s lv a k)=((qE s (qA s (qA s a+1)+1)).1,zQ,(qE s (qA s (qA s a+1)+1)).2.2,(k-1)) from by rw [zT,if_neg hk0,if_neg h3,if_pos h6,zw,if_pos h7,if_neg h8],if_neg h8]
   exact vV qD [(1,.call [0] [(.opt 0 0)] [some (98,(vB s (qA s (qA s a+1)+1) (k-1)))] (.av (yY ((qE s (qA s (qA s a+1)+1)).1) (((qE s (qA s (qA s a+1)+1)).2.2:Nat):Int))) [none])] [2,3] 1 [] (Qx [0] 361 (jD (vO s (qA s (qA s a+1)+1) ((k-1:Nat):Int) hs hr (by omega)) h8) oz) (fun cx_ a_ hI_=>zv hc0 hI_)
  refine zC qD 1 [.k3,.n,.d,.n,.r] [ps 133 (bv false),pb 0 98 (vB s (qA s (qA s a+1)) (k-1))] (zY [0] 345 (qad (jW s (qA s a+1) ((k-1:Nat):Int) 42 hs (by omega)) h7) oz)<|qO (b:=false) rfl rfl<|qF<|qB<|qB<|qH qD [.k3,.d,.n,.r] [ps 139 (bv false)]<|qO (b:=false) rfl rfl<|qF<|qB<|qH qD [.d,.k1,.d,.d,.k1,.d,.n,.d] [pb 1 50 [(iv 3),(iv 1),sn,(iv 0),(iv 0),se,sn]] ?_
  rw [show (qN s lv a k)=(0,(.mk 3 1 [] (0,0) [] []),(qA s (qA s a+1)),(k-1)) from by rw [zT,if_neg hk0,if_neg h3,if_pos h6,zw,if_neg h7,vI,if_neg (by show ¬ ((3:Int)=1);decide)],if_pos rfl]
  exact qk hc0 [4] [0,1] (hbk:=by exact oc rfl (oz))
 refine qO (b:=(qP s a 126)) rfl (Bool.eq_false_iff.2 h6)<|qB<|qQ qD [(1,.val (.av (.bool (decide ((qC s a)=([117,112]:TX))))))] [.k4,.d,.d,.n,.r] [ps 60 (bv (decide ((qC s a)=([117,112]:TX))))] (oc (qv _ _:((st (qC s a)).toList == (st ([117,112]:TX)).toList)=decide ((qC s a)=([117,112]:TX))) oz) ?_
 by_cases h9:(qC s a)=([117,112]:TX)
 ·refine qS (decide_eq_true h9)<|qB ?_
  have hw1:(qC s a).length=2:=by rw [h9];rfl
  refine qQ qD [] [.k4,.d,.d,.n,.r] [pb 0 98 [(sv (st s)),(iv (((qA s a:Nat):Int)+2)),(nv (k-1))]] (oi (((qA s a:Nat):Int)+2) (by omega) oz)<|qj (Wk.eq (show _=[ps 0 (.opt 0 0),ps 1 (iv lv),ps 4 (.opt 1 0),ps 5 (.opt 169 0),pb 0 98 (vB s (qA s a+2) (k-1)),pb 1 50 [(iv 0),(iv 0),sn,(iv 0),(iv 0),se,sn],pb 169 50 [(iv 0),(iv 1),sn,(iv 0),(iv 0),se,sn]] from by rfl)) ?_
  refine qB<|qH qD [.k6,.d,.n] [pb 169 50 [(iv 5),(iv 1),sn,(iv 0),(iv 0),se,sn]]<|qB ?_
  have hwl2:=yV (s:=s) (a:=qA s a+2) (by omega)
  have hgg2:=vH s (qA s a+2)
  refine zC qD 1 [.k4,.n,.d,.n,.r] [ps 7 (sv (st (qC s (qA s a+2)))),pb 0 98 (vB s (qA s (qA s a+2)) (k-1))] (zY [0] 369 (qbg s (qA s a+2) ((k-1:Nat):Int) hs hr (by omega)) oz)<|qB<|yC qD 1 [.k5,.n,.n,.k3,.n] [ps 8 (.opt 425 0),ps 9 (iv ((qY (qC s (qA s a+2))).2)),pb 425 41 [(iv ((qY (qC s (qA s a+2))).1.1)),(iv ((qY (qC s (qA s a+2))).1.2))]] (zO 393 (named_pc (qC s (qA s a+2)) (by omega)) oz)<|qB<|qB<|qH qD [.k7,.n,.r] [ps 79 (bv (!(decide (((qY (qC s (qA s a+2))).2)=0))))] ?_
  by_cases h10:((qY (qC s (qA s a+2))).2)=0
  ·refine qR (bt h10)<|qF<|qB<|qQ qD [] [.k4,.d,.k1,.d,.d,.d,.n,.r] [pb 0 98 [(sv (st s)),(iv (((qA s (qA s a+2):Nat):Int)+(((qC s (qA s a+2)).length:Nat):Int))),(nv (k-1))]] (oi (((qA s (qA s a+2):Nat):Int)+(((qC s (qA s a+2)).length:Nat):Int)) (by omega) oz)<|qj (Wk.eq (show _=[ps 0 (.opt 0 0),ps 1 (iv lv),ps 4 (.opt 1 0),ps 5 (.opt 169 0),ps 8 (.opt 425 0),pb 0 98 (vB s (qA s (qA s a+2)+(qC s (qA s a+2)).length) (k-1)),pb 1 50 [(iv 0),(iv 0),sn,(iv 0),(iv 0),se,sn],pb 169 50 [(iv 5),(iv 1),sn,(iv 0),(iv 0),se,sn],pb 425 41 [(iv ((qY (qC s (qA s a+2))).1.1)),(iv ((qY (qC s (qA s a+2))).1.2))]] from by rfl)) ?_
   refine qB<|qH qD [.k4,.d,.k2,.d,.n,.d] [pb 169 50 [(iv 5),(iv 1),sn,(iv ((qY (qC s (qA s a+2))).1.1)),(iv ((qY (qC s (qA s a+2))).1.2)),se,sn]] ?_
   by_cases h11:(yE s lv (qA s (qA s a+2)+(qC s (qA s a+2)).length) (k-1)).1=0
   ·refine zC qD 2 [.k1,.d,.k2,.d,.n,.k1,.d,.n] [pb 0 98 (vB s ((yE s lv (qA s (qA s a+2)+(qC s (qA s a+2)).length) (k-1)).2.2.1) ((yE s lv (qA s (qA s a+2)+(qC s (qA s a+2)).length) (k-1)).2.2.2)),pb 169 50 [(iv 5),(iv 1),sn,(iv ((qY (qC s (qA s a+2))).1.1)),(iv ((qY (qC s (qA s a+2))).1.2)),se,(.ssl (zP ((yE s lv (qA s (qA s a+2)+(qC s (qA s a+2)).length) (k-1)).2.1)) 0 ((yE s lv (qA s (qA s a+2)+(qC s (qA s a+2)).length) (k-1)).2.1.length))]] (zY [0] 585 (jM (ihg (by omega) (by omega) (qA s (qA s a+2)+(qC s (qA s a+2)).length) (by omega)) h11) oz)<|qZ<|qB<|qB ?_
    have hin:=(gr_end (by omega) h11).1.2
    have hgi:=zR hin
    by_cases h12:(qP s ((yE s lv (qA s (qA s a+2)+(qC s (qA s a+2)).length) (k-1)).2.2.1) 42)=true
    ·refine zC qD 1 [.k3,.n,.d,.n,.r] [ps 133 (bv true),pb 0 98 (vB s (qA s ((yE s lv (qA s (qA s a+2)+(qC s (qA s a+2)).length) (k-1)).2.2.1)+1) ((yE s lv (qA s (qA s a+2)+(qC s (qA s a+2)).length) (k-1)).2.2.2))] (zY [0] 617 (YO (jW s ((yE s lv (qA s (qA s a+2)+(qC s (qA s a+2)).length) (k-1)).2.2.1) (((yE s lv (qA s (qA s a+2)+(qC s (qA s a+2)).length) (k-1)).2.2.2:Nat):Int) 42 hs (by omega)) h12) oz)<|qL (b:=true) rfl rfl ?_
     have hlt2:=zM h12
     by_cases h13:(qE s (qA s ((yE s lv (qA s (qA s a+2)+(qC s (qA s a+2)).length) (k-1)).2.2.1)+1)).1=0
     ·refine zC qD 1 [.k3,.d,.d,.n,.k1,.d,.n] [pb 0 98 (vB s ((qE s (qA s ((yE s lv (qA s (qA s a+2)+(qC s (qA s a+2)).length) (k-1)).2.2.1)+1)).2.2) ((yE s lv (qA s (qA s a+2)+(qC s (qA s a+2)).length) (k-1)).2.2.2)),pb 169 50 [(iv 5),(iv ((qE s (qA s ((yE s lv (qA s (qA s a+2)+(qC s (qA s a+2)).length) (k-1)).2.2.1)+1)).2.1)),sn,(iv ((qY (qC s (qA s a+2))).1.1)),(iv ((qY (qC s (qA s a+2))).1.2)),se,(.ssl (zP ((yE s lv (qA s (qA s a+2)+(qC s (qA s a+2)).length) (k-1)).2.1)) 0 ((yE s lv (qA s (qA s a+2)+(qC s (qA s a+2)).length) (k-1)).2.1.length))]] (zY [0] 633 (jM (vO s (qA s ((yE s lv (qA s (qA s a+2)+(qC s (qA s a+2)).length) (k-1)).2.2.1)+1) (((yE s lv (qA s (qA s a+2)+(qC s (qA s a+2)).length) (k-1)).2.2.2:Nat):Int) hs hr (by omega)) h13) oz)<|qB<|qB ?_
      have hin2:=(wK (s:=s) (a:=(qA s ((yE s lv (qA s (qA s a+2)+(qC s (qA s a+2)).length) (k-1)).2.2.1)+1)) (by omega)).2
      refine qH qD [.k3,.n,.r] [ps 139 (bv false)]<|qO (b:=false) rfl rfl<|qF<|qB<|qH qD [.d,.k1,.d,.d,.k1,.d,.n,.d] [pb 1 50 [(iv 5),(iv ((qE s (qA s ((yE s lv (qA s (qA s a+2)+(qC s (qA s a+2)).length) (k-1)).2.2.1)+1)).2.1)),sn,(iv ((qY (qC s (qA s a+2))).1.1)),(iv ((qY (qC s (qA s a+2))).1.2)),se,(.ssl (zP ((yE s lv (qA s (qA s a+2)+(qC s (qA s a+2)).length) (k-1)).2.1)) 0 ((yE s lv (qA s (qA s a+2)+(qC s (qA s a+2)).length) (k-1)).2.1.length))]] ?_
      rw [show (qN s lv a k)=(0,(Qw (.mk 5 1 [] (qY (qC s (qA s a+2))).1 [] (yE s lv (qA s (qA s a+2)+(qC s (qA s a+2)).length) (k-1)).2.1) (qE s (qA s ((yE s lv (qA s (qA s a+2)+(qC s (qA s a+2)).length) (k-1)).2.2.1)+1)).2.1),(qE s (qA s ((yE s lv (qA s (qA s a+2)+(qC s (qA s a+2)).length) (k-1)).2.2.1)+1)).2.2,(yE s lv (qA s (qA s a+2)+(qC s (qA s a+2)).length) (k-1)).2.2.2) from by rw [zT,if_neg hk0,if_neg h3,if_neg h6,if_pos h9,if_pos h10,if_pos h11,zw,if_pos h12,if_pos h13,vI,if_neg (by show ¬ ((5:Int)=1);decide)],if_pos rfl]
      exact qk hc0 [4] [0,1] (hbk:=by exact oc rfl (oz))
     rw [show (qN s lv a k)=((qE s (qA s ((yE s lv (qA s (qA s a+2)+(qC s (qA s a+2)).length) (k-1)).2.2.1)+1)).1,zQ,(qE s (qA s ((yE s lv (qA s (qA s a+2)+(qC s (qA s a+2)).length) (k-1)).2.2.1)+1)).2.2,(yE s lv (qA s (qA s a+2)+(qC s (qA s a+2)).length) (k-1)).2.2.2) from by rw [zT,if_neg hk0,if_neg h3,if_neg h6,if_pos h9,if_pos h10,if_pos h11,zw,if_pos h12,if_neg h13],if_neg h13]
     exact vV qD [(1,.call [0] [(.opt 0 0)] [some (98,(vB s (qA s ((yE s lv (qA s (qA s a+2)+(qC s (qA s a+2)).length) (k-1)).2.2.1)+1) ((yE s lv (qA s (qA s a+2)+(qC s (qA s a+2)).length) (k-1)).2.2.2)))] (.av (yY ((qE s (qA s ((yE s lv (qA s (qA s a+2)+(qC s (qA s a+2)).length) (k-1)).2.2.1)+1)).1) (((qE s (qA s ((yE s lv (qA s (qA s a+2)+(qC s (qA s a+2)).length) (k-1)).2.2.1)+1)).2.2:Nat):Int))) [none])] [2,3] 1 [] (Qx [0] 633 (jD (vO s (qA s ((yE s lv (qA s (qA s a+2)+(qC s (qA s a+2)).length) (k-1)).2.2.1)+1) (((yE s lv (qA s (qA s a+2)+(qC s (qA s a+2)).length) (k-1)).2.2.2:Nat):Int) hs hr (by omega)) h13) oz) (fun cx_ a_ hI_=>zv hc0 hI_)
    refine zC qD 1 [.k3,.n,.d,.n,.r] [ps 133 (bv false),pb 0 98 (vB s (qA s ((yE s lv (qA s (qA s a+2)+(qC s (qA s a+2)).length) (k-1)).2.2.1)) ((yE s lv (qA s (qA s a+2)+(qC s (qA s a+2)).length) (k-1)).2.2.2))] (zY [0] 617 (qad (jW s ((yE s lv (qA s (qA s a+2)+(qC s (qA s a+2)).length) (k-1)).2.2.1) (((yE s lv (qA s (qA s a+2)+(qC s (qA s a+2)).length) (k-1)).2.2.2:Nat):Int) 42 hs (by omega)) h12) oz)<|qO (b:=false) rfl rfl<|qF<|qB<|qB<|qH qD [.k3,.d,.n,.r] [ps 139 (bv false)]<|qO (b:=false) rfl rfl<|qF<|qB<|qH qD [.d,.k1,.d,.d,.k1,.d,.n,.d] [pb 1 50 [(iv 5),(iv 1),sn,(iv ((qY (qC s (qA s a+2))).1.1)),(iv ((qY (qC s (qA s a+2))).1.2)),se,(.ssl (zP ((yE s lv (qA s (qA s a+2)+(qC s (qA s a+2)).length) (k-1)).2.1)) 0 ((yE s lv (qA s (qA s a+2)+(qC s (qA s a+2)).length) (k-1)).2.1.length))]] ?_
    rw [show (qN s lv a k)=(0,(.mk 5 1 [] (qY (qC s (qA s a+2))).1 [] (yE s lv (qA s (qA s a+2)+(qC s (qA s a+2)).length) (k-1)).2.1),(qA s (yE s lv (qA s (qA s a+2)+(qC s (qA s a+2)).length) (k-1)).2.2.1),(yE s lv (qA s (qA s a+2)+(qC s (qA s a+2)).length) (k-1)).2.2.2) from by rw [zT,if_neg hk0,if_neg h3,if_neg h6,if_pos h9,if_pos h10,if_pos h11,zw,if_neg h12,vI,if_neg (by show ¬ ((5:Int)=1);decide)],if_pos rfl]
    exact qk hc0 [4] [0,1] (hbk:=by exact oc rfl (oz))
   rw [show (qN s lv a k)=((yE s lv (qA s (qA s a+2)+(qC s (qA s a+2)).length) (k-1)).1,zQ,(yE s lv (qA s (qA s a+2)+(qC s (qA s a+2)).length) (k-1)).2.2.1,0) from by rw [zT,if_neg hk0,if_neg h3,if_neg h6,if_pos h9,if_pos h10,if_neg h11],if_neg h11]
   exact vV qD [(2,.call [0] [(.opt 0 0),(iv lv)] [some (98,(vB s (qA s (qA s a+2)+(qC s (qA s a+2)).length) (k-1)))] (.av (yY ((yE s lv (qA s (qA s a+2)+(qC s (qA s a+2)).length) (k-1)).1) (((yE s lv (qA s (qA s a+2)+(qC s (qA s a+2)).length) (k-1)).2.2.1:Nat):Int))) [none])] [3,4] 2 [] (Qx [0] 585 (jD (ihg (by omega) (by omega) (qA s (qA s a+2)+(qC s (qA s a+2)).length) (by omega)) h11) oz) (fun cx_ a_ hI_=>zv hc0 hI_)
  refine qS (bf h10) ?_
  rw [show (qN s lv a k)=((qY (qC s (qA s a+2))).2,zQ,qA s (qA s a+2),0) from by rw [zT,if_neg hk0,if_neg h3,if_neg h6,if_pos h9,if_neg h10],if_neg h10]
  exact vV qD [(2,.call [0] [(.opt 0 0),(iv ((qY (qC s (qA s a+2))).2))] [some (98,(vB s (qA s (qA s a+2)) (k-1)))] (.av (yY ((qY (qC s (qA s a+2))).2) (qA s (qA s a+2):Int))) [none])] [] 2 [] (Qx [0] 481 (yT s (qA s (qA s a+2)) ((k-1:Nat):Int) ((qY (qC s (qA s a+2))).2)) oz) (fun cx_ a_ hI_=>zv hc0 hI_)
 refine qR (decide_eq_false h9)<|qB<|zC qD 1 [.k4,.d,.n,.r] [ps 98 (bv (qP s a 91))] (zY [0] 289 (Yw s a ((k-1:Nat):Int) 91 hs (by omega)) oz) ?_
 by_cases h14:(qP s a 91)=true
 ·refine qL (b:=(qP s a 91)) rfl h14<|qB<|qH qD [.k4,.d,.k2,.d,.n] [pb 169 50 [(iv 4),(iv 1),sn,(iv 0),(iv 0),se,sn]] ?_
  by_cases h15:(yE s lv (qA s a) (k-1)).1=0
  ·refine zC qD 2 [.k1,.d,.k2,.d,.n,.k1,.d,.n] [pb 0 98 (vB s ((yE s lv (qA s a) (k-1)).2.2.1) ((yE s lv (qA s a) (k-1)).2.2.2)),pb 169 50 [(iv 4),(iv 1),sn,(iv 0),(iv 0),se,(.ssl (zP ((yE s lv (qA s a) (k-1)).2.1)) 0 ((yE s lv (qA s a) (k-1)).2.1.length))]] (zY [0] 337 (jM (ihg (by omega) (by omega) (qA s a) (by omega)) h15) oz)<|qZ<|qB<|qB ?_
   have hin:=(gr_end (by omega) h15).1.2
   have hgi:=zR hin
   by_cases h16:(qP s ((yE s lv (qA s a) (k-1)).2.2.1) 42)=true
   ·refine zC qD 1 [.k3,.n,.d,.n,.r] [ps 133 (bv true),pb 0 98 (vB s (qA s ((yE s lv (qA s a) (k-1)).2.2.1)+1) ((yE s lv (qA s a) (k-1)).2.2.2))] (zY [0] 369 (YO (jW s ((yE s lv (qA s a) (k-1)).2.2.1) (((yE s lv (qA s a) (k-1)).2.2.2:Nat):Int) 42 hs (by omega)) h16) oz)<|qL (b:=true) rfl rfl ?_
    have hlt2:=zM h16
    by_cases h17:(qE s (qA s ((yE s lv (qA s a) (k-1)).2.2.1)+1)).1=0
    ·refine zC qD 1 [.k3,.d,.d,.n,.k1,.d,.n] [pb 0 98 (vB s ((qE s (qA s ((yE s lv (qA s a) (k-1)).2.2.1)+1)).2.2) ((yE s lv (qA s a) (k-1)).2.2.2)),pb 169 50 [(iv 4),(iv ((qE s (qA s ((yE s lv (qA s a) (k-1)).2.2.1)+1)).2.1)),sn,(iv 0),(iv 0),se,(.ssl (zP ((yE s lv (qA s a) (k-1)).2.1)) 0 ((yE s lv (qA s a) (k-1)).2.1.length))]] (zY [0] 385 (jM (vO s (qA s ((yE s lv (qA s a) (k-1)).2.2.1)+1) (((yE s lv (qA s a) (k-1)).2.2.2:Nat):Int) hs hr (by omega)) h17) oz)<|qB<|qB ?_
     have hin2:=(wK (s:=s) (a:=(qA s ((yE s lv (qA s a) (k-1)).2.2.1)+1)) (by omega)).2
     refine qH qD [.k3,.n,.r] [ps 139 (bv false)]<|qO (b:=false) rfl rfl<|qF<|qB<|qH qD [.d,.k1,.d,.d,.k1,.d,.n,.d] [pb 1 50 [(iv 4),(iv ((qE s (qA s ((yE s lv (qA s a) (k-1)).2.2.1)+1)).2.1)),sn,(iv 0),(iv 0),se,(.ssl (zP ((yE s lv (qA s a) (k-1)).2.1)) 0 ((yE s lv (qA s a) (k-1)).2.1.length))]] ?_
     rw [show (qN s lv a k)=(0,(Qw (.mk 4 1 [] (0,0) [] (yE s lv (qA s a) (k-1)).2.1) (qE s (qA s ((yE s lv (qA s a) (k-1)).2.2.1)+1)).2.1),(qE s (qA s ((yE s lv (qA s a) (k-1)).2.2.1)+1)).2.2,(yE s lv (qA s a) (k-1)).2.2.2) from by rw [zT,if_neg hk0,if_neg h3,if_neg h6,if_neg h9,if_pos h14,if_pos h15,zw,if_pos h16,if_pos h17,vI,if_neg (by show ¬ ((4:Int)=1);decide)],if_pos rfl]
     exact qk hc0 [4] [0,1] (hbk:=by exact oc rfl (oz))
    rw [show (qN s lv a k)=((qE s (qA s ((yE s lv (qA s a) (k-1)).2.2.1)+1)).1,zQ,(qE s (qA s ((yE s lv (qA s a) (k-1)).2.2.1)+1)).2.2,(yE s lv (qA s a) (k-1)).2.2.2) from by rw [zT,if_neg hk0,if_neg h3,if_neg h6,if_neg h9,if_pos h14,if_pos h15,zw,if_pos h16,if_neg h17],if_neg h17]
    exact vV qD [(1,.call [0] [(.opt 0 0)] [some (98,(vB s (qA s ((yE s lv (qA s a) (k-1)).2.2.1)+1) ((yE s lv (qA s a) (k-1)).2.2.2)))] (.av (yY ((qE s (qA s ((yE s lv (qA s a) (k-1)).2.2.1)+1)).1) (((qE s (qA s ((yE s lv (qA s a) (k-1)).2.2.1)+1)).2.2:Nat):Int))) [none])] [2,3] 1 [] (Qx [0] 385 (jD (vO s (qA s ((yE s lv (qA s a) (k-1)).2.2.1)+1) (((yE s lv (qA s a) (k-1)).2.2.2:Nat):Int) hs hr (by omega)) h17) oz) (fun cx_ a_ hI_=>zv hc0 hI_)
   refine zC qD 1 [.k3,.n,.d,.n,.r] [ps 133 (bv false),pb 0 98 (vB s (qA s ((yE s lv (qA s a) (k-1)).2.2.1)) ((yE s lv (qA s a) (k-1)).2.2.2))] (zY [0] 369 (qad (jW s ((yE s lv (qA s a) (k-1)).2.2.1) (((yE s lv (qA s a) (k-1)).2.2.2:Nat):Int) 42 hs (by omega)) h16) oz)<|qO (b:=false) rfl rfl<|qF<|qB<|qB<|qH qD [.k3,.d,.n,.r] [ps 139 (bv false)]<|qO (b:=false) rfl rfl<|qF<|qB<|qH qD [.d,.k1,.d,.d,.k1,.d,.n,.d] [pb 1 50 [(iv 4),(iv 1),sn,(iv 0),(iv 0),se,(.ssl (zP ((yE s lv (qA s a) (k-1)).2.1)) 0 ((yE s lv (qA s a) (k-1)).2.1.length))]] ?_
   rw [show (qN s lv a k)=(0,(.mk 4 1 [] (0,0) [] (yE s lv (qA s a) (k-1)).2.1),(qA s (yE s lv (qA s a) (k-1)).2.2.1),(yE s lv (qA s a) (k-1)).2.2.2) from by rw [zT,if_neg hk0,if_neg h3,if_neg h6,if_neg h9,if_pos h14,if_pos h15,zw,if_neg h16,vI,if_neg (by show ¬ ((4:Int)=1);decide)],if_pos rfl]
   exact qk hc0 [4] [0,1] (hbk:=by exact oc rfl (oz))
  rw [show (qN s lv a k)=((yE s lv (qA s a) (k-1)).1,zQ,(yE s lv (qA s a) (k-1)).2.2.1,0) from by rw [zT,if_neg hk0,if_neg h3,if_neg h6,if_neg h9,if_pos h14,if_neg h15],if_neg h15]
  exact vV qD [(2,.call [0] [(.opt 0 0),(iv lv)] [some (98,(vB s (qA s a) (k-1)))] (.av (yY ((yE s lv (qA s a) (k-1)).1) (((yE s lv (qA s a) (k-1)).2.2.1:Nat):Int))) [none])] [3,4] 2 [] (Qx [0] 337 (jD (ihg (by omega) (by omega) (qA s a) (by omega)) h15) oz) (fun cx_ a_ hI_=>zv hc0 hI_)
 refine qO (b:=(qP s a 91)) rfl (Bool.eq_false_iff.2 h14)<|qB<|zC qD 1 [.k1,.d,.k2,.d,.n,.r] [ps 106 (bv (qP s a 60))] (zY [0] 313 (Yw s a ((k-1:Nat):Int) 60 hs (by omega)) oz) ?_
 by_cases h18:(qP s a 60)=true
 ·refine qL (b:=(qP s a 60)) rfl h18<|qB ?_
  have hlt:=zM h18
  refine qQ qD [] [.k3,.d,.d,.n,.r] [pb 0 98 [(sv (st s)),(iv (((qA s a:Nat):Int)+1)),(nv (k-1))]] (oi (((qA s a:Nat):Int)+1) (by omega) oz)<|qj (Wk.eq (show _=[ps 0 (.opt 0 0),ps 4 (.opt 1 0),ps 5 (.opt 169 0),pb 0 98 (vB s (qA s a+1) (k-1)),pb 1 50 [(iv 0),(iv 0),sn,(iv 0),(iv 0),se,sn],pb 169 50 [(iv 0),(iv 1),sn,(iv 0),(iv 0),se,sn]] from by rfl)) ?_
  refine qB<|qH qD [.k5,.d,.n] [pb 169 50 [(iv 1),(iv 1),sn,(iv 0),(iv 0),se,sn]]<|qX<|qj (Wk.nilc (B:=50) (cells:=[(iv 1),(iv 1),sn,(iv 0),(iv 0),se,sn]) 169 2 52 (by kernel_rfl) rfl)<|qj (Wk.less (l':=[ps 0 (.opt 0 0),ps 4 (.opt 1 0),ps 5 (.opt 169 0),pb 0 98 (vB s (qA s a+1) (k-1)),pb 1 50 [(iv 0),(iv 0),sn,(iv 0),(iv 0),se,sn],pb 169 50 [(iv 1),(iv 1),(.osl 409 0 0),(iv 0),(iv 0),se,sn],pb 409 52 []]) 410 (by kernel_rfl) (by kernel_rfl)) ?_
  have hlt1:qA s a+1≤s.length:=hlt
  refine qj (Wk.eq (show _=[ps 0 (.opt 0 0),ps 4 (.opt 1 0),ps 5 (.opt 169 0),pb 0 98 (vB s (qA s a+1) (k-1)),pb 1 50 [(iv 0),(iv 0),sn,(iv 0),(iv 0),se,sn],pb 169 50 [(iv 1),(iv 1),(.osl 409 0 (([]:List Pt).length)),(iv 0),(iv 0),se,sn],pb 409 52 (wA ([]:List Pt))] from by rfl)) ?_
  refine zy (α:={x:List Pt × Nat // x.2≤s.length∧x.1.length≤16∧Yx s (16-x.1.length) x.1 x.2=Yx s 16 [] (qA s a+1)}) (fun x=>[ps 0 (.opt 0 0),ps 4 (.opt 1 0),ps 5 (.opt 2 0),pb 0 98 (vB s x.1.2 (k-1)),pb 1 50 [(iv 0),(iv 0),sn,(iv 0),(iv 0),se,sn],pb 2 50 [(iv 1),(iv 1),(.osl 3 0 x.1.1.length),(iv 0),(iv 0),se,sn],pb 3 52 (wA x.1.1)]) (fun x=>16-x.1.1.length) 4 ⟨([],qA s a+1),⟨hlt1,Nat.zero_le _,rfl⟩⟩ (Wk.ren3 _ 1 hc0 [0,1,169,409] [(kb 3,(wA ([]:List Pt)))] (oc (wS _) (oz)) (by kernel_rfl) rfl rfl (by kernel_rfl) (by kernel_rfl)) ?_
  rintro ⟨⟨us,b⟩,⟨hb,hp16,hc⟩⟩
  dsimp only at hb hp16 hc
  refine qX<|qB<|qB<|zD qD [] [ps 0 (.opt 0 0),ps 4 (.opt 1 0),ps 5 (.opt 2 0),ps 120 (bv (decide (((us.length:Nat):Int)=16))),pb 0 98 (vB s b (k-1)),pb 1 50 [(iv 0),(iv 0),sn,(iv 0),(iv 0),se,sn],pb 2 50 [(iv 1),(iv 1),(.osl 3 0 us.length),(iv 0),(iv 0),se,sn],pb 3 52 (wA us)] (oz) ?_
  by_cases h19:(us.length:Int)=16
  ·refine qS (decide_eq_true h19) ?_
   rw [show (qN s lv a k)=(5,zQ,b,0) from by rw [zT,if_neg hk0,if_neg h3,if_neg h6,if_neg h9,if_neg h14,if_pos h18,← hc,qky (by omega),if_neg (by show ¬ ((5:Int)=0);decide)],if_neg (by show ¬ ((5:Int)=0);decide)]
   exact vV qD [(1,.call [0] [(.opt 0 0),(iv 5)] [some (98,(vB s b (k-1)))] (.av (yY 5 (b:Int))) [none])] [] 1 [] (Qx [0] 44 (yT s b ((k-1:Nat):Int) 5) oz) (fun cx_ a_ hI_=>wH (zv hc0 hI_))
  refine qR (decide_eq_false h19)<|qF<|qB ?_
  by_cases h20:(qJ s b).1=0
  ·refine wC qD [(3,.call [0] [(.opt 0 0)] [some (98,(vB s b (k-1)))] (.agg [(iv ((qJ s b).2.1.1)),(iv ((qJ s b).2.1.2.1)),(iv ((qJ s b).2.1.2.2))]) [some (98,(vB s ((qJ s b).2.2) (k-1))),none]),(5,.app none (some (wA (us++[((qJ s b).2.1.1,(qJ s b).2.1.2.1,(qJ s b).2.1.2.2)]))))] (VB [(0,0),(0,1),(0,0),(2,1),(2,2),(0,5),(0,6),(0,7)]) [([246],[10]),([248],[5,246]),([250],[0]),([252,1,121],[1,250]),([254,137],[252]),([256,7,153],[7,137,248,254]),([258],[10]),([5],[5,256,258])] [.k3,.d,.d,.n,.k1,.d,.n,.d,.n] [pb 0 98 (vB s ((qJ s b).2.2) (k-1)),pb 2 50 [(iv 1),(iv 1),(.osl 76 0 (us.length+1)),(iv 0),(iv 0),se,sn],pb 76 52 (wA (us++[((qJ s b).2.1.1,(qJ s b).2.1.2.1,(qJ s b).2.1.2.2)]))] (zY [0] 60 (jM (WQ s b ((k-1:Nat):Int) hs hr (by omega)) h20) (oc (qdj _:((wA us)).length=us.length*3) (oc (by omega:(us.length+1)*24≤140737488355328∧us.length+1≤9223372036854775807) (oc ((qbq ptC us [((qJ s b).2.1.1,(qJ s b).2.1.2.1,(qJ s b).2.1.2.2)]).symm:(wA us)++[(iv ((qJ s b).2.1.1)),(iv ((qJ s b).2.1.2.1)),(iv ((qJ s b).2.1.2.2))]=(wA (us++[((qJ s b).2.1.1,(qJ s b).2.1.2.1,(qJ s b).2.1.2.2)]))) oz))))<|qB ?_
   have hpe:=VE hb h20
   by_cases h21:(qP s ((qJ s b).2.2) 62)=true
   ·refine zC qD 1 [.k3,.n,.d,.n,.r] [ps 131 (bv true),pb 0 98 (vB s (qA s ((qJ s b).2.2)+1) (k-1))] (zY [0] 108 (YO (jW s ((qJ s b).2.2) ((k-1:Nat):Int) 62 hs (by omega)) h21) oz)<|qL (b:=true) rfl rfl<|zI rfl rfl<|qZ<|qB<|qB ?_
    have hl62:=zM h21
    have hin:qA s ((qJ s b).2.2)+1≤s.length:=by omega
    have hgi:=zR hin
    by_cases h22:(qP s (qA s ((qJ s b).2.2)+1) 42)=true
    ·refine zC qD 1 [.k3,.d,.n,.d,.n,.r] [ps 133 (bv true),pb 0 98 (vB s (qA s (qA s ((qJ s b).2.2)+1)+1) (k-1))] (zY [0] 124 (YO (jW s (qA s ((qJ s b).2.2)+1) ((k-1:Nat):Int) 42 hs (by omega)) h22) oz)<|qL (b:=true) rfl rfl ?_
     have hlt2:=zM h22
     by_cases h23:(qE s (qA s (qA s ((qJ s b).2.2)+1)+1)).1=0
     ·refine zC qD 1 [.k3,.d,.d,.n,.k1,.d,.n,.r] [pb 0 98 (vB s ((qE s (qA s (qA s ((qJ s b).2.2)+1)+1)).2.2) (k-1)),pb 2 50 [(iv 1),(iv ((qE s (qA s (qA s ((qJ s b).2.2)+1)+1)).2.1)),(.osl 76 0 (us.length+1)),(iv 0),(iv 0),se,sn]] (zY [0] 140 (jM (vO s (qA s (qA s ((qJ s b).2.2)+1)+1) ((k-1:Nat):Int) hs hr (by omega)) h23) oz)<|qB<|qB ?_
      have hin2:=(wK (s:=s) (a:=(qA s (qA s ((qJ s b).2.2)+1)+1)) (by omega)).2
      refine qH qD [.k3,.n,.r] [ps 139 (bv true)]<|qL (b:=true) rfl rfl ?_
      by_cases h24:(zA s ((qE s (qA s (qA s ((qJ s b).2.2)+1)+1)).2.2)).1=0
      ·refine zC qD 1 [.d,.k2,.d,.d,.n,.k1,.d,.n,.r] [pb 0 98 (vB s ((zA s ((qE s (qA s (qA s ((qJ s b).2.2)+1)+1)).2.2)).2.2) (k-1)),pb 2 50 [(iv 1),(iv ((qE s (qA s (qA s ((qJ s b).2.2)+1)+1)).2.1)),(.osl 76 0 (us.length+1)),(iv 0),(iv 0),(sv (st ((zA s ((qE s (qA s (qA s ((qJ s b).2.2)+1)+1)).2.2)).2.1))),sn]] (zY [0] 196 (jM (QZ s ((qE s (qA s (qA s ((qJ s b).2.2)+1)+1)).2.2) ((k-1:Nat):Int) hs hr (by omega)) h24) oz)<|qB<|qH qD [.k1,.d,.k1,.d,.n,.d,.r] [pb 1 50 [(iv 1),(iv ((qE s (qA s (qA s ((qJ s b).2.2)+1)+1)).2.1)),(.osl 76 0 (us.length+1)),(iv 0),(iv 0),(sv (st ((zA s ((qE s (qA s (qA s ((qJ s b).2.2)+1)+1)).2.2)).2.1))),sn]] ?_
       rw [show (qN s lv a k)=(0,(setL (Qw (.mk 1 1 (us++[(qJ s b).2.1]) (0,0) [] []) (qE s (qA s (qA s ((qJ s b).2.2)+1)+1)).2.1) (zA s ((qE s (qA s (qA s ((qJ s b).2.2)+1)+1)).2.2)).2.1),(zA s ((qE s (qA s (qA s ((qJ s b).2.2)+1)+1)).2.2)).2.2,(k-1)) from by rw [zT,if_neg hk0,if_neg h3,if_neg h6,if_neg h9,if_neg h14,if_pos h18,← hc,YQ (by omega),if_pos h20,if_pos h21,if_pos rfl,zw,if_pos h22,if_pos h23,vI,if_pos (by rfl),if_pos h24],if_pos rfl]
       refine qj (Wk.eq (show _=[ps 4 (.opt 1 0),pb 0 98 (vB s ((zA s ((qE s (qA s (qA s ((qJ s b).2.2)+1)+1)).2.2)).2.2) (k-1)),pb 1 50 [(iv 1),(iv ((qE s (qA s (qA s ((qJ s b).2.2)+1)+1)).2.1)),(.osl 76 0 ((us++[(qJ s b).2.1]).length)),(iv 0),(iv 0),(sv (st ((zA s ((qE s (qA s (qA s ((qJ s b).2.2)+1)+1)).2.2)).2.1))),sn],pb 76 52 (wA (us++[(qJ s b).2.1]))] from by rw [List.length_append];rfl)) ?_
       refine qj (Wk.frz (l':=[ps 4 (.opt 1 0),pb 0 98 (vB s ((zA s ((qE s (qA s (qA s ((qJ s b).2.2)+1)+1)).2.2)).2.2) (k-1)),pb 1 50 [(iv 1),(iv ((qE s (qA s (qA s ((qJ s b).2.2)+1)+1)).2.1)),(.ssl (wA (us++[(qJ s b).2.1])) 0 ((us++[(qJ s b).2.1]).length)),(iv 0),(iv 0),(sv (st ((zA s ((qE s (qA s (qA s ((qJ s b).2.2)+1)+1)).2.2)).2.1))),sn],(kb 76,none)]) 76 (T:=52) (cs:=(wA (us++[(qJ s b).2.1]))) (by kernel_rfl) (wS _) (by kernel_rfl)) ?_
       exact qk hc0 [4] [0,1] (hbk:=by exact oc rfl (oz))
      rw [show (qN s lv a k)=((zA s ((qE s (qA s (qA s ((qJ s b).2.2)+1)+1)).2.2)).1,zQ,(zA s ((qE s (qA s (qA s ((qJ s b).2.2)+1)+1)).2.2)).2.2,(k-1)) from by rw [zT,if_neg hk0,if_neg h3,if_neg h6,if_neg h9,if_neg h14,if_pos h18,← hc,YQ (by omega),if_pos h20,if_pos h21,if_pos rfl,zw,if_pos h22,if_pos h23,vI,if_pos (by rfl),if_neg h24],if_neg h24]
      exact vV qD [(1,.call [0] [(.opt 0 0)] [some (98,(vB s ((qE s (qA s (qA s ((qJ s b).2.2)+1)+1)).2.2) (k-1)))] (.av (yY ((zA s ((qE s (qA s (qA s ((qJ s b).2.2)+1)+1)).2.2)).1) (((zA s ((qE s (qA s (qA s ((qJ s b).2.2)+1)+1)).2.2)).2.2:Nat):Int))) [none])] [2,3] 1 [] (Qx [0] 196 (jD (QZ s ((qE s (qA s (qA s ((qJ s b).2.2)+1)+1)).2.2) ((k-1:Nat):Int) hs hr (by omega)) h24) oz) (fun cx_ a_ hI_=>zv hc0 hI_)
     rw [show (qN s lv a k)=((qE s (qA s (qA s ((qJ s b).2.2)+1)+1)).1,zQ,(qE s (qA s (qA s ((qJ s b).2.2)+1)+1)).2.2,(k-1)) from by rw [zT,if_neg hk0,if_neg h3,if_neg h6,if_neg h9,if_neg h14,if_pos h18,← hc,YQ (by omega),if_pos h20,if_pos h21,if_pos rfl,zw,if_pos h22,if_neg h23],if_neg h23]
     exact vV qD [(1,.call [0] [(.opt 0 0)] [some (98,(vB s (qA s (qA s ((qJ s b).2.2)+1)+1) (k-1)))] (.av (yY ((qE s (qA s (qA s ((qJ s b).2.2)+1)+1)).1) (((qE s (qA s (qA s ((qJ s b).2.2)+1)+1)).2.2:Nat):Int))) [none])] [2,3] 1 [] (Qx [0] 140 (jD (vO s (qA s (qA s ((qJ s b).2.2)+1)+1) ((k-1:Nat):Int) hs hr (by omega)) h23) oz) (fun cx_ a_ hI_=>zv hc0 hI_)
    refine zC qD 1 [.k3,.d,.n,.d,.n,.r] [ps 133 (bv false),pb 0 98 (vB s (qA s (qA s ((qJ s b).2.2)+1)) (k-1))] (zY [0] 124 (qad (jW s (qA s ((qJ s b).2.2)+1) ((k-1:Nat):Int) 42 hs (by omega)) h22) oz)<|qO (b:=false) rfl rfl<|qF<|qB<|qB<|qH qD [.k3,.d,.n,.r] [ps 139 (bv true)]<|qL (b:=true) rfl rfl ?_
    by_cases h25:(zA s (qA s (qA s ((qJ s b).2.2)+1))).1=0
    ·refine zC qD 1 [.d,.k2,.d,.d,.n,.k1,.d,.n,.r] [pb 0 98 (vB s ((zA s (qA s (qA s ((qJ s b).2.2)+1))).2.2) (k-1)),pb 2 50 [(iv 1),(iv 1),(.osl 76 0 (us.length+1)),(iv 0),(iv 0),(sv (st ((zA s (qA s (qA s ((qJ s b).2.2)+1))).2.1))),sn]] (zY [0] 164 (jM (QZ s (qA s (qA s ((qJ s b).2.2)+1)) ((k-1:Nat):Int) hs hr (by omega)) h25) oz)<|qB<|qH qD [.k1,.d,.k1,.d,.n,.d,.r] [pb 1 50 [(iv 1),(iv 1),(.osl 76 0 (us.length+1)),(iv 0),(iv 0),(sv (st ((zA s (qA s (qA s ((qJ s b).2.2)+1))).2.1))),sn]] ?_
     rw [show (qN s lv a k)=(0,(setL (.mk 1 1 (us++[(qJ s b).2.1]) (0,0) [] []) (zA s (qA s (qA s ((qJ s b).2.2)+1))).2.1),(zA s (qA s (qA s ((qJ s b).2.2)+1))).2.2,(k-1)) from by rw [zT,if_neg hk0,if_neg h3,if_neg h6,if_neg h9,if_neg h14,if_pos h18,← hc,YQ (by omega),if_pos h20,if_pos h21,if_pos rfl,zw,if_neg h22,vI,if_pos (by rfl),if_pos h25],if_pos rfl]
     refine qj (Wk.eq (show _=[ps 4 (.opt 1 0),pb 0 98 (vB s ((zA s (qA s (qA s ((qJ s b).2.2)+1))).2.2) (k-1)),pb 1 50 [(iv 1),(iv 1),(.osl 76 0 ((us++[(qJ s b).2.1]).length)),(iv 0),(iv 0),(sv (st ((zA s (qA s (qA s ((qJ s b).2.2)+1))).2.1))),sn],pb 76 52 (wA (us++[(qJ s b).2.1]))] from by rw [List.length_append];rfl)) ?_
     refine qj (Wk.frz (l':=[ps 4 (.opt 1 0),pb 0 98 (vB s ((zA s (qA s (qA s ((qJ s b).2.2)+1))).2.2) (k-1)),pb 1 50 [(iv 1),(iv 1),(.ssl (wA (us++[(qJ s b).2.1])) 0 ((us++[(qJ s b).2.1]).length)),(iv 0),(iv 0),(sv (st ((zA s (qA s (qA s ((qJ s b).2.2)+1))).2.1))),sn],(kb 76,none)]) 76 (T:=52) (cs:=(wA (us++[(qJ s b).2.1]))) (by kernel_rfl) (wS _) (by kernel_rfl)) ?_
     exact qk hc0 [4] [0,1] (hbk:=by exact oc rfl (oz))
    rw [show (qN s lv a k)=((zA s (qA s (qA s ((qJ s b).2.2)+1))).1,zQ,(zA s (qA s (qA s ((qJ s b).2.2)+1))).2.2,(k-1)) from by rw [zT,if_neg hk0,if_neg h3,if_neg h6,if_neg h9,if_neg h14,if_pos h18,← hc,YQ (by omega),if_pos h20,if_pos h21,if_pos rfl,zw,if_neg h22,vI,if_pos (by rfl),if_neg h25],if_neg h25]
    exact vV qD [(1,.call [0] [(.opt 0 0)] [some (98,(vB s (qA s (qA s ((qJ s b).2.2)+1)) (k-1)))] (.av (yY ((zA s (qA s (qA s ((qJ s b).2.2)+1))).1) (((zA s (qA s (qA s ((qJ s b).2.2)+1))).2.2:Nat):Int))) [none])] [2,3] 1 [] (Qx [0] 164 (jD (QZ s (qA s (qA s ((qJ s b).2.2)+1)) ((k-1:Nat):Int) hs hr (by omega)) h25) oz) (fun cx_ a_ hI_=>zv hc0 hI_)
   refine zC qD 1 [.k3,.n,.d,.n,.r] [ps 131 (bv false),pb 0 98 (vB s (qA s ((qJ s b).2.2)) (k-1))] (zY [0] 108 (qad (jW s ((qJ s b).2.2) ((k-1:Nat):Int) 62 hs (by omega)) h21) oz)<|qO (b:=false) rfl rfl<|qF<|qZ ?_
   exact qq ⟨(us++[(qJ s b).2.1],qA s (qJ s b).2.2),⟨zR hpe.2,by simp only [List.length_append,List.length_singleton];omega,by rw [YQ (by omega),if_pos h20,if_neg h21] at hc;rw [List.length_append];exact hc⟩⟩ (Wk.trans (Wk.eq (show _=[ps 0 (.opt 0 0),ps 4 (.opt 1 0),ps 5 (.opt 2 0),ps 131 (bv false),pb 0 98 (vB s (qA s ((qJ s b).2.2)) (k-1)),pb 1 50 [(iv 0),(iv 0),sn,(iv 0),(iv 0),se,sn],pb 2 50 [(iv 1),(iv 1),(.osl 76 0 ((us++[(qJ s b).2.1]).length)),(iv 0),(iv 0),se,sn],pb 76 52 (wA (us++[(qJ s b).2.1]))] from by rw [List.length_append];rfl)) (Wk.ren3 _ 1 hc0 [0,1,2,76] [(kb 3,(wA (us++[(qJ s b).2.1])))] (oc (wS _) (oz)) (by kernel_rfl) rfl rfl (by kernel_rfl) (by kernel_rfl))) (show 16-(us++[(qJ s b).2.1]).length<16-us.length from by simp only [List.length_append,List.length_singleton];omega)
  rw [show (qN s lv a k)=((qJ s b).1,zQ,(qJ s b).2.2,0) from by rw [zT,if_neg hk0,if_neg h3,if_neg h6,if_neg h9,if_neg h14,if_pos h18,← hc,YQ (by omega),if_neg h20,if_neg h20],if_neg h20]
  exact vV qD [(3,.call [0] [(.opt 0 0)] [some (98,(vB s b (k-1)))] (.av (yY ((qJ s b).1) (((qJ s b).2.2:Nat):Int))) [none])] [4,5,6,7] 3 [] (Qx [0] 60 (jD (WQ s b ((k-1:Nat):Int) hs hr (by omega)) h20) oz) (fun cx_ a_ hI_=>wH (zv hc0 hI_))
 refine qO (b:=(qP s a 60)) rfl (Bool.eq_false_iff.2 h18)<|qB<|qH qD [.k3,.d,.k2,.d,.n] [pb 169 50 [(iv 1),(iv 1),sn,(iv 0),(iv 0),se,sn]] ?_
 by_cases h26:(qJ s (qA s a)).1=0
 ·refine zC qD 1 [.k3,.d,.n,.k1,.d,.n,.n] [pb 0 98 (vB s ((qJ s (qA s a)).2.2) (k-1)),pb 169 50 [(iv 1),(iv 1),(.osl 361 0 1),(iv 0),(iv 0),se,sn],pb 361 52 [(iv ((qJ s (qA s a)).2.1.1)),(iv ((qJ s (qA s a)).2.1.2.1)),(iv ((qJ s (qA s a)).2.1.2.2))]] (zY [0] 353 (jM (WQ s (qA s a) ((k-1:Nat):Int) hs hr (by omega)) h26) oz)<|qZ<|qB<|qB ?_
  have hin:=(VE (by omega) h26).2
  have hgi:=zR hin
  by_cases h27:(qP s ((qJ s (qA s a)).2.2) 42)=true
  ·refine zC qD 1 [.k3,.n,.d,.n,.r] [ps 133 (bv true),pb 0 98 (vB s (qA s ((qJ s (qA s a)).2.2)+1) (k-1))] (zY [0] 393 (YO (jW s ((qJ s (qA s a)).2.2) ((k-1:Nat):Int) 42 hs (by omega)) h27) oz)<|qL (b:=true) rfl rfl ?_
   have hlt2:=zM h27
   by_cases h28:(qE s (qA s ((qJ s (qA s a)).2.2)+1)).1=0
   ·refine zC qD 1 [.k3,.d,.d,.n,.k1,.d,.n,.r] [pb 0 98 (vB s ((qE s (qA s ((qJ s (qA s a)).2.2)+1)).2.2) (k-1)),pb 169 50 [(iv 1),(iv ((qE s (qA s ((qJ s (qA s a)).2.2)+1)).2.1)),(.osl 361 0 1),(iv 0),(iv 0),se,sn]] (zY [0] 409 (jM (vO s (qA s ((qJ s (qA s a)).2.2)+1) ((k-1:Nat):Int) hs hr (by omega)) h28) oz)<|qB<|qB ?_
    have hin2:=(wK (s:=s) (a:=(qA s ((qJ s (qA s a)).2.2)+1)) (by omega)).2
    refine qH qD [.k3,.n,.r] [ps 139 (bv true)]<|qL (b:=true) rfl rfl ?_
    by_cases h29:(zA s ((qE s (qA s ((qJ s (qA s a)).2.2)+1)).2.2)).1=0
    ·refine zC qD 1 [.d,.k2,.d,.d,.n,.k1,.d,.n,.r] [pb 0 98 (vB s ((zA s ((qE s (qA s ((qJ s (qA s a)).2.2)+1)).2.2)).2.2) (k-1)),pb 169 50 [(iv 1),(iv ((qE s (qA s ((qJ s (qA s a)).2.2)+1)).2.1)),(.osl 361 0 1),(iv 0),(iv 0),(sv (st ((zA s ((qE s (qA s ((qJ s (qA s a)).2.2)+1)).2.2)).2.1))),sn]] (zY [0] 465 (jM (QZ s ((qE s (qA s ((qJ s (qA s a)).2.2)+1)).2.2) ((k-1:Nat):Int) hs hr (by omega)) h29) oz)<|qB<|qH qD [.k1,.d,.k1,.d,.n,.d,.r] [pb 1 50 [(iv 1),(iv ((qE s (qA s ((qJ s (qA s a)).2.2)+1)).2.1)),(.osl 361 0 1),(iv 0),(iv 0),(sv (st ((zA s ((qE s (qA s ((qJ s (qA s a)).2.2)+1)).2.2)).2.1))),sn]] ?_
     rw [show (qN s lv a k)=(0,(setL (Qw (.mk 1 1 [(qJ s (qA s a)).2.1] (0,0) [] []) (qE s (qA s ((qJ s (qA s a)).2.2)+1)).2.1) (zA s ((qE s (qA s ((qJ s (qA s a)).2.2)+1)).2.2)).2.1),(zA s ((qE s (qA s ((qJ s (qA s a)).2.2)+1)).2.2)).2.2,(k-1)) from by rw [zT,if_neg hk0,if_neg h3,if_neg h6,if_neg h9,if_neg h14,if_neg h18,if_pos h26,zw,if_pos h27,if_pos h28,vI,if_pos (by rfl),if_pos h29],if_pos rfl]
     refine qj (Wk.frz (l':=[ps 4 (.opt 1 0),pb 0 98 (vB s ((zA s ((qE s (qA s ((qJ s (qA s a)).2.2)+1)).2.2)).2.2) (k-1)),pb 1 50 [(iv 1),(iv ((qE s (qA s ((qJ s (qA s a)).2.2)+1)).2.1)),(.ssl [(iv ((qJ s (qA s a)).2.1.1)),(iv ((qJ s (qA s a)).2.1.2.1)),(iv ((qJ s (qA s a)).2.1.2.2))] 0 1),(iv 0),(iv 0),(sv (st ((zA s ((qE s (qA s ((qJ s (qA s a)).2.2)+1)).2.2)).2.1))),sn],(kb 361,none)]) 361 (T:=52) (cs:=[(iv ((qJ s (qA s a)).2.1.1)),(iv ((qJ s (qA s a)).2.1.2.1)),(iv ((qJ s (qA s a)).2.1.2.2))]) (by kernel_rfl) (fun p hp=>List.all_eq_true.1 (show [(iv ((qJ s (qA s a)).2.1.1)),(iv ((qJ s (qA s a)).2.1.2.1)),(iv ((qJ s (qA s a)).2.1.2.2))].all PV.shd=true from rfl) p hp) (by kernel_rfl)) ?_
     exact qk hc0 [4] [0,1] (hbk:=by exact oc rfl (oz))
    rw [show (qN s lv a k)=((zA s ((qE s (qA s ((qJ s (qA s a)).2.2)+1)).2.2)).1,zQ,(zA s ((qE s (qA s ((qJ s (qA s a)).2.2)+1)).2.2)).2.2,(k-1)) from by rw [zT,if_neg hk0,if_neg h3,if_neg h6,if_neg h9,if_neg h14,if_neg h18,if_pos h26,zw,if_pos h27,if_pos h28,vI,if_pos (by rfl),if_neg h29],if_neg h29]
    exact vV qD [(1,.call [0] [(.opt 0 0)] [some (98,(vB s ((qE s (qA s ((qJ s (qA s a)).2.2)+1)).2.2) (k-1)))] (.av (yY ((zA s ((qE s (qA s ((qJ s (qA s a)).2.2)+1)).2.2)).1) (((zA s ((qE s (qA s ((qJ s (qA s a)).2.2)+1)).2.2)).2.2:Nat):Int))) [none])] [2,3] 1 [] (Qx [0] 465 (jD (QZ s ((qE s (qA s ((qJ s (qA s a)).2.2)+1)).2.2) ((k-1:Nat):Int) hs hr (by omega)) h29) oz) (fun cx_ a_ hI_=>zv hc0 hI_)
   rw [show (qN s lv a k)=((qE s (qA s ((qJ s (qA s a)).2.2)+1)).1,zQ,(qE s (qA s ((qJ s (qA s a)).2.2)+1)).2.2,(k-1)) from by rw [zT,if_neg hk0,if_neg h3,if_neg h6,if_neg h9,if_neg h14,if_neg h18,if_pos h26,zw,if_pos h27,if_neg h28],if_neg h28]
   exact vV qD [(1,.call [0] [(.opt 0 0)] [some (98,(vB s (qA s ((qJ s (qA s a)).2.2)+1) (k-1)))] (.av (yY ((qE s (qA s ((qJ s (qA s a)).2.2)+1)).1) (((qE s (qA s ((qJ s (qA s a)).2.2)+1)).2.2:Nat):Int))) [none])] [2,3] 1 [] (Qx [0] 409 (jD (vO s (qA s ((qJ s (qA s a)).2.2)+1) ((k-1:Nat):Int) hs hr (by omega)) h28) oz) (fun cx_ a_ hI_=>zv hc0 hI_)
  refine zC qD 1 [.k3,.n,.d,.n,.r] [ps 133 (bv false),pb 0 98 (vB s (qA s ((qJ s (qA s a)).2.2)) (k-1))] (zY [0] 393 (qad (jW s ((qJ s (qA s a)).2.2) ((k-1:Nat):Int) 42 hs (by omega)) h27) oz)<|qO (b:=false) rfl rfl<|qF<|qB<|qB<|qH qD [.k3,.d,.n,.r] [ps 139 (bv true)]<|qL (b:=true) rfl rfl ?_
  by_cases h30:(zA s (qA s ((qJ s (qA s a)).2.2))).1=0
  ·refine zC qD 1 [.d,.k2,.d,.d,.n,.k1,.d,.n,.r] [pb 0 98 (vB s ((zA s (qA s ((qJ s (qA s a)).2.2))).2.2) (k-1)),pb 169 50 [(iv 1),(iv 1),(.osl 361 0 1),(iv 0),(iv 0),(sv (st ((zA s (qA s ((qJ s (qA s a)).2.2))).2.1))),sn]] (zY [0] 433 (jM (QZ s (qA s ((qJ s (qA s a)).2.2)) ((k-1:Nat):Int) hs hr (by omega)) h30) oz)<|qB<|qH qD [.k1,.d,.k1,.d,.n,.d,.r] [pb 1 50 [(iv 1),(iv 1),(.osl 361 0 1),(iv 0),(iv 0),(sv (st ((zA s (qA s ((qJ s (qA s a)).2.2))).2.1))),sn]] ?_
   rw [show (qN s lv a k)=(0,(setL (.mk 1 1 [(qJ s (qA s a)).2.1] (0,0) [] []) (zA s (qA s ((qJ s (qA s a)).2.2))).2.1),(zA s (qA s ((qJ s (qA s a)).2.2))).2.2,(k-1)) from by rw [zT,if_neg hk0,if_neg h3,if_neg h6,if_neg h9,if_neg h14,if_neg h18,if_pos h26,zw,if_neg h27,vI,if_pos (by rfl),if_pos h30],if_pos rfl]
   refine qj (Wk.frz (l':=[ps 4 (.opt 1 0),pb 0 98 (vB s ((zA s (qA s ((qJ s (qA s a)).2.2))).2.2) (k-1)),pb 1 50 [(iv 1),(iv 1),(.ssl [(iv ((qJ s (qA s a)).2.1.1)),(iv ((qJ s (qA s a)).2.1.2.1)),(iv ((qJ s (qA s a)).2.1.2.2))] 0 1),(iv 0),(iv 0),(sv (st ((zA s (qA s ((qJ s (qA s a)).2.2))).2.1))),sn],(kb 361,none)]) 361 (T:=52) (cs:=[(iv ((qJ s (qA s a)).2.1.1)),(iv ((qJ s (qA s a)).2.1.2.1)),(iv ((qJ s (qA s a)).2.1.2.2))]) (by kernel_rfl) (fun p hp=>List.all_eq_true.1 (show [(iv ((qJ s (qA s a)).2.1.1)),(iv ((qJ s (qA s a)).2.1.2.1)),(iv ((qJ s (qA s a)).2.1.2.2))].all PV.shd=true from rfl) p hp) (by kernel_rfl)) ?_
   exact qk hc0 [4] [0,1] (hbk:=by exact oc rfl (oz))
  rw [show (qN s lv a k)=((zA s (qA s ((qJ s (qA s a)).2.2))).1,zQ,(zA s (qA s ((qJ s (qA s a)).2.2))).2.2,(k-1)) from by rw [zT,if_neg hk0,if_neg h3,if_neg h6,if_neg h9,if_neg h14,if_neg h18,if_pos h26,zw,if_neg h27,vI,if_pos (by rfl),if_neg h30],if_neg h30]
  exact vV qD [(1,.call [0] [(.opt 0 0)] [some (98,(vB s (qA s ((qJ s (qA s a)).2.2)) (k-1)))] (.av (yY ((zA s (qA s ((qJ s (qA s a)).2.2))).1) (((zA s (qA s ((qJ s (qA s a)).2.2))).2.2:Nat):Int))) [none])] [2,3] 1 [] (Qx [0] 433 (jD (QZ s (qA s ((qJ s (qA s a)).2.2)) ((k-1:Nat):Int) hs hr (by omega)) h30) oz) (fun cx_ a_ hI_=>zv hc0 hI_)
 rw [show (qN s lv a k)=((qJ s (qA s a)).1,zQ,(qJ s (qA s a)).2.2,0) from by rw [zT,if_neg hk0,if_neg h3,if_neg h6,if_neg h9,if_neg h14,if_neg h18,if_neg h26],if_neg h26]
 exact vV qD [(1,.call [0] [(.opt 0 0)] [some (98,(vB s (qA s a) (k-1)))] (.av (yY ((qJ s (qA s a)).1) (((qJ s (qA s a)).2.2:Nat):Int))) [none])] [2,3,4] 1 [] (Qx [0] 353 (jD (WQ s (qA s a) ((k-1:Nat):Int) hs hr (by omega)) h26) oz) (fun cx_ a_ hI_=>zv hc0 hI_)
theorem qgo {s:zX} (hs:s.length≤65536) (hr:Rdy s):∀ (m k:Nat),k<m→k≤4095→∀ (lv:Int),0≤lv∧lv≤32→∀ (a:Nat),a≤s.length→PO Tryz.prog 109 [.opt 0 0,iv lv] [some (98,[sv (st s),nv a,nv k])] (if (qN s lv a k).1=0 then .ret (.agg (gI (qN s lv a k).2.1)) [some (98,[sv (st s),nv (qN s lv a k).2.2.1,nv (qN s lv a k).2.2.2]),none] else .pan (yY (qN s lv a k).1 (((qN s lv a k).2.2.1:Nat):Int)) [none])
 | 0,k,h,_,_,_,_,_=>absurd h (Nat.not_lt_zero k)
 | m+1,k,h,hk,lv,hlv,a,ha=>ritem_step s hs hr lv hlv a k ha hk (fun h0 h1 b hb=>group_step s hs hr lv ⟨hlv.1,h1⟩ b (k-1) hb (by omega) (fun c q hq hc=>qgo hs hr m q (by omega) (by omega) (lv+1) ⟨by omega,by omega⟩ c hc))
theorem item_po {s:zX} (hs:s.length≤65536) (hr:Rdy s) {k:Nat} (hk:k≤4095) {lv:Int} (hlv:0≤lv∧lv≤32) {a:Nat} (ha:a≤s.length):PO Tryz.prog 109 [.opt 0 0,iv lv] [some (98,[sv (st s),nv a,nv k])] (if (qN s lv a k).1=0 then .ret (.agg (gI (qN s lv a k).2.1)) [some (98,[sv (st s),nv (qN s lv a k).2.2.1,nv (qN s lv a k).2.2.2]),none] else .pan (yY (qN s lv a k).1 (((qN s lv a k).2.2.1:Nat):Int)) [none]):=qgo hs hr (k+1) k (Nat.lt_succ_self k) hk lv hlv a ha
theorem bar_po (s:zX) (hs:s.length≤65536) (hr:Rdy s) (a:Nat) (k:Int) (ha:a≤s.length):PO Tryz.prog 75 [(.opt 0 0)] [some (98,(r3 s a k))] (if (wR s a).1=0 then .ret (.agg (brC (wR s a).2.1)) [some (98,(vB s ((wR s a).2.2.1) ((wR s a).2.2.2))),none] else .pan (yY ((wR s a).1) (((wR s a).2.2.1:Nat):Int)) [none]):=by
 refine jk Tryz.func75 rfl (by kernel_rfl) (ZF (Nat.le_of_ble_eq_true rfl) (Nat.le_of_ble_eq_true rfl)) (by kernel_rfl) (l0:=[ps 0 (.opt 0 0),pb 0 98 (r3 s a k)]) rfl (fun c0 Bor hc0=>?_)
 refine qB<|qH qD [.k1,.n,.k1,.n] [ps 2 (.opt 1 0),pb 1 47 [(iv 0),(iv 0),sn]]<|qB ?_
 by_cases h1:(qE s a).1=0
 ·refine zC qD 1 [.k2,.n,.d,.n,.k1,.n] [ps 3 (.opt 33 0),pb 0 98 (r3 s ((qE s a).2.2) k),pb 33 47 [(iv ((qE s a).2.1)),(iv 0),sn]] (zY [0] 17 (jM (vO s a k hs hr (by omega)) h1) oz)<|qB ?_
  have hn1:=wK ha
  have hga:=vH s a
  by_cases h2:(qP s ((qE s a).2.2) 47)=true
  ·refine zC qD 1 [.k3,.d,.n,.r] [pb 0 98 (r3 s (qA s ((qE s a).2.2)+1) k)] (zY [0] 57 (jM (qdm s ((qE s a).2.2) k 47 hs (by omega)) h2) oz)<|qB ?_
   have hlt:=zM h2
   have hn2:=wK (s:=s) (a:=qA s (qE s a).2.2+1) hlt
   by_cases h3:(qE s (qA s ((qE s a).2.2)+1)).1=0
   ·refine zC qD 1 [.k3,.d,.n,.k1,.d,.n] [pb 0 98 (r3 s ((qE s (qA s ((qE s a).2.2)+1)).2.2) k),pb 33 47 [(iv ((qE s a).2.1)),(iv ((qE s (qA s ((qE s a).2.2)+1)).2.1)),sn]] (zY [0] 73 (jM (vO s (qA s ((qE s a).2.2)+1) k hs hr (by omega)) h3) oz)<|qB<|qH qD [.k3,.d,.n,.r] [pb 0 98 (r3 s ((qE s (qA s ((qE s a).2.2)+1)).2.2) 4095)]<|qj (Wk.eq (show _=[ps 0 (.opt 0 0),ps 2 (.opt 1 0),ps 3 (.opt 33 0),pb 0 98 (vB s ((qE s (qA s ((qE s a).2.2)+1)).2.2) 4095),pb 1 47 [(iv 0),(iv 0),sn],pb 33 47 [(iv ((qE s a).2.1)),(iv ((qE s (qA s ((qE s a).2.2)+1)).2.1)),sn]] from by rfl)) ?_
    refine qX<|qj (Wk.nilc (B:=47) (cells:=[(iv ((qE s a).2.1)),(iv ((qE s (qA s ((qE s a).2.2)+1)).2.1)),sn]) 33 2 50 (by kernel_rfl) rfl)<|qj (Wk.less (l':=[ps 0 (.opt 0 0),ps 2 (.opt 1 0),ps 3 (.opt 33 0),pb 0 98 (vB s ((qE s (qA s ((qE s a).2.2)+1)).2.2) 4095),pb 1 47 [(iv 0),(iv 0),sn],pb 33 47 [(iv ((qE s a).2.1)),(iv ((qE s (qA s ((qE s a).2.2)+1)).2.1)),(.osl 129 0 0)],pb 129 50 []]) 130 (by kernel_rfl) (by kernel_rfl))<|qj (Wk.eq (show _=[ps 0 (.opt 0 0),ps 2 (.opt 1 0),ps 3 (.opt 33 0),pb 0 98 (vB s ((qE s (qA s ((qE s a).2.2)+1)).2.2) 4095),pb 1 47 [(iv 0),(iv 0),sn],pb 33 47 [(iv ((qE s a).2.1)),(iv ((qE s (qA s ((qE s a).2.2)+1)).2.1)),(.osl 129 0 (([]:List It).length))],pb 129 50 (zP ([]:List It))] from by rfl)) ?_
    refine zy (α:={x:List It × Nat × Nat // x.2.1≤s.length∧x.1.length+x.2.2≤4095∧brL s x.1 x.2.1 x.2.2=brL s [] (qE s (qA s (qE s a).2.2+1)).2.2 4095}) (fun x=>[ps 0 (.opt 0 0),ps 2 (.opt 1 0),ps 3 (.opt 2 0),pb 0 98 (vB s x.1.2.1 x.1.2.2),pb 1 47 [(iv 0),(iv 0),sn],pb 2 47 [(iv ((qE s a).2.1)),(iv ((qE s (qA s ((qE s a).2.2)+1)).2.1)),(.osl 3 0 x.1.1.length)],pb 3 50 (zP x.1.1)]) (fun x=>x.1.2.2) 4 ⟨([],(qE s (qA s ((qE s a).2.2)+1)).2.2,4095),⟨hn2.2,Nat.le_of_eq (Nat.zero_add _),rfl⟩⟩ (Wk.ren3 _ 1 hc0 [0,1,33,129] [(kb 3,(zP ([]:List It)))] (oc (yA _) (oz)) (by kernel_rfl) rfl rfl (by kernel_rfl) (by kernel_rfl)) ?_
    rintro ⟨⟨l,b,q⟩,⟨hb,hq,hg⟩⟩
    dsimp only at hb hq hg
    refine qX<|qB ?_
    by_cases h4:(qN s 1 b q).1=0
    ·refine VA qD [(3,.call [0] [(.opt 0 0),(iv 1)] [some (98,(vB s b q))] (.agg [(iv (iK ((qN s 1 b q).2.1))),(iv (iS ((qN s 1 b q).2.1))),(.ssl (wA (iP ((qN s 1 b q).2.1))) 0 ((iP ((qN s 1 b q).2.1)).length)),(iv ((iB ((qN s 1 b q).2.1)).1)),(iv ((iB ((qN s 1 b q).2.1)).2)),(sv (st (iL ((qN s 1 b q).2.1)))),(.ssl (zP (iC ((qN s 1 b q).2.1))) 0 ((iC ((qN s 1 b q).2.1)).length))]) [some (98,(vB s ((qN s 1 b q).2.2.1) ((qN s 1 b q).2.2.2))),none]),(5,.app none (some (zP (l++[(qN s 1 b q).2.1]))))] (VB [(0,0),(0,1),(0,0),(2,1),(2,2),(0,5),(0,6),(0,7)]) [([30],[6]),([32],[5,30]),([34],[0]),([36,1,57],[1,34]),([38,73],[36]),([40,7,89],[7,32,38,73]),([42],[6]),([5],[5,40,42])] [ps 0 (.opt 0 0),ps 2 (.opt 1 0),ps 3 (.opt 2 0),pb 0 98 (vB s ((qN s 1 b q).2.2.1) ((qN s 1 b q).2.2.2)),pb 1 47 [(iv 0),(iv 0),sn],pb 2 47 [(iv ((qE s a).2.1)),(iv ((qE s (qA s ((qE s a).2.2)+1)).2.1)),(.osl 44 0 (l.length+1))],pb 44 50 (zP (l++[(qN s 1 b q).2.1]))] (zY [0] 28 (jM (item_po hs hr (k:=q) (by omega) (lv:=1) (by decide) (a:=b) (by omega)) h4) (oc (YD _:((zP l)).length=l.length*7) (oc (by omega:(l.length+1)*96≤140737488355328∧l.length+1≤9223372036854775807) (oc (Qj l _:(zP l)++[(iv (iK ((qN s 1 b q).2.1))),(iv (iS ((qN s 1 b q).2.1))),(.ssl (wA (iP ((qN s 1 b q).2.1))) 0 ((iP ((qN s 1 b q).2.1)).length)),(iv ((iB ((qN s 1 b q).2.1)).1)),(iv ((iB ((qN s 1 b q).2.1)).2)),(sv (st (iL ((qN s 1 b q).2.1)))),(.ssl (zP (iC ((qN s 1 b q).2.1))) 0 ((iC ((qN s 1 b q).2.1)).length))]=(zP (l++[(qN s 1 b q).2.1]))) oz))))<|qB ?_
     have hie:=wT (lv:=1) (k:=q) hb h4
     by_cases h5:(qA s ((qN s 1 b q).2.2.1):Int)=(s.length:Int)
     ·refine qQ qD ([(1,.call [0] [(.opt 0 0)] [some (98,(vB s ((qN s 1 b q).2.2.1) ((qN s 1 b q).2.2.2)))] (bv (decide (((qA s ((qN s 1 b q).2.2.1):Nat):Int)=(s.length:Int)))) [some (98,(vB s (qA s ((qN s 1 b q).2.2.1)) ((qN s 1 b q).2.2.2)))])]++gy 3 2++[(5,.yes true)]++gy 7 3) [.k3,.n,.d,.n,.r] [ps 32 (bv true),pb 0 98 (vB s (qA s ((qN s 1 b q).2.2.1)) ((qN s 1 b q).2.2.2))] (zY [0] 76 (Wq s ((qN s 1 b q).2.2.1) (((qN s 1 b q).2.2.2:Nat):Int) hs (by omega)) (oc (decide_eq_true h5) (oc (decide_eq_true h5) (oc (decide_eq_true h5) (on 3 tt oz)))))<|qL (b:=true) rfl rfl<|qB<|qH qD [.d,.k1,.d,.d,.k1,.d,.n,.d,.r] [pb 1 47 [(iv ((qE s a).2.1)),(iv ((qE s (qA s ((qE s a).2.2)+1)).2.1)),(.osl 44 0 (l.length+1))]] ?_
      have hbl:brL s [] (qE s (qA s (qE s a).2.2+1)).2.2 4095=(0,l++[(qN s 1 b q).2.1],qA s (qN s 1 b q).2.2.1,(qN s 1 b q).2.2.2):=by rw [← hg,YR,if_pos h4,if_pos (.inl (by omega))]
      rw [show (wR s a)=(0,((qE s a).2.1,(qE s (qA s ((qE s a).2.2)+1)).2.1,l++[(qN s 1 b q).2.1]),qA s (qN s 1 b q).2.2.1,(qN s 1 b q).2.2.2) from by rw [wR,if_pos h1,if_pos h2,if_pos h3,hbl,if_pos rfl],if_pos rfl]
      refine qj (Wk.eq (show _=[ps 2 (.opt 1 0),pb 0 98 (vB s (qA s ((qN s 1 b q).2.2.1)) ((qN s 1 b q).2.2.2)),pb 1 47 [(iv ((qE s a).2.1)),(iv ((qE s (qA s ((qE s a).2.2)+1)).2.1)),(.osl 44 0 ((l++[(qN s 1 b q).2.1]).length))],pb 44 50 (zP (l++[(qN s 1 b q).2.1]))] from by rw [List.length_append];rfl)) ?_
      refine qj (Wk.frz (l':=[ps 2 (.opt 1 0),pb 0 98 (vB s (qA s ((qN s 1 b q).2.2.1)) ((qN s 1 b q).2.2.2)),pb 1 47 [(iv ((qE s a).2.1)),(iv ((qE s (qA s ((qE s a).2.2)+1)).2.1)),(.ssl (zP (l++[(qN s 1 b q).2.1])) 0 ((l++[(qN s 1 b q).2.1]).length))],(kb 44,none)]) 44 (T:=50) (cs:=(zP (l++[(qN s 1 b q).2.1]))) (by kernel_rfl) (yA _) (by kernel_rfl))<|qj (Wk.less (l':=[ps 2 (.opt 1 0),pb 0 98 (vB s (qA s ((qN s 1 b q).2.2.1)) ((qN s 1 b q).2.2.2)),pb 1 47 [(iv ((qE s a).2.1)),(iv ((qE s (qA s ((qE s a).2.2)+1)).2.1)),(.ssl (zP (l++[(qN s 1 b q).2.1])) 0 ((l++[(qN s 1 b q).2.1]).length))]]) 172 (by kernel_rfl) (by kernel_rfl)) ?_
      exact yk fun cx_ a_ hI_=>zB (rt hc0 [ps 2 (.opt 1 0),pb 0 98 (vB s (qA s ((qN s 1 b q).2.2.1)) ((qN s 1 b q).2.2.2)),pb 1 47 [(iv ((qE s a).2.1)),(iv ((qE s (qA s ((qE s a).2.2)+1)).2.1)),(.ssl (zP (l++[(qN s 1 b q).2.1])) 0 ((l++[(qN s 1 b q).2.1]).length))]] [0,1] hI_ (hbk:=by exact oc rfl (oz)))
     by_cases h6:(qP s ((qN s 1 b q).2.2.1) 124)=true
     ·refine qQ qD ([(1,.call [0] [(.opt 0 0)] [some (98,(vB s ((qN s 1 b q).2.2.1) ((qN s 1 b q).2.2.2)))] (bv (decide (((qA s ((qN s 1 b q).2.2.1):Nat):Int)=(s.length:Int)))) [some (98,(vB s (qA s ((qN s 1 b q).2.2.1)) ((qN s 1 b q).2.2.2)))]),(3,.gd false .no),(4,.gd false (.call [0] [(.opt 0 0),(.av (.int .u8 124))] [some (98,(vB s (qA s ((qN s 1 b q).2.2.1)) ((qN s 1 b q).2.2.2)))] (bv (qP s ((qN s 1 b q).2.2.1) 124)) [some (98,(vB s (qA s ((qN s 1 b q).2.2.1)) ((qN s 1 b q).2.2.2)))])),(5,.yes false)]++gy 7 3++[(10,.yes true)]) [.k3,.n,.d,.n,.r] [ps 32 (bv true),pb 0 98 (vB s (qA s ((qN s 1 b q).2.2.1)) ((qN s 1 b q).2.2.2))] (zY [0] 76 (Wq s ((qN s 1 b q).2.2.1) (((qN s 1 b q).2.2.2:Nat):Int) hs (by omega)) (oc (decide_eq_false h5) (oc (decide_eq_false h5) (zY [0] 100 (Yw s ((qN s 1 b q).2.2.1) (((qN s 1 b q).2.2.2:Nat):Int) 124 hs (by omega)) (oc (decide_eq_false h5) (on 4 (h6:(qP s ((qN s 1 b q).2.2.1) 124)=true) oz))))))<|qL (b:=true) rfl rfl<|qB<|qH qD [.d,.k1,.d,.d,.k1,.d,.n,.d,.r] [pb 1 47 [(iv ((qE s a).2.1)),(iv ((qE s (qA s ((qE s a).2.2)+1)).2.1)),(.osl 44 0 (l.length+1))]] ?_
      have hbl:brL s [] (qE s (qA s (qE s a).2.2+1)).2.2 4095=(0,l++[(qN s 1 b q).2.1],qA s (qN s 1 b q).2.2.1,(qN s 1 b q).2.2.2):=by rw [← hg,YR,if_pos h4,if_pos (.inr (.inl h6))]
      rw [show (wR s a)=(0,((qE s a).2.1,(qE s (qA s ((qE s a).2.2)+1)).2.1,l++[(qN s 1 b q).2.1]),qA s (qN s 1 b q).2.2.1,(qN s 1 b q).2.2.2) from by rw [wR,if_pos h1,if_pos h2,if_pos h3,hbl,if_pos rfl],if_pos rfl]
      refine qj (Wk.eq (show _=[ps 2 (.opt 1 0),pb 0 98 (vB s (qA s ((qN s 1 b q).2.2.1)) ((qN s 1 b q).2.2.2)),pb 1 47 [(iv ((qE s a).2.1)),(iv ((qE s (qA s ((qE s a).2.2)+1)).2.1)),(.osl 44 0 ((l++[(qN s 1 b q).2.1]).length))],pb 44 50 (zP (l++[(qN s 1 b q).2.1]))] from by rw [List.length_append];rfl)) ?_
      refine qj (Wk.frz (l':=[ps 2 (.opt 1 0),pb 0 98 (vB s (qA s ((qN s 1 b q).2.2.1)) ((qN s 1 b q).2.2.2)),pb 1 47 [(iv ((qE s a).2.1)),(iv ((qE s (qA s ((qE s a).2.2)+1)).2.1)),(.ssl (zP (l++[(qN s 1 b q).2.1])) 0 ((l++[(qN s 1 b q).2.1]).length))],(kb 44,none)]) 44 (T:=50) (cs:=(zP (l++[(qN s 1 b q).2.1]))) (by kernel_rfl) (yA _) (by kernel_rfl))<|qj (Wk.less (l':=[ps 2 (.opt 1 0),pb 0 98 (vB s (qA s ((qN s 1 b q).2.2.1)) ((qN s 1 b q).2.2.2)),pb 1 47 [(iv ((qE s a).2.1)),(iv ((qE s (qA s ((qE s a).2.2)+1)).2.1)),(.ssl (zP (l++[(qN s 1 b q).2.1])) 0 ((l++[(qN s 1 b q).2.1]).length))]]) 172 (by kernel_rfl) (by kernel_rfl)) ?_
      exact yk fun cx_ a_ hI_=>zB (rt hc0 [ps 2 (.opt 1 0),pb 0 98 (vB s (qA s ((qN s 1 b q).2.2.1)) ((qN s 1 b q).2.2.2)),pb 1 47 [(iv ((qE s a).2.1)),(iv ((qE s (qA s ((qE s a).2.2)+1)).2.1)),(.ssl (zP (l++[(qN s 1 b q).2.1])) 0 ((l++[(qN s 1 b q).2.1]).length))]] [0,1] hI_ (hbk:=by exact oc rfl (oz)))
     refine qQ qD [(1,.call [0] [(.opt 0 0)] [some (98,(vB s ((qN s 1 b q).2.2.1) ((qN s 1 b q).2.2.2)))] (bv (decide (((qA s ((qN s 1 b q).2.2.1):Nat):Int)=(s.length:Int)))) [some (98,(vB s (qA s ((qN s 1 b q).2.2.1)) ((qN s 1 b q).2.2.2)))]),(3,.gd false .no),(4,.gd false (.call [0] [(.opt 0 0),(.av (.int .u8 124))] [some (98,(vB s (qA s ((qN s 1 b q).2.2.1)) ((qN s 1 b q).2.2.2)))] (bv (qP s ((qN s 1 b q).2.2.1) 124)) [some (98,(vB s (qA s ((qN s 1 b q).2.2.1)) ((qN s 1 b q).2.2.2)))])),(5,.yes false),(7,.gd false .no),(8,.gd false (.call [0] [(.opt 0 0)] [some (98,(vB s (qA s ((qN s 1 b q).2.2.1)) ((qN s 1 b q).2.2.2)))] (sv (st (qC s ((qN s 1 b q).2.2.1)))) [some (98,(vB s (qA s ((qN s 1 b q).2.2.1)) ((qN s 1 b q).2.2.2)))])),(9,.gd false (.val (.av (.bool (decide ((qC s ((qN s 1 b q).2.2.1))=([118,111,105,99,101]:TX))))))),(10,.yes false)] [.k3,.n,.d,.n,.r] [ps 32 (bv (decide ((qC s ((qN s 1 b q).2.2.1))=([118,111,105,99,101]:TX)))),pb 0 98 (vB s (qA s ((qN s 1 b q).2.2.1)) ((qN s 1 b q).2.2.2))] (zY [0] 76 (Wq s ((qN s 1 b q).2.2.1) (((qN s 1 b q).2.2.2:Nat):Int) hs (by omega)) (oc (decide_eq_false h5) (oc (decide_eq_false h5) (zY [0] 100 (Yw s ((qN s 1 b q).2.2.1) (((qN s 1 b q).2.2.2:Nat):Int) 124 hs (by omega)) (oc (decide_eq_false h5) (oc (Bool.eq_false_iff.2 h6:(qP s ((qN s 1 b q).2.2.1) 124)=false) (oc (Bool.eq_false_iff.2 h6:(qP s ((qN s 1 b q).2.2.1) 124)=false) (zY [0] 132 (qej s ((qN s 1 b q).2.2.1) (((qN s 1 b q).2.2.2:Nat):Int) hs hr (by omega)) (oc (Bool.eq_false_iff.2 h6:(qP s ((qN s 1 b q).2.2.1) 124)=false) (oc (qv _ _:((st (qC s ((qN s 1 b q).2.2.1))).toList == (st ([118,111,105,99,101]:TX)).toList)=decide ((qC s ((qN s 1 b q).2.2.1))=([118,111,105,99,101]:TX))) (oc (Bool.eq_false_iff.2 h6:(qP s ((qN s 1 b q).2.2.1) 124)=false) oz))))))))))) ?_
     by_cases h7:(qC s ((qN s 1 b q).2.2.1))=([118,111,105,99,101]:TX)
     ·refine qS (decide_eq_true h7)<|qB<|qH qD [.d,.k1,.d,.d,.k1,.d,.n,.d,.r] [pb 1 47 [(iv ((qE s a).2.1)),(iv ((qE s (qA s ((qE s a).2.2)+1)).2.1)),(.osl 44 0 (l.length+1))]] ?_
      have hbl:brL s [] (qE s (qA s (qE s a).2.2+1)).2.2 4095=(0,l++[(qN s 1 b q).2.1],qA s (qN s 1 b q).2.2.1,(qN s 1 b q).2.2.2):=by rw [← hg,YR,if_pos h4,if_pos (.inr (.inr h7))]
      rw [show (wR s a)=(0,((qE s a).2.1,(qE s (qA s ((qE s a).2.2)+1)).2.1,l++[(qN s 1 b q).2.1]),qA s (qN s 1 b q).2.2.1,(qN s 1 b q).2.2.2) from by rw [wR,if_pos h1,if_pos h2,if_pos h3,hbl,if_pos rfl],if_pos rfl]
      refine qj (Wk.eq (show _=[ps 2 (.opt 1 0),pb 0 98 (vB s (qA s ((qN s 1 b q).2.2.1)) ((qN s 1 b q).2.2.2)),pb 1 47 [(iv ((qE s a).2.1)),(iv ((qE s (qA s ((qE s a).2.2)+1)).2.1)),(.osl 44 0 ((l++[(qN s 1 b q).2.1]).length))],pb 44 50 (zP (l++[(qN s 1 b q).2.1]))] from by rw [List.length_append];rfl)) ?_
      refine qj (Wk.frz (l':=[ps 2 (.opt 1 0),pb 0 98 (vB s (qA s ((qN s 1 b q).2.2.1)) ((qN s 1 b q).2.2.2)),pb 1 47 [(iv ((qE s a).2.1)),(iv ((qE s (qA s ((qE s a).2.2)+1)).2.1)),(.ssl (zP (l++[(qN s 1 b q).2.1])) 0 ((l++[(qN s 1 b q).2.1]).length))],(kb 44,none)]) 44 (T:=50) (cs:=(zP (l++[(qN s 1 b q).2.1]))) (by kernel_rfl) (yA _) (by kernel_rfl))<|qj (Wk.less (l':=[ps 2 (.opt 1 0),pb 0 98 (vB s (qA s ((qN s 1 b q).2.2.1)) ((qN s 1 b q).2.2.2)),pb 1 47 [(iv ((qE s a).2.1)),(iv ((qE s (qA s ((qE s a).2.2)+1)).2.1)),(.ssl (zP (l++[(qN s 1 b q).2.1])) 0 ((l++[(qN s 1 b q).2.1]).length))]]) 172 (by kernel_rfl) (by kernel_rfl)) ?_
      exact yk fun cx_ a_ hI_=>zB (rt hc0 [ps 2 (.opt 1 0),pb 0 98 (vB s (qA s ((qN s 1 b q).2.2.1)) ((qN s 1 b q).2.2.2)),pb 1 47 [(iv ((qE s a).2.1)),(iv ((qE s (qA s ((qE s a).2.2)+1)).2.1)),(.ssl (zP (l++[(qN s 1 b q).2.1])) 0 ((l++[(qN s 1 b q).2.1]).length))]] [0,1] hI_ (hbk:=by exact oc rfl (oz)))
     refine qR (decide_eq_false h7)<|qF<|qZ ?_
     have hno:¬ (qA s (qN s 1 b q).2.2.1=s.length∨qP s (qN s 1 b q).2.2.1 124=true∨qC s (qN s 1 b q).2.2.1=vow):=fun hh=>hh.elim (fun hh=>by omega) fun hh=>hh.elim (fun hh=>h6 hh) (fun hh=>h7 hh)
     exact qq ⟨(l++[(qN s 1 b q).2.1],qA s (qN s 1 b q).2.2.1,(qN s 1 b q).2.2.2),⟨zR hie.1.2,by have:=hie.2;simp only [List.length_append,List.length_singleton];omega,by rw [YR,if_pos h4,if_neg hno,if_pos hie.2] at hg;exact hg⟩⟩ (Wk.trans (Wk.eq (show _=[ps 0 (.opt 0 0),ps 2 (.opt 1 0),ps 3 (.opt 2 0),ps 32 (bv (decide ((qC s ((qN s 1 b q).2.2.1))=([118,111,105,99,101]:TX)))),pb 0 98 (vB s (qA s ((qN s 1 b q).2.2.1)) ((qN s 1 b q).2.2.2)),pb 1 47 [(iv 0),(iv 0),sn],pb 2 47 [(iv ((qE s a).2.1)),(iv ((qE s (qA s ((qE s a).2.2)+1)).2.1)),(.osl 44 0 ((l++[(qN s 1 b q).2.1]).length))],pb 44 50 (zP (l++[(qN s 1 b q).2.1]))] from by rw [List.length_append];rfl)) (Wk.ren3 _ 1 hc0 [0,1,2,44] [(kb 3,(zP (l++[(qN s 1 b q).2.1])))] (oc (yA _) (oz)) (by kernel_rfl) rfl rfl (by kernel_rfl) (by kernel_rfl))) (show ((qN s 1 b q).2.2.2)<q from hie.2)
    rw [show (wR s a)=((qN s 1 b q).1,ZG,(qN s 1 b q).2.2.1,0) from by rw [wR,if_pos h1,if_pos h2,if_pos h3,← hg,YR,if_neg h4,if_neg h4],if_neg h4]
    exact vV qD [(3,.call [0] [(.opt 0 0),(iv 1)] [some (98,(vB s b q))] (.av (yY ((qN s 1 b q).1) (((qN s 1 b q).2.2.1:Nat):Int))) [none])] [4,5,6,7] 3 [] (Qx [0] 28 (jD (item_po hs hr (k:=q) (by omega) (lv:=1) (by decide) (a:=b) (by omega)) h4) oz) (fun cx_ a_ hI_=>wH (zv hc0 hI_))
   rw [show (wR s a)=((qE s (qA s ((qE s a).2.2)+1)).1,ZG,(qE s (qA s ((qE s a).2.2)+1)).2.2,0) from by rw [wR,if_pos h1,if_pos h2,if_neg h3],if_neg h3]
   exact vV qD [(1,.call [0] [(.opt 0 0)] [some (98,(r3 s (qA s ((qE s a).2.2)+1) k))] (.av (yY ((qE s (qA s ((qE s a).2.2)+1)).1) (((qE s (qA s ((qE s a).2.2)+1)).2.2:Nat):Int))) [none])] [2,3] 1 [] (Qx [0] 73 (jD (vO s (qA s ((qE s a).2.2)+1) k hs hr (by omega)) h3) oz) (fun cx_ a_ hI_=>zv hc0 hI_)
  rw [show (wR s a)=(2,ZG,qA s (qE s a).2.2,0) from by rw [wR,if_pos h1,if_neg h2],if_neg (by show ¬ ((2:Int)=0);decide)]
  exact vV qD [(1,.call [0] [(.opt 0 0),(.av (.int .u8 47))] [some (98,(r3 s ((qE s a).2.2) k))] (.av (yY 2 (qA s ((qE s a).2.2):Int))) [none])] [] 1 [] (Qx [0] 57 (jD (qdm s ((qE s a).2.2) k 47 hs (by omega)) h2) oz) (fun cx_ a_ hI_=>zv hc0 hI_)
 rw [show (wR s a)=((qE s a).1,ZG,(qE s a).2.2,0) from by rw [wR,if_neg h1],if_neg h1]
 exact vV qD [(1,.call [0] [(.opt 0 0)] [some (98,(r3 s a k))] (.av (yY ((qE s a).1) (((qE s a).2.2:Nat):Int))) [none])] [2,3,4] 1 [] (Qx [0] 17 (jD (vO s a k hs hr (by omega)) h1) oz) (fun cx_ a_ hI_=>zv hc0 hI_)
theorem qik (s:zX) (hs:s.length≤65536) (hr:Rdy s) (a:Nat) (k:Int) (ha:a≤s.length):PO Tryz.prog 40 [(.opt 0 0)] [some (98,(r3 s a k))] (if (jB s a k).1=0 then .ret (.agg (voC (jB s a k).2.1)) [some (98,(r3 s ((jB s a k).2.2.1) ((jB s a k).2.2.2))),none] else .pan (yY ((jB s a k).1) (((jB s a k).2.2.1:Nat):Int)) [none]):=by
 refine jk Tryz.func40 rfl (by kernel_rfl) (ZF (Nat.le_of_ble_eq_true rfl) (Nat.le_of_ble_eq_true rfl)) (by kernel_rfl) (l0:=[ps 0 (.opt 0 0),pb 0 98 (r3 s a k)]) rfl (fun c0 Bor hc0=>?_)
 refine qB<|qH qD [.k1,.n,.k1,.n] [ps 2 (.opt 1 0),pb 1 44 [se,sn]]<|qB<|zC qD 1 [.k2,.d,.n,.r] [pb 0 98 (r3 s (qA s a) k)] (zY [0] 17 (qia s a k hs (by omega)) oz)<|qB<|qB ?_
 have hga:=zR ha
 have hgg:=vH s a
 have hwl:=yV ha
 refine qQ qD [(1,.call [0] [(.opt 0 0)] [some (98,(r3 s (qA s a) k))] (sv (st (qC s a))) [some (98,(r3 s (qA s a) k))]),(2,.val (.av (.bool (!decide ((qC s a)=([118,111,105,99,101]:TX))))))] [.k2,.n,.r] [ps 9 (bv (!(decide ((qC s a)=([118,111,105,99,101]:TX)))))] (zY [0] 33 (qej s a k hs hr (by omega)) (oc (yW _ _:(!((st (qC s a)).toList == (st ([118,111,105,99,101]:TX)).toList)) = !decide ((qC s a)=([118,111,105,99,101]:TX))) oz)) ?_
 by_cases h1:(qC s a)=([118,111,105,99,101]:TX)
 ·refine qR (bt h1)<|qF<|qB ?_
  have hw5:(qC s a).length=5:=by rw [h1];rfl
  refine qQ qD [] [.k2,.d,.d,.n,.r] [pb 0 98 [(sv (st s)),(iv (((qA s a:Nat):Int)+5)),(iv k)]] (oi (((qA s a:Nat):Int)+5) (by omega) oz)<|qj (Wk.eq (show _=[ps 0 (.opt 0 0),ps 2 (.opt 1 0),pb 0 98 (r3 s (qA s a+5) k),pb 1 44 [se,sn]] from by rfl)) ?_
  refine qB ?_
  have hwl2:=yV (s:=s) (a:=qA s a+5) (by omega)
  have hgg2:=vH s (qA s a+5)
  refine zC qD 1 [.k2,.n,.d,.n,.r] [ps 3 (sv (st (qC s (qA s a+5)))),pb 0 98 (r3 s (qA s (qA s a+5)) k)] (zY [0] 121 (qbg s (qA s a+5) k hs hr (by omega)) oz)<|qB<|qB<|yC qD 1 [.k3,.n,.r] [ps 23 (bv (!(jF (qC s (qA s a+5)))))] (zO 145 (vname_pc (qC s (qA s a+5)) (by omega)) oz) ?_
  by_cases h2:(jF (qC s (qA s a+5)))=true
  ·refine qR (congrArg Bool.not h2)<|qF<|qB<|qH qD [.k3,.n,.d,.k2,.n] [ps 4 (.opt 177 0),pb 177 44 [(sv (st (qC s (qA s a+5)))),sn]]<|qB<|qQ qD [] [.k2,.d,.k1,.d,.n,.r] [pb 0 98 [(sv (st s)),(iv (((qA s (qA s a+5):Nat):Int)+(((qC s (qA s a+5)).length:Nat):Int))),(iv k)]] (oi (((qA s (qA s a+5):Nat):Int)+(((qC s (qA s a+5)).length:Nat):Int)) (by omega) oz)<|qj (Wk.eq (show _=[ps 0 (.opt 0 0),ps 2 (.opt 1 0),ps 4 (.opt 177 0),pb 0 98 (r3 s (qA s (qA s a+5)+(qC s (qA s a+5)).length) k),pb 1 44 [se,sn],pb 177 44 [(sv (st (qC s (qA s a+5)))),sn]] from by rfl)) ?_
   refine qB<|qX<|qj (Wk.nilc (B:=44) (cells:=[(sv (st (qC s (qA s a+5)))),sn]) 177 1 47 (by kernel_rfl) rfl)<|qj (Wk.less (l':=[ps 0 (.opt 0 0),ps 2 (.opt 1 0),ps 4 (.opt 177 0),pb 0 98 (r3 s (qA s (qA s a+5)+(qC s (qA s a+5)).length) k),pb 1 44 [se,sn],pb 177 44 [(sv (st (qC s (qA s a+5)))),(.osl 273 0 0)],pb 273 47 []]) 274 (by kernel_rfl) (by kernel_rfl))<|qj (Wk.eq (show _=[ps 0 (.opt 0 0),ps 2 (.opt 1 0),ps 4 (.opt 177 0),pb 0 98 (r3 s (qA s (qA s a+5)+(qC s (qA s a+5)).length) k),pb 1 44 [se,sn],pb 177 44 [(sv (st (qC s (qA s a+5)))),(.osl 273 0 (([]:List Br).length))],pb 273 47 (yU ([]:List Br))] from by rfl)) ?_
   refine zy (α:={x:List Br × Nat × Int // x.2.1≤s.length∧x.1.length≤1024∧vcL s (1024-x.1.length) x.1 x.2.1 x.2.2=vcL s 1024 [] (qA s (qA s a+5)+(qC s (qA s a+5)).length) k}) (fun x=>[ps 0 (.opt 0 0),ps 2 (.opt 1 0),ps 4 (.opt 2 0),pb 0 98 (r3 s x.1.2.1 x.1.2.2),pb 1 44 [se,sn],pb 2 44 [(sv (st (qC s (qA s a+5)))),(.osl 3 0 x.1.1.length)],pb 3 47 (yU x.1.1)]) (fun x=>1024-x.1.1.length) 4 ⟨([],(qA s (qA s a+5)+(qC s (qA s a+5)).length),k),⟨hwl2,Nat.zero_le _,rfl⟩⟩ (Wk.ren3 _ 1 hc0 [0,1,177,273] [(kb 3,(yU ([]:List Br)))] (oc (yj _) (oz)) (by kernel_rfl) rfl rfl (by kernel_rfl) (by kernel_rfl)) ?_
   rintro ⟨⟨l,b,z⟩,⟨hb,hl1,hg⟩⟩
   dsimp only at hb hl1 hg
   refine qB<|qB<|QB qD 1 [ps 0 (.opt 0 0),ps 2 (.opt 1 0),ps 4 (.opt 2 0),ps 38 (bv (qP s b 124)),pb 0 98 (r3 s (qA s b) z),pb 1 44 [se,sn],pb 2 44 [(sv (st (qC s (qA s a+5)))),(.osl 3 0 l.length)],pb 3 47 (yU l)] (zY [0] 12 (qfg s b z 124 hs (by omega)) oz) ?_
   by_cases h3:(qP s b 124)=true
   ·refine qL (b:=(qP s b 124)) rfl h3<|qF<|qX<|qB<|qB ?_
    have hlt:=zM h3
    refine qH qD [.k3,.d,.n,.r] [ps 42 (bv (decide (((l.length:Nat):Int)=1024)))] ?_
    by_cases h4:(l.length:Int)=1024
    ·refine qS (decide_eq_true h4) ?_
     have hvl:vcL s 1024 [] (qA s (qA s a+5)+(qC s (qA s a+5)).length) k=(5,[],qA s b,0):=by rw [← hg,ZO (by omega),if_pos h3,if_pos (by omega)]
     rw [show (jB s a k)=(5,vS,qA s b,0) from by rw [jB,if_pos (show qC s a=vow from h1),if_pos h2,hvl,if_neg (by show ¬ ((5:Int)=0);decide)],if_neg (by show ¬ ((5:Int)=0);decide)]
     exact vV qD [(1,.call [0] [(.opt 0 0),(iv 5)] [some (98,(r3 s (qA s b) z))] (.av (yY 5 (qA s b:Int))) [none])] [] 1 [] (Qx [0] 60 (yT s (qA s b) z 5) oz) (fun cx_ a_ hI_=>wH (zv hc0 hI_))
    refine qR (decide_eq_false h4)<|qF<|qB<|qQ qD [] [.k3,.d,.d,.n,.r] [pb 0 98 [(sv (st s)),(iv (((qA s b:Nat):Int)+1)),(iv z)]] (oi (((qA s b:Nat):Int)+1) (by omega) oz)<|qj (Wk.eq (show _=[ps 0 (.opt 0 0),ps 2 (.opt 1 0),ps 4 (.opt 2 0),pb 0 98 (r3 s (qA s b+1) z),pb 1 44 [se,sn],pb 2 44 [(sv (st (qC s (qA s a+5)))),(.osl 3 0 l.length)],pb 3 47 (yU l)] from by rfl)) ?_
    by_cases h5:(wR s (qA s b+1)).1=0
    ·refine wC qD [(3,.call [0] [(.opt 0 0)] [some (98,(r3 s (qA s b+1) z))] (.agg [(iv (((wR s (qA s b+1)).2.1).1)),(iv (((wR s (qA s b+1)).2.1).2.1)),(.ssl (zP (((wR s (qA s b+1)).2.1).2.2)) 0 ((((wR s (qA s b+1)).2.1).2.2).length))]) [some (98,(vB s ((wR s (qA s b+1)).2.2.1) ((wR s (qA s b+1)).2.2.2))),none]),(5,.app none (some (yU (l++[(wR s (qA s b+1)).2.1]))))] (VB [(0,0),(0,1),(0,0),(2,1),(2,2),(0,5),(0,6),(0,7)]) [([104],[8]),([106],[5,104]),([108],[0]),([110,1,281],[1,108]),([112,297],[110]),([114,7,313],[7,106,112,297]),([116],[8]),([5],[5,114,116])] [.k3,.d,.n,.k1,.d,.n,.d,.n] [pb 0 98 (vB s ((wR s (qA s b+1)).2.2.1) ((wR s (qA s b+1)).2.2.2)),pb 2 44 [(sv (st (qC s (qA s a+5)))),(.osl 156 0 (l.length+1))],pb 156 47 (yU (l++[(wR s (qA s b+1)).2.1]))] (zY [0] 140 (jM (bar_po s hs hr (qA s b+1) z (by omega)) h5) (oc (Ww _:((yU l)).length=l.length*3) (oc (by omega:(l.length+1)*40≤140737488355328∧l.length+1≤9223372036854775807) (oc (Yy l _:(yU l)++[(iv (((wR s (qA s b+1)).2.1).1)),(iv (((wR s (qA s b+1)).2.1).2.1)),(.ssl (zP (((wR s (qA s b+1)).2.1).2.2)) 0 ((((wR s (qA s b+1)).2.1).2.2).length))]=(yU (l++[(wR s (qA s b+1)).2.1]))) oz))))<|qZ ?_
     exact qq ⟨(l++[(wR s (qA s b+1)).2.1],(wR s (qA s b+1)).2.2.1,(((wR s (qA s b+1)).2.2.2:Nat):Int)),⟨(brR_end (s:=s) (a:=qA s b+1) hlt h5).2,by simp only [List.length_append,List.length_singleton];omega,by rw [ZO (by omega),if_pos h3,if_neg (by omega),if_pos h5] at hg;rw [List.length_append];exact hg⟩⟩ (Wk.trans (Wk.eq (show _=[ps 0 (.opt 0 0),ps 2 (.opt 1 0),ps 4 (.opt 2 0),pb 0 98 (vB s ((wR s (qA s b+1)).2.2.1) ((wR s (qA s b+1)).2.2.2)),pb 1 44 [se,sn],pb 2 44 [(sv (st (qC s (qA s a+5)))),(.osl 156 0 ((l++[(wR s (qA s b+1)).2.1]).length))],pb 156 47 (yU (l++[(wR s (qA s b+1)).2.1]))] from by rw [List.length_append];rfl)) (Wk.ren3 _ 1 hc0 [0,1,2,156] [(kb 3,(yU (l++[(wR s (qA s b+1)).2.1])))] (oc (yj _) (oz)) (by kernel_rfl) rfl rfl (by kernel_rfl) (by kernel_rfl))) (show 1024-(l++[(wR s (qA s b+1)).2.1]).length<1024-l.length from by simp only [List.length_append,List.length_singleton];omega)
    have hvl:vcL s 1024 [] (qA s (qA s a+5)+(qC s (qA s a+5)).length) k=((wR s (qA s b+1)).1,[],(wR s (qA s b+1)).2.2.1,0):=by rw [← hg,ZO (by omega),if_pos h3,if_neg (by omega),if_neg h5]
    rw [show (jB s a k)=((wR s (qA s b+1)).1,vS,(wR s (qA s b+1)).2.2.1,0) from by rw [jB,if_pos (show qC s a=vow from h1),if_pos h2,hvl,if_neg h5],if_neg h5]
    exact vV qD [(3,.call [0] [(.opt 0 0)] [some (98,(r3 s (qA s b+1) z))] (.av (yY ((wR s (qA s b+1)).1) (((wR s (qA s b+1)).2.2.1:Nat):Int))) [none])] [4,5,6,7] 3 [] (Qx [0] 140 (jD (bar_po s hs hr (qA s b+1) z (by omega)) h5) oz) (fun cx_ a_ hI_=>wH (zv hc0 hI_))
   refine qO (b:=(qP s b 124)) rfl (Bool.eq_false_iff.2 h3)<|zI rfl rfl<|qB<|qH qD [.d,.k1,.d,.d,.k1,.d,.n,.d,.r] [pb 1 44 [(sv (st (qC s (qA s a+5)))),(.osl 3 0 l.length)]] ?_
   have hvl:vcL s 1024 [] (qA s (qA s a+5)+(qC s (qA s a+5)).length) k=(0,l,qA s b,z):=by rw [← hg,ZO (by omega),if_neg h3]
   rw [show (jB s a k)=(0,((qC s (qA s a+5)),l),qA s b,z) from by rw [jB,if_pos (show qC s a=vow from h1),if_pos h2,hvl,if_pos rfl],if_pos rfl]
   refine qj (Wk.frz (l':=[ps 2 (.opt 1 0),pb 0 98 (r3 s (qA s b) z),pb 1 44 [(sv (st (qC s (qA s a+5)))),(.ssl (yU l) 0 l.length)],(kb 3,none)]) 3 (T:=47) (cs:=(yU l)) (by kernel_rfl) (yj _) (by kernel_rfl)) ?_
   exact qk hc0 [2] [0,1] (hbk:=by exact oc rfl (oz))
  refine qS (congrArg Bool.not (Bool.eq_false_iff.2 h2)) ?_
  rw [show (jB s a k)=(2,vS,qA s (qA s a+5),0) from by rw [jB,if_pos (show qC s a=vow from h1),if_neg h2],if_neg (by show ¬ ((2:Int)=0);decide)]
  exact vV qD [(1,.call [0] [(.opt 0 0),(iv 2)] [some (98,(r3 s (qA s (qA s a+5)) k))] (.av (yY 2 (qA s (qA s a+5):Int))) [none])] [] 1 [] (Qx [0] 169 (yT s (qA s (qA s a+5)) k 2) oz) (fun cx_ a_ hI_=>zv hc0 hI_)
 refine qS (bf h1) ?_
 rw [show (jB s a k)=(2,vS,qA s a,0) from by rw [jB,if_neg (show ¬ qC s a=vow from h1)],if_neg (by show ¬ ((2:Int)=0);decide)]
 exact vV qD [(1,.call [0] [(.opt 0 0),(iv 2)] [some (98,(r3 s (qA s a) k))] (.av (yY 2 (qA s a:Int))) [none])] [] 1 [] (Qx [0] 57 (yT s (qA s a) k 2) oz) (fun cx_ a_ hI_=>zv hc0 hI_)
theorem lit_nil (l:List Vo):PD Tryz.prog 37 [.opt 0 0,.opt 1 0] [some (22,[(.ssl (yD l) 0 l.length)]),some (33,[(iv 0),(iv 0)])] (.returning) (.returning) [some (22,[(.ssl (yD l) 0 l.length)]),some (33,[(iv 0),(iv 0)])]:=by
 refine qjo (x:=.nilIface) Tryz.func37 rfl (by kernel_rfl) rfl rfl rfl (by kernel_rfl) recs_ret (Nat.le_of_ble_eq_true rfl) (by kernel_rfl) rfl (fun c0 Bor hc0=>?_)
 refine qX<|qB<|zD qD [] [ps 0 (.opt 0 0),ps 1 (.opt 1 0),ps 5 (.av .nilIface),ps 7 (bv true),pb 0 22 [(.ssl (yD l) 0 l.length)],pb 1 33 [(iv 0),(iv 0)]] (oz)<|qL (b:=true) rfl rfl<|qH qD [.d,.d,.d,.d,.r] []<|qZ ?_
 exact fun cx_ a_ hI_=>jz (H':=[some (22,[(.ssl (yD l) 0 l.length)]),some (33,[(iv 0),(iv 0)])]) (.inl rfl) (Wk.ren2 [pb 0 22 [(.ssl (yD l) 0 l.length)],pb 1 33 [(iv 0),(iv 0)]] 2 hc0 [0,1] rfl rfl (by kernel_rfl) (by kernel_rfl)) rfl (oc rfl (oc rfl (oz))) (fun cx_ a_ hI_=>wN (l':=[pb 0 22 [(.ssl (yD l) 0 l.length)],pb 1 33 [(iv 0),(iv 0)]]) (by kernel_rfl) cx_ a_ hI_) hI_
theorem lit_pan (v:Value) (e a:Int):PD Tryz.prog 37 [.opt 0 0,.opt 1 0] [some (22,[(.av v)]),some (33,[(iv 0),(iv 0)])] (.panicking [{ v:=yY e a,recovered:=false }]) (.panicking [{ v:=yY e a,recovered:=true }]) [some (22,[sn]),some (33,[(iv e),(iv a)])]:=by
 refine qjo (x:=(yY e a)) Tryz.func37 rfl (by kernel_rfl) rfl rfl rfl (by kernel_rfl) (recs_pan _) (Nat.le_of_ble_eq_true rfl) (by kernel_rfl) rfl (fun c0 Bor hc0=>?_)
 refine qX<|qB<|zD qD [] [ps 0 (.opt 0 0),ps 1 (.opt 1 0),ps 5 (.av (yY e a)),ps 7 (bv false),pb 0 22 [(.av v)],pb 1 33 [(iv 0),(iv 0)]] (oz)<|qO (b:=false) rfl rfl<|qB<|qH qD [.k3,.d,.n,.n,.r] [ps 9 (bv true),ps 10 (.av (.agg #[.int .i64 e,.int .i64 a]))]<|qL (b:=true) rfl rfl<|qB<|qH qD [.k2,.n,.d,.d,.d,.k2,.n] [ps 3 (.opt 34 0),pb 34 95 [(iv e),(iv a)]]<|VA qD [] [[],[],[0,1]] [([22],[6,69]),([1],[0,1]),([3],[2,3,22])] [pb 0 22 [sn],pb 1 33 [(iv e),(iv a)]] (oz)<|qZ ?_
 exact fun cx_ a_ hI_=>jz (H':=[some (22,[sn]),some (33,[(iv e),(iv a)])]) (.inl rfl) (Wk.ren2 [pb 0 22 [sn],pb 1 33 [(iv e),(iv a)]] 2 hc0 [0,1] rfl rfl (by kernel_rfl) (by kernel_rfl)) rfl (oc rfl (oc rfl (oz))) (fun cx_ a_ hI_=>wN (l':=[pb 0 22 [sn],pb 1 33 [(iv e),(iv a)]]) (by kernel_rfl) cx_ a_ hI_) hI_
abbrev rdP (s:zX):Int × List Vo × Nat:=rdL s 64 [] 0 0
def RQ (s:zX) (c0:Cx) (Bor:BorD):VY:=fun e cx a=>∃ m l,Inv ⟨Tryz.prog,Tryz.f15.ntmps,c0,Bor⟩ (· < m) cx (get l) a∧get l (ks 2)=some (.pv (.opt 0 0))∧get l (ks 3)=some (.pv (.opt 1 0))∧get l (kb 1)=some (.blk 33 [iv 0,iv 0]) ∧
 ((e = .ret∧(rdP s).1=0∧get l (kb 0)=some (.blk 22 [.ssl (yD (rdP s).2.1) 0 (rdP s).2.1.length]))∨(e=chn (yY (rdP s).1 (((rdP s).2.2:Nat):Int))∧¬ (rdP s).1=0∧∃ p,get l (kb 0)=some (.blk 22 [p])))
theorem read_rest (s:zX) (hs:s.length≤65536) (hr:Rdy s) {o0 o1 o3:Array Oper} {c2 rest:Code} (hb:Tryz.f15.body=some (.seq (.region 0 o0 false) (.seq (.seq (.region 1 o1 false) c2) (.seq (.region 3 o3 false) rest)))) (c0:Cx) (Bor:BorD) (hc0:∀ i x,c0.own i=some x→i<2) :
  T Tryz.prog Tryz.f15.ntmps c0 Bor (RQ s c0 Bor) 2 ([(ks 2,some (.pv (.opt 0 0))),(ks 3,some (.pv (.opt 1 0))),(kb 0,some (.blk 22 [.av (.slice none 0 0)])),(kb 1,some (.blk 33 [iv 0,iv 0]))]++[((0:Nat),(sv (st s)))].map fun x=>(ks x.1,some (.pv x.2))) [.code rest]:=by
 cases hb
 refine qB<|zD qD [] [ps 2 (.opt 0 0),ps 3 (.opt 1 0),ps 4 (.opt 18 0),pb 0 22 [sn],pb 1 33 [(iv 0),(iv 0)],pb 18 98 [(sv (st s)),(iv 0),(iv 0)]] (oz)<|qj (Wk.eq (show _=[ps 2 (.opt 0 0),ps 3 (.opt 1 0),ps 4 (.opt 18 0),pb 0 22 [sn],pb 1 33 [(iv 0),(iv 0)],pb 18 98 (r3 s 0 0)] from by rfl)) ?_
 refine qB<|qX<|qj (Wk.nilc (B:=22) (cells:=[sn]) 0 0 44 (by kernel_rfl) rfl)<|qj (Wk.less (l':=[ps 2 (.opt 0 0),ps 3 (.opt 1 0),ps 4 (.opt 18 0),pb 0 22 [(.osl 34 0 0)],pb 1 33 [(iv 0),(iv 0)],pb 18 98 (r3 s 0 0),pb 34 44 []]) 35 (by kernel_rfl) (by kernel_rfl))<|qj (Wk.eq (show _=[ps 2 (.opt 0 0),ps 3 (.opt 1 0),ps 4 (.opt 18 0),pb 0 22 [(.osl 34 0 (([]:List Vo).length))],pb 1 33 [(iv 0),(iv 0)],pb 18 98 (r3 s 0 0),pb 34 44 (yD ([]:List Vo))] from by rfl)) ?_
 refine zy (α:={x:List Vo × Nat × Int // x.2.1≤s.length∧x.1.length≤64∧rdL s (64-x.1.length) x.1 x.2.1 x.2.2=rdP s}) (fun x=>[ps 2 (.opt 0 0),ps 3 (.opt 1 0),ps 4 (.opt 2 0),pb 0 22 [(.osl 3 0 x.1.1.length)],pb 1 33 [(iv 0),(iv 0)],pb 2 98 (r3 s x.1.2.1 x.1.2.2),pb 3 44 (yD x.1.1)]) (fun x=>64-x.1.1.length) 4 ⟨([],0,0),⟨Nat.zero_le _,Nat.zero_le _,rfl⟩⟩ (Wk.ren3 _ 2 hc0 [0,1,18,34] [(kb 3,(yD ([]:List Vo)))] (oc (yP _) (oz)) (by kernel_rfl) rfl rfl (by kernel_rfl) (by kernel_rfl)) ?_
 rintro ⟨⟨l,b,z⟩,⟨hb,hl1,hg⟩⟩
 dsimp only at hb hl1 hg
 refine qB<|qB<|QB qD 1 [ps 2 (.opt 0 0),ps 3 (.opt 1 0),ps 4 (.opt 2 0),ps 15 (bv (!(decide (((qA s b:Nat):Int)=(s.length:Int))))),pb 0 22 [(.osl 3 0 l.length)],pb 1 33 [(iv 0),(iv 0)],pb 2 98 (r3 s (qA s b) z),pb 3 44 (yD l)] (zY [2] 12 (Wq s b z hs (by omega)) oz) ?_
 by_cases h1:(qA s b:Int)=(s.length:Int)
 ·refine qR (bt h1)<|zI rfl rfl<|qB<|qH qD [.k2,.d,.d,.k2,.d,.r] [] ?_
  have hR:rdP s=(0,l,0):=by rw [← hg,ZQ (by omega),if_pos (by omega)]
  refine qj (Wk.frz (l':=[ps 2 (.opt 0 0),ps 3 (.opt 1 0),pb 0 22 [(.ssl (yD l) 0 l.length)],pb 1 33 [(iv 0),(iv 0)],(kb 3,none)]) 3 (T:=44) (cs:=(yD l)) (by kernel_rfl) (yP _) (by kernel_rfl))<|qj (Wk.less (l':=[ps 2 (.opt 0 0),ps 3 (.opt 1 0),pb 0 22 [(.ssl (yD l) 0 l.length)],pb 1 33 [(iv 0),(iv 0)]]) 60 (by kernel_rfl) (by kernel_rfl)) ?_
  exact yk fun cx_ a_ hI_=>⟨_,_,hI_,rfl,rfl,rfl,.inl ⟨rfl,by rw [hR],by rw [hR];rfl⟩⟩
 refine qS (bf h1)<|qF<|qX<|qB<|qB ?_
 have hgl:=zR hb
 refine qH qD [.k3,.d,.n,.r] [ps 18 (bv (decide (((l.length:Nat):Int)=64)))] ?_
 by_cases h2:(l.length:Int)=64
 ·refine qS (decide_eq_true h2) ?_
  have hR:rdP s=(5,[],qA s b):=by rw [← hg,ZQ (by omega),if_neg (by omega),if_pos (by omega)]
  exact vV qD [(1,.call [2] [(.opt 0 0),(iv 5)] [some (98,(r3 s (qA s b) z))] (.av (yY 5 (qA s b:Int))) [none])] [] 1 [ps 2 (.opt 0 0),ps 3 (.opt 1 0),pb 0 22 [(.osl 3 0 l.length)],pb 1 33 [(iv 0),(iv 0)]] (Qx [2] 60 (yT s (qA s b) z 5) oz) (fun cx_ a_ hI_=>wH (⟨_,_,hI_,rfl,rfl,rfl,.inr ⟨by rw [hR],by rw [hR];exact (by show ¬ ((5:Int)=0);decide),_,rfl⟩⟩))
 refine qR (decide_eq_false h2)<|qF ?_
 by_cases h3:(jB s (qA s b) z).1=0
 ·refine wC qD [(2,.call [2] [(.opt 0 0)] [some (98,(r3 s (qA s b) z))] (.agg [(sv (st (((jB s (qA s b) z).2.1).1))),(.ssl (yU (((jB s (qA s b) z).2.1).2)) 0 ((((jB s (qA s b) z).2.1).2).length))]) [some (98,(r3 s ((jB s (qA s b) z).2.2.1) ((jB s (qA s b) z).2.2.2))),none]),(4,.app none (some (yD (l++[(jB s (qA s b) z).2.1]))))] [[],[],[1],[1,2],[0,1,2,3],[0,1,2,3,4]] [([42],[1,4]),([44],[8]),([46,5,137],[5,44]),([48,153],[46]),([50,7,169],[7,42,48,153]),([1],[1,4,50])] [.k3,.d,.d,.n,.k1,.d,.n,.d,.n] [pb 0 22 [(.osl 84 0 (l.length+1))],pb 2 98 (r3 s ((jB s (qA s b) z).2.2.1) ((jB s (qA s b) z).2.2.2)),pb 84 44 (yD (l++[(jB s (qA s b) z).2.1]))] (zY [2] 68 (jM (qik s hs hr (qA s b) z (by omega)) h3) (oc (qdf _:((yD l)).length=l.length*2) (oc (by omega:(l.length+1)*40≤140737488355328∧l.length+1≤9223372036854775807) (oc (qaw l _:(yD l)++[(sv (st (((jB s (qA s b) z).2.1).1))),(.ssl (yU (((jB s (qA s b) z).2.1).2)) 0 ((((jB s (qA s b) z).2.1).2).length))]=(yD (l++[(jB s (qA s b) z).2.1]))) oz))))<|qZ ?_
  exact qq ⟨(l++[(jB s (qA s b) z).2.1],(jB s (qA s b) z).2.2.1,(jB s (qA s b) z).2.2.2),⟨(vcR_end (s:=s) (a:=qA s b) (zR hb) h3).2,by simp only [List.length_append,List.length_singleton];omega,by rw [ZQ (by omega),if_neg (by omega),if_neg (by omega),if_pos h3] at hg;rw [List.length_append];exact hg⟩⟩ (Wk.trans (Wk.eq (show _=[ps 2 (.opt 0 0),ps 3 (.opt 1 0),ps 4 (.opt 2 0),pb 0 22 [(.osl 84 0 ((l++[(jB s (qA s b) z).2.1]).length))],pb 1 33 [(iv 0),(iv 0)],pb 2 98 (r3 s ((jB s (qA s b) z).2.2.1) ((jB s (qA s b) z).2.2.2)),pb 84 44 (yD (l++[(jB s (qA s b) z).2.1]))] from by rw [List.length_append];rfl)) (Wk.ren3 _ 2 hc0 [0,1,2,84] [(kb 3,(yD (l++[(jB s (qA s b) z).2.1])))] (oc (yP _) (oz)) (by kernel_rfl) rfl rfl (by kernel_rfl) (by kernel_rfl))) (show 64-(l++[(jB s (qA s b) z).2.1]).length<64-l.length from by simp only [List.length_append,List.length_singleton];omega)
 have hR:rdP s=((jB s (qA s b) z).1,[],(jB s (qA s b) z).2.2.1):=by rw [← hg,ZQ (by omega),if_neg (by omega),if_neg (by omega),if_neg h3]
 exact vV qD [(2,.call [2] [(.opt 0 0)] [some (98,(r3 s (qA s b) z))] (.av (yY ((jB s (qA s b) z).1) (((jB s (qA s b) z).2.2.1:Nat):Int))) [none])] [3,4,5] 2 [ps 2 (.opt 0 0),ps 3 (.opt 1 0),pb 0 22 [(.osl 3 0 l.length)],pb 1 33 [(iv 0),(iv 0)]] (Qx [2] 68 (jD (qik s hs hr (qA s b) z (by omega)) h3) oz) (fun cx_ a_ hI_=>wH (⟨_,_,hI_,rfl,rfl,rfl,.inr ⟨by rw [hR],by rw [hR];exact h3,_,rfl⟩⟩))
def resR (q:Int × List Vo × Nat):PV:=.tup [.ssl (yD q.2.1) 0 q.2.1.length,.agg [iv q.1,iv (q.2.2:Int)]]
def RF (s:zX) (c0:Cx) (Bor:Nat→Prop):Ending→World→Prop:=fun e w'=>∃ v c',e = .returned v∧c'.w=w'∧Heap ⟨Tryz.prog,0,c0,⟨Bor,[]⟩⟩ (· < 0) c' (fun _=>none)∧Rep Tryz.prog c' (resR (yX s)) v
def QF (s:zX) (c0:Cx) (Bor:Nat→Prop):VY:=fun e cx a=>match e with
 | .normal=>Leaves Tryz.prog Tryz.f15 a.tmps (RF s c0 Bor) a.defers .returning cx.w
 | .ret=>Leaves Tryz.prog Tryz.f15 a.tmps (RF s c0 Bor) a.defers .returning cx.w
 | .panic ch=>Leaves Tryz.prog Tryz.f15 a.tmps (RF s c0 Bor) a.defers (.panicking ch) cx.w
 | _=>False
theorem fin_ret {s:zX} {c0:Cx} {Bor:Nat→Prop} {m:Nat} {cx:Cx} {a:Act} {l:L} {r:PV} (hc0:∀ i x,c0.own i=some x→i<0) (hI:Inv ⟨Tryz.prog,Tryz.f15.ntmps,c0,⟨Bor,[]⟩⟩ (· < m) cx (get l) a)
  (hr:runv (get l) (resP Tryz.prog Tryz.f15.results.toList fun ps=>.done (qgc ps) [])=some (r,[])) (hd:dsh r=true) (he:r=resR (yX s)):QF s c0 Bor .ret cx a:=by
 obtain ⟨v,h1,h2⟩:=wN hr cx a hI
 show Leaves Tryz.prog Tryz.f15 a.tmps (RF s c0 Bor) a.defers .returning cx.w
 rw [show a.defers=[] from hI.dfr]
 exact ⟨v,h1,v,⟨cx.w,cx.S,c0.own⟩,rfl,rfl,(hI.toHeap.bare hc0).envD,by rw [← he];exact .sh (rep_dsh (c:=cx) h2 hd)⟩
theorem rf_of {s:zX} {c0:Cx} {Bor:Nat→Prop} {c':Cx} {r:PV} {v:Value} {own2:Nat→Option (Option Nat × TypeId)} (h:Heap ⟨Tryz.prog,0,c0,⟨Bor,[]⟩⟩ (· < 0) ⟨c'.w,c'.S,c0.own⟩ (fun _=>none)) (hr:Rep Tryz.prog ⟨c'.w,c'.S,own2⟩ r v) (hd:dsh r=true) (he:r=resR (yX s)):RF s c0 Bor (.returned v) c'.w :=
 ⟨v,⟨c'.w,c'.S,c0.own⟩,rfl,rfl,h,by rw [← he];exact .sh (rep_dsh (c:=⟨c'.w,c'.S,own2⟩) hr hd)⟩
theorem read_defer {s:zX} (hs:s.length≤65536) (hr:Rdy s) {o0 o1 o3:Array Oper} {c2 rest:Code} (hb:Tryz.f15.body=some (.seq (.region 0 o0 false) (.seq (.seq (.region 1 o1 false) c2) (.seq (.region 3 o3 false) rest)))) {c0:Cx} {Bor:Nat→Prop} (hc0:∀ i x,c0.own i=some x→i<0)
  {n0 i1:Nat} {l:L} (hi1:Nat.blt 0 i1=true) (g0:get l (ks 0)=some (.pv (sv (st s)))) (g2:get l (ks 2)=some (.pv (.opt 0 0))) (g3:get l (ks 3)=some (.pv (.opt i1 0))) (g9:get l (ks 9)=none) (gb0:get l (kb 0)=some (.blk 22 [.av (.slice none 0 0)])) (gb1:get l (kb i1)=some (.blk 33 [iv 0,iv 0])) :
  T Tryz.prog Tryz.f15.ntmps c0 ⟨Bor,[]⟩ (QF s c0 Bor) n0 l [.code (.seq (.region 3 o3 false) rest)]:=by
 intro cx a hI
 have ho3 : o3 = #[{ dst := some 9, op := .makeFunc (.func 37) #[] #[.tmp 2, .tmp 3], type := 1, pos := "read.go:213", after := #[], guard := none }, { dst := none, op := .defer { callee := .value (.tmp 9), args := #[], argTypes := #[] }, type := 0, pos := "read.go:213", after := #[{ on := 0, ground := .data }], guard := none }] := by cases hb; rfl
 have hv2:∃ b T,cx.own 0=some (some b,T)∧a.tmps.getD 2 undef = .pointer (some ⟨b,0,none⟩):=wy (hI.slot 2 _ g2)
 have hv3:∃ b T,cx.own i1=some (some b,T)∧a.tmps.getD 3 undef = .pointer (some ⟨b,0,none⟩):=wy (hI.slot 3 _ g3)
 obtain ⟨b2,T2,hown2,hp2⟩:=hv2
 obtain ⟨b3,T3,hown3,hp3⟩:=hv3
 have hsz:a.tmps.size=Tryz.f15.ntmps:=hI.tmps
 show (Code.seq (.region 3 o3 false) rest).wp Tryz.prog _ a cx.w
 refine wp_seq (wp_region ?_)
 subst ho3
 show wpOps Tryz.prog _ _ [0,1] a cx.w
 refine wp_one (o := { dst := some 9, op := .makeFunc (.func 37) #[] #[.tmp 2, .tmp 3], type := 1, pos := "read.go:213", after := #[], guard := none }) rfl rfl ?_
 unfold Oper.wp
 rw [show (execOp a.eval ({ dst := some 9, op := .makeFunc (.func 37) #[] #[.tmp 2, .tmp 3], type := 1, pos := "read.go:213", after := #[], guard := none } : Oper)).run Tryz.prog cx.w = .ok (.value (.func (.func 37) #[] #[a.tmps.getD 2 undef, a.tmps.getD 3 undef])) cx.w from by simp [execOp, Instr.makeFunc, Act.eval], Oper.upon_value]
 refine wp_one (o := { dst := none, op := .defer { callee := .value (.tmp 9), args := #[], argTypes := #[] }, type := 0, pos := "read.go:213", after := #[{ on := 0, ground := .data }], guard := none }) rfl rfl ?_
 unfold Oper.wp
 generalize hd:({ target:=.fn (.func 37) #[a.tmps.getD 2 undef,a.tmps.getD 3 undef],args := #[] }:Deferred)=d
 have he9:(a.put (some 9) (.func (.func 37) #[] #[a.tmps.getD 2 undef,a.tmps.getD 3 undef])).eval (.tmp 9) = .func (.func 37) #[] #[a.tmps.getD 2 undef,a.tmps.getD 3 undef]:=by
  show (a.put (some 9) _).tmps.getD 9 undef=_
  rw [qho _ _ _ _ (by rw [hsz];exact Nat.lt_of_lt_of_le (Nat.lt_succ_self 9) (Nat.le_of_ble_eq_true rfl)),if_pos rfl]
 rw [run_defer (f:=.func 37) (fs := #[]) (cs := #[a.tmps.getD 2 undef,a.tmps.getD 3 undef]) rfl he9,hd,Oper.upon_defer]
 show rest.wp Tryz.prog _ _ cx.w
 have hdf:a.defers=[]:=hI.dfr
 have hsame:∀ s p,get l (ks s)=some (.pv p)→(a.put (some 9) (.func (.func 37) #[] #[a.tmps.getD 2 undef,a.tmps.getD 3 undef])).tmps.getD s undef=a.tmps.getD s undef:=fun s p hp=>by
  rw [qho _ _ _ _ (by rw [hsz];exact Nat.lt_of_lt_of_le (Nat.lt_succ_self 9) (Nat.le_of_ble_eq_true rfl)),if_neg (fun e=>by subst e;rw [g9] at hp;cases hp)]
 have hI1:=lend_two (a2:={ a.put (some 9) (.func (.func 37) #[] #[a.tmps.getD 2 undef,a.tmps.getD 3 undef]) with defers:=d :: a.defers }) (rest:=[((0:Nat),(sv (st s)))]) hI hi1 gb0 gb1 (fun _=>rfl) (fun _=>rfl) g2 g3 (qjk _ _ _) hsame (fun x hx=>by rw [List.mem_singleton.1 hx];exact ⟨g0,fun _=>rfl⟩)
 have hc1:∀ i x,(cx.via (yq [0,i1] n0)).own i=some x→i<2:=fun i x hx=>hI1.ids i x (hI1.keep.own i x hx)
 have key:=read_rest s hs hr hb _ _ hc1 _ _ hI1
 refine wp_mono key ?_
 rintro e a3 w3 ⟨cx3,rfl,m,l3,hI3,q2,q3,q1,hcase⟩
 rw [hdf] at hI3
 have hbk:∀ (nx:Nat→Prop) (c':Cx) (g':St),Heap ⟨Tryz.prog,Tryz.f15.ntmps,cx.via (yq [0,i1] n0),⟨(jZ Tryz.prog (cx.via (yq [0,i1] n0)) [some (22,[.av (.slice none 0 0)]),some (33,[iv 0,iv 0])]).Bor.bor,[d]⟩⟩ nx c' g'→Heap ⟨Tryz.prog,0,c0,⟨Bor,[]⟩⟩ (· < 0) ⟨c'.w,c'.S,c0.own⟩ (fun _=>none):=fun nx c' g' h=>back_two hI hi1 gb0 gb1 (fun _=>rfl) (fun _=>rfl) hc0 h
 have hold:∀ i b T,(cx.via (yq [0,i1] n0)).own i=some (some b,T)→cx3.own i=some (some b,T):=fun i b T h=>hI3.keep.own i _ h
 have hw2:a3.tmps.getD 2 undef=a.tmps.getD 2 undef:=by
  obtain ⟨b,T,h1,h2⟩:=wy (hI3.slot 2 _ q2)
  rw [hold 0 b2 T2 hown2] at h1
  cases h1
  rw [h2,hp2]
 have hw3:a3.tmps.getD 3 undef=a.tmps.getD 3 undef:=by
  obtain ⟨b,T,h1,h2⟩:=wy (hI3.slot 3 _ q3)
  rw [hold 1 b3 T3 hown3] at h1
  cases h1
  rw [h2,hp3]
 have hP:yX s=rdP s:=if_neg (by omega)
 refine ⟨cx3,rfl,?_⟩
 rcases hcase with ⟨rfl,hok,q0⟩|⟨rfl,hno,p,q0⟩
 ·show Leaves Tryz.prog Tryz.f15 a3.tmps (RF s c0 Bor) a3.defers .returning cx3.w
  refine qgk (fl:=37) (t0:=2) (t1:=3) (T0:=22) (T1:=33) (Y0:=[.ssl (yD (rdP s).2.1) 0 (rdP s).2.1.length]) (Y1:=[iv 0,iv 0]) (r:=.tup [.ssl (yD (rdP s).2.1) 0 (rdP s).2.1.length,.agg [iv 0,iv 0]]) hI3 hd.symm hw2 hw3 q2 q3 q0 q1 (fun _=>rfl) (fun _=>rfl) (fun _=>rfl) (fun _=>rfl) (lit_nil (rdP s).2.1) (fun h=>by cases h) rfl (by kernel_rfl) ?_
  intro v own2 c' hh hrep
  refine rf_of (c':=c') (hbk _ ⟨c'.w,c'.S,own2⟩ _ hh) hrep rfl ?_
  rw [hP]
  show _=PV.tup [.ssl (yD (rdP s).2.1) 0 (rdP s).2.1.length,.agg [iv (rdP s).1,iv (((rdP s).2.2:Nat):Int)]]
  rw [hok,rdL_ok hok]
  rfl
 ·show Leaves Tryz.prog Tryz.f15 a3.tmps (RF s c0 Bor) a3.defers (.panicking _) cx3.w
  obtain ⟨v,hv,hh4⟩:=cell_av hI3.toHeap q0
  have hI4:Inv ⟨Tryz.prog,Tryz.f15.ntmps,cx.via (yq [0,i1] n0),⟨(jZ Tryz.prog (cx.via (yq [0,i1] n0)) [some (22,[.av (.slice none 0 0)]),some (33,[iv 0,iv 0])]).Bor.bor,[d]⟩⟩ (· < m) cx3 (get ([(kb 0,some (.blk 22 [.av v]))]++l3)) a3:=by
   rw [vY]
   exact hI3.keeps (Keep.refl _) hh4 fun s=>by rw [qal]
  have hne:∀ k,k≠kb 0→get ([(kb 0,some (.blk 22 [.av v]))]++l3) k=get l3 k:=fun k hk=>by
   rw [vY]
   exact jI (by unfold QC lk;rw [if_neg (fun e=>hk (Nat.eq_of_beq_eq_true e))];rfl) _
  refine qgk (fl:=37) (t0:=2) (t1:=3) (T0:=22) (T1:=33) (X0:=[.av v]) (X1:=[iv 0,iv 0]) (Y0:=[.av (.slice none 0 0)]) (Y1:=[iv (rdP s).1,iv (((rdP s).2.2:Nat):Int)]) (r:=.tup [.ssl [] 0 0,.agg [iv (rdP s).1,iv (((rdP s).2.2:Nat):Int)]]) hI4 hd.symm hw2 hw3 ((hne _ (by decide)).trans q2) ((hne _ (by decide)).trans q3) (by rw [vY];rfl) ((hne _ (by decide)).trans q1) (fun _=>rfl) (fun _=>rfl) (fun _=>rfl) (fun _=>rfl) (lit_pan v (rdP s).1 (((rdP s).2.2:Nat):Int)) (fun h=>by cases h) rfl (by kernel_rfl) ?_
  intro v own2 c' hh hrep
  refine rf_of (c':=c') (hbk _ ⟨c'.w,c'.S,own2⟩ _ hh) hrep rfl ?_
  rw [hP]
  show _=PV.tup [.ssl (yD (rdP s).2.1) 0 (rdP s).2.1.length,.agg [iv (rdP s).1,iv (((rdP s).2.2:Nat):Int)]]
  rw [rdL_no hno]
  rfl
theorem read_T (s:zX) (hl:s.length≤140737488351232) (hr:s.length≤65536→Rdy s) {code:Code} (hb:Tryz.f15.body=some code) (c0:Cx) (Bor:Nat→Prop) (hc0:∀ i x,c0.own i=some x→i<0) :
  T Tryz.prog Tryz.f15.ntmps c0 ⟨Bor,[]⟩ (QF s c0 Bor) 0 [ps 0 (sv (st s))] [.code code]:=by
 have hb0:=hb
 cases hb
 refine qB<|zD qD [] [ps 0 (sv (st s)),ps 2 (.opt 0 0),ps 3 (.opt 8 0),pb 0 22 [sn],pb 8 33 [(iv 0),(iv 0)]] (oz)<|qB<|qB<|zD qD [] [ps 0 (sv (st s)),ps 2 (.opt 0 0),ps 3 (.opt 8 0),ps 7 (bv (decide (65536<(s.length:Int)))),pb 0 22 [sn],pb 8 33 [(iv 0),(iv 0)]] (oz) ?_
 by_cases h1:65536<(s.length:Int)
 ·refine qS (decide_eq_true h1)<|qB<|zD qD [] [ps 2 (.opt 0 0),ps 3 (.opt 8 0),pb 0 22 [sn],pb 8 33 [(iv 4),(iv 0)]] (oz) ?_
  exact yk fun cx_ a_ hI_=>fin_ret hc0 hI_ (by kernel_rfl) rfl (by rw [show yX s=(4,[],0) from if_pos (by omega)])
 refine qR (decide_eq_false h1)<|qF ?_
 exact read_defer (by omega) (hr (by omega)) hb0 hc0 (i1:=8) (by rfl) (by rfl) (by rfl) (by rfl) (by rfl) (by rfl) (by rfl)
theorem qfp (s:zX) (hl:s.length≤140737488351232) (hr:s.length≤65536→Rdy s):PC Tryz.prog 15 [sv (st s)] [] (resR (yX s)) []:=by
 refine ⟨jA Tryz.func15 (by kernel_rfl) (by kernel_rfl),Nat.le_refl _,fun c vs hh hrl=>calls_of_wp_defers Tryz.func15 rfl (wp_mono (qas (H:=[]) (Q:=QF s) (by kernel_rfl) rfl (fun c0 Bor hc0=>read_T s hl hr rfl c0 Bor hc0) c vs hh hrl) ?_)⟩
 have hR:∀ e w',RF s c (jZ Tryz.prog c []).Bor.bor e w'→∃ v c',e = .returned v∧c'.w=w'∧Heap (jZ Tryz.prog c []) (· < ([]:Hp).length) c' (VX [])∧Rep Tryz.prog c' (resR (yX s)) v:=by
  rintro e w' ⟨v,c',rfl,rfl,h1,h2⟩
  exact ⟨v,c',rfl,rfl,h1.less fun i T cs hx=>absurd hx (qkj (fun i=>by simp) i T cs),h2⟩
 rintro e a' w' ⟨cx',rfl,h⟩
 cases e with
 | normal=>exact Qz hR h
 | ret=>exact Qz hR h
 | panic ch=>exact Qz hR h
 | exit id=>exact h.elim
 | goto l=>exact h.elim
 | outgrown=>exact h.elim
theorem lread_pc (s:zX) (hl:s.length≤140737488351232):PC Tryz.prog 15 [sv (st s)] [] (.tup [(.ssl (yD ((yX s).2.1)) 0 (((yX s).2.1).length)),(.agg [(iv ((yX s).1)),(nv ((yX s).2.2))])]) []:=qfp s hl fun h=>rdy_all h
theorem lqread_pc (s:zX) (hl:s.length≤140737488351232):PC Tryz.prog 16 [sv (st s)] [] (.tup [(.ssl (yD ((yX s).2.1)) 0 (((yX s).2.1).length)),(.agg [(iv ((yX s).1)),(nv ((yX s).2.2))])]) []:=pc_trimT [none] rfl rfl (qread_pc0 s hl)
theorem law_reads (s:zX) (hl:s.length≤140737488351232):PC Tryz.prog 4 [(sv (st s))] [] (bv true) []:=by
 refine zG Tryz.func4 rfl (by kernel_rfl) (Nat.le_of_ble_eq_true rfl) (by kernel_rfl) (l0:=[ps 0 (sv (st s))]) rfl (fun c0 Bor hc0=>?_)
 refine qB<|qH qD [.r] []<|qB<|T_r0 qD 1 [ps 0 (sv (st s)),ps 3 (.ssl (yD ((yX s).2.1)) 0 (((yX s).2.1).length)),ps 4 (.opt 48 0),pb 48 33 [(iv ((yX s).1)),(nv ((yX s).2.2))]] (zO 16 (lread_pc s hl) oz)<|qB<|yC qD 1 [.d,.k2,.n,.n,.k1,.n] [ps 5 (.ssl (yD ((yX s).2.1)) 0 (((yX s).2.1).length)),ps 6 (.opt 112 0),pb 112 33 [(iv ((yX s).1)),(nv ((yX s).2.2))]] (zO 80 (lqread_pc s hl) oz)<|qB<|zD qD ([(2,.call [] [(.ssl (yD ((yX s).2.1)) 0 (((yX s).2.1).length)),(.ssl (yD ((yX s).2.1)) 0 (((yX s).2.1).length))] [] (bv true) [])]++gy 4 3) [ps 2 (bv ((decide (((yX s).1)=((yX s).1))) && (decide ((((yX s).2.2:Nat):Int)=(((yX s).2.2:Nat):Int)))))] (zO 152 (qeb (yX s).2.1 (sz_read s).1 (by have:=(sz_read s).2;omega)) (on 3 tt oz))<|qj (Wk.eq (show _=[ps 2 (bv true)] from by simp)) ?_
 exact qk hc0 [2] []
open Go.Deep Go.ChangeShapes Go.WideShapes Go.ChangeAt Go.RowKit
def ShF (r:TypeId→List PV→Prop):List Field→List PV→Prop
 | [],ps=>ps=[]
 | f :: fs,ps=>∃ a b,ps=a++b∧r f.type a∧ShF r fs b
def Sh (P:Program):Nat→TypeId→List PV→Prop
 | 0,_,_=>False
 | n+1,t,ps=>match P.underlying t with
  | some .bool=>∃ b,ps=[.av (.bool b)]
  | some (.int k)=>∃ m,ps=[.av (.int k m)]∧(Lit.int k m).wf=true
  | some (.float k)=>∃ b,ps=[.av (.float k b)]∧(Lit.float k b).wf=true
  | some .string=>∃ s:ByteArray,ps=[.av (.string s)]∧s.size≤maxLen∧s.data.toList.length≤reachBytes
  | some (.slice e)=>∃ ess:List (List PV),ps=[.ssl ess.flatten 0 ess.length]∧ess.length≤maxLen∧ess.length*P.bytesOf e≤reachBytes∧∀ es∈ess,Sh P n e es
  | some (.struct fs)=>ShF (Sh P n) fs.toList ps
  | _=>False
mutual
def QD {H:Type}:DataW H→Nat
 | .lit (.string bytes)=>bytes.length+1
 | .lit _=>1
 | .nil=>1
 | .ptr d=>QD d+1
 | .slice elems spare=>YH elems+YH spare+1
 | .agg parts=>YH parts+1
 | .iface _ d=>QD d+1
 | .map entries=>qdc entries+1
 | .held _=>1
def YH {H:Type}:List (DataW H)→Nat
 | []=>0
 | d :: r=>QD d+YH r
def qdc {H:Type}:List (Lit × DataW H)→Nat
 | []=>0
 | x :: r=>bulkEntry x+qdc r
def bulkEntry {H:Type}:Lit × DataW H→Nat
 | (.string bytes,d)=>bytes.length+QD d+1
 | (_,d)=>QD d+1
end
mutual
def pvw:PV→Nat
 | .av (.string s)=>s.size+1
 | .ssl cs _ _=>ZE cs+1
 | .agg cs=>ZE cs+1
 | _=>1
def ZE:List PV→Nat
 | []=>0
 | p :: l=>pvw p+ZE l
end
theorem qeh:∀ a b:List PV,ZE (a++b)=ZE a+ZE b
 | [],b=>by simp [ZE]
 | p :: a,b=>by rw [List.cons_append,ZE,ZE,qeh a b];omega
theorem qbd:∀ l:List (List PV),ZE l.flatten=(l.map ZE).sum
 | []=>rfl
 | a :: l=>by rw [List.flatten_cons,qeh,qbd l,List.map_cons,List.sum_cons]
theorem sum_le {H:Type}:∀ (n:Nat) (f:Nat→Nat) (ds:List (DataW H)),ds.length=n→(∀ i (h:i<ds.length),f i≤QD ds[i])→((List.range n).map f).sum≤YH ds
 | 0,f,ds,hl,h=>by simp
 | n+1,f,[],hl,h=>by simp at hl
 | n+1,f,d :: ds,hl,h=>by
  rw [List.range_succ_eq_map,List.map_cons,List.sum_cons,List.map_map,YH]
  have h0:=h 0 (by simp)
  have h1:=sum_le n (f ∘ Nat.succ) ds (by simpa using hl) fun i hi=>by have:=h (i+1) (by simpa using hi);simpa using this
  simp only [List.getElem_cons_zero] at h0
  omega
def qff (P:Program):List Field→Nat→Option Nat
 | [],o=>some o
 | f :: fs,o=>if f.offset=o then qff P fs (o+P.cellsOf f.type) else none
def openB (P:Program) (Ts:List TypeId):Bool:=Ts.all fun t=>match P.underlying t with
 | some .bool | some (.int _) | some (.float _) | some .string=>Nat.beq (P.cellsOf t) 1
 | some (.slice e)=>Nat.beq (P.cellsOf t) 1 && Nat.ble 1 (P.cellsOf e) && Ts.contains e
 | some (.struct fs)=>qff P fs.toList 0 == some (P.cellsOf t) && fs.toList.all fun f=>Ts.contains f.type
 | _=>false
theorem List.getD_app {α:Type} {l m:List α} {i:Nat} {d:α} (h:i<l.length):(l++m).getD i d=l.getD i d:=by
 rw [List.getD_eq_getElem?_getD,List.getD_eq_getElem?_getD,List.getElem?_append_left h]
theorem List.getD_app_r {α:Type} {l m:List α} {i:Nat} {d:α} (h:l.length≤i):(l++m).getD i d=m.getD (i-l.length) d:=by
 rw [List.getD_eq_getElem?_getD,List.getD_eq_getElem?_getD,List.getElem?_append_right h]
theorem qcz {k:Nat}:∀ {ess:List (List PV)},(∀ es∈ess,es.length=k)→ess.flatten.length=ess.length*k∧∀ i j,j<k→i<ess.length→ess.flatten.getD (i*k+j) P0=(ess.getD i []).getD j P0
 | [],_=>⟨by simp,fun i j _ h=>absurd h (Nat.not_lt_zero _)⟩
 | es :: ess,h=>by
  have h0:=h es (by simp)
  obtain ⟨h1,h2⟩:=qcz (ess:=ess) fun x hx=>h x (by simp [hx])
  refine ⟨by rw [List.flatten_cons,List.length_append,h0,h1,List.length_cons,Nat.succ_mul];omega,fun i j hj hi=>?_⟩
  rw [List.flatten_cons]
  cases i with
  | zero=>rw [Nat.zero_mul,Nat.zero_add,List.getD_app (by omega)];rfl
  | succ i =>
   rw [List.getD_app_r (by rw [h0,Nat.succ_mul];omega),h0,show (i+1)*k+j-k=i*k+j from by rw [Nat.succ_mul];omega,h2 i j hj (by simpa using hi)]
   rfl
section
variable {H:Type} {enc:TypeId × Value→H} {P:Program} {w:World} {base:Nat} {held:Bool}
abbrev qcr (w:World) (ps:List PV) (cs:List Value):Prop:=wQ ps∧ps.length=cs.length∧∀ i,i<ps.length→SRep w (fun b=>b<w.heap.size) (ps.getD i P0) (cs.getD i undef)
theorem QH {p:PV} {v:Value} (h:p.one=true) (hr:SRep w (fun b=>b<w.heap.size) p v):qcr w [p] [v] :=
 ⟨fun q hq=>by simp only [List.mem_singleton] at hq;rw [hq];exact h,rfl,fun i hi=>by
  have:i=0:=by simp at hi;omega
  subst this;exact hr⟩
theorem open_fs {Ts:List TypeId} {n:Nat} (ih:∀ (t:TypeId) (cs:List Value) (x:DataW H × List MemPlace),t∈Ts→DataW.trod enc P w base (fun _=>true) held n t cs=some x→(x.1.weights P t).all (· ≤ reachBytes)=true →
  ∃ ps,Sh P n t ps∧qcr w ps cs∧cs.length=P.cellsOf t∧ZE ps≤QD x.1) (cs:List Value) :
  ∀ (fs:List Field) (xs:List (DataW H × List MemPlace)) (o e:Nat),qff P fs o=some e→e≤cs.length→(∀ f∈fs,f.type∈Ts)→xs.length=fs.length →
   (∀ (i:Nat) (f:Field),fs[i]? = some f→DataW.trod enc P w base (fun _=>true) held n f.type ((cs.drop f.offset).take (P.cellsOf f.type))=xs[i]?) →
   (DataW.weightsEach P (fs.map (·.type)) (xs.map (·.1))).all (· ≤ reachBytes)=true→∃ ps,ShF (Sh P n) fs ps∧qcr w ps ((cs.drop o).take (e-o))∧o≤e∧ZE ps≤YH (xs.map (·.1))
 | [],xs,o,e,hc,he,_,_,_,_=>by
  simp only [qff,Option.some.injEq] at hc
  subst hc
  exact ⟨[],rfl,⟨fun p hp=>(by cases hp),by simp,fun i hi=>by simp at hi⟩,Nat.le_refl _,Nat.zero_le _⟩
 | f :: fs,[],o,e,hc,he,hT,hx,hf,hw=>by simp at hx
 | f :: fs,x :: xs,o,e,hc,he,hT,hx,hf,hw=>by
  simp only [qff] at hc
  split at hc
  case isFalse=>cases hc
  rename_i ho
  simp only [List.map_cons,DataW.weightsEach,List.all_append,Bool.and_eq_true] at hw
  obtain ⟨b,hb1,hb2,hb3,hb4⟩:=open_fs ih cs fs xs _ e hc he (fun g hg=>hT g (by simp [hg])) (by simpa using hx) (fun i g hg=>by have:=hf (i+1) g (by simpa using hg);simpa using this) hw.2
  obtain ⟨a,ha1,ha2,ha3,ha4⟩:=ih f.type _ x (hT f (by simp)) (by have:=hf 0 f (by simp);simpa using this) hw.1
  rw [ho] at ha2 ha3
  have hla:(List.take (P.cellsOf f.type) (List.drop o cs)).length=P.cellsOf f.type:=ha3
  have e1:(cs.drop o).take (e-o)=(cs.drop o).take (P.cellsOf f.type)++(cs.drop (o+P.cellsOf f.type)).take (e-(o+P.cellsOf f.type)):=by
   rw [← List.drop_drop,show e-o=P.cellsOf f.type+(e-(o+P.cellsOf f.type)) from by omega,List.take_add]
  refine ⟨a++b,⟨a,b,rfl,ha1,hb1⟩,?_,by omega,by rw [qeh,List.map_cons,YH];omega⟩
  rw [e1]
  refine ⟨fun p hp=>?_,by rw [List.length_append,List.length_append,ha2.2.1,hb2.2.1],fun i hi=>?_⟩
  ·rcases List.mem_append.1 hp with h|h
   ·exact ha2.1 p h
   ·exact hb2.1 p h
  ·have hl:=ha2.2.1
   rw [List.length_append] at hi
   by_cases h:i<a.length
   ·rw [List.getD_app h,List.getD_app (by omega)]
    exact ha2.2.2 i h
   ·rw [List.getD_app_r (by omega),List.getD_app_r (by omega),← hl]
    exact hb2.2.2 _ (by omega)
theorem qel {Ts:List TypeId} (hT:openB P Ts=true):∀ (n:Nat) (t:TypeId) (cs:List Value) (x:DataW H × List MemPlace),t∈Ts→DataW.trod enc P w base (fun _=>true) held n t cs=some x→(x.1.weights P t).all (· ≤ reachBytes)=true →
  ∃ ps,Sh P n t ps∧qcr w ps cs∧cs.length=P.cellsOf t∧ZE ps≤QD x.1
 | 0,_,_,_,_,h,_=>by simp [DataW.trod] at h
 | n+1,t,cs,x,ht,h,hw=>by
  have hB:=List.all_eq_true.1 hT t ht
  split at hB
  ·rename_i hu
   obtain ⟨b,rfl,rfl⟩:=DataW.trod_bool hu h
   exact ⟨[.av (.bool b)],by simp only [Sh,hu];exact ⟨b,rfl⟩,QH rfl (.av _),(Nat.eq_of_beq_eq_true hB).symm,by simp [ZE,pvw,QD]⟩
  ·rename_i k hu
   obtain ⟨b,rfl,rfl,hwf⟩:=DataW.trod_int hu h
   exact ⟨[.av (.int k b)],by simp only [Sh,hu];exact ⟨b,rfl,hwf⟩,QH rfl (.av _),(Nat.eq_of_beq_eq_true hB).symm,by simp [ZE,pvw,QD]⟩
  ·rename_i k hu
   have:∃ b,cs=[.float k b]∧(Lit.float k b).wf=true∧x=(.lit (.float k b),[]):=by
    unfold DataW.trod at h
    rw [hu] at h
    split at h <;> simp_all
   obtain ⟨b,rfl,hwf,rfl⟩:=this
   exact ⟨[.av (.float k b)],by simp only [Sh,hu];exact ⟨b,rfl,hwf⟩,QH rfl (.av _),(Nat.eq_of_beq_eq_true hB).symm,by simp [ZE,pvw,QD]⟩
  ·rename_i hu
   obtain ⟨s,rfl,rfl,hs⟩:=DataW.trod_string hu h
   have hw9:([s.data.toList.length].all (· ≤ reachBytes))=true:=hw
   have hw8:s.data.toList.length≤reachBytes:=of_decide_eq_true (List.all_eq_true.1 hw9 s.data.toList.length (List.mem_singleton.2 rfl))
   exact ⟨[.av (.string s)],by simp only [Sh,hu];exact ⟨s,rfl,hs,hw8⟩,QH rfl (.av _),(Nat.eq_of_beq_eq_true hB).symm,by simp [ZE,pvw,QD]⟩
  ·rename_i e hu
   simp only [Bool.and_eq_true] at hB
   obtain ⟨⟨hB1,hB2⟩,hB3⟩:=hB
   have hB1:=Nat.eq_of_beq_eq_true hB1
   have hk:=Nat.le_of_ble_eq_true hB2
   have he:e∈Ts:=by simpa using hB3
   rcases DataW.trod_slice hu h with ⟨rfl,rfl⟩|⟨a,len,cap,elems,rest,m,hm,rfl,rfl,hb,hl,hcap,hel,hE,_,_⟩
   ·refine ⟨[.ssl [] 0 0],?_,QH rfl .emp,hB1.symm,by simp [ZE,pvw,QD]⟩
    simp only [Sh,hu]
    exact ⟨[],rfl,Nat.zero_le _,by simp,by simp⟩
   ·obtain rfl:m=n:=by omega
    simp only [DataW.weights,hu,List.length_map,List.all_cons,List.all_append,Bool.and_eq_true,decide_eq_true_eq] at hw
    have hwl:∀ i (hi:i<elems.length),((elems[i].1).weights P e).all (· ≤ reachBytes)=true:=by
     intro i hi
     refine List.all_eq_true.2 fun z hz=>?_
     exact List.all_eq_true.1 hw.2.1 z (VQ (List.mem_map.2 ⟨elems[i],List.getElem_mem hi,rfl⟩) z hz)
    have each:∀ i,i<len→∃ q:List PV × List Value,Sh P m e q.1∧qcr w q.1 q.2∧q.2.length=P.cellsOf e∧(∀ j,j<P.cellsOf e→w.cell? (a.add (i*P.cellsOf e+j))=some (q.2.getD j undef))∧∀ h:i<elems.length,ZE q.1≤QD (elems[i]).1:=by
     intro i hi
     have h1:=hE i hi
     rw [List.getElem?_eq_getElem (by omega),Option.bind_eq_some_iff] at h1
     obtain ⟨cs',h2,h3⟩:=h1
     obtain ⟨ps,h4,h5,h6,h7⟩:=qel hT m e cs' _ he h3 (hwl i (by omega))
     refine ⟨(ps,cs'),h4,h5,h6,fun j hj=>?_,fun _=>h7⟩
     rw [← Addr.add_add,(World.cells?_some h2).2.2 j hj]
     have:j<cs'.length:=by omega
     simp [List.getD_eq_getElem?_getD,this]
    let Q:Nat→List PV × List Value:=fun i=>if hi:i<len then (each i hi).choose else ([],[])
    have hQ:∀ i,i<len→Sh P m e (Q i).1∧qcr w (Q i).1 (Q i).2∧(Q i).2.length=P.cellsOf e∧(∀ j,j<P.cellsOf e→w.cell? (a.add (i*P.cellsOf e+j))=some ((Q i).2.getD j undef))∧∀ h:i<elems.length,ZE (Q i).1≤QD (elems[i]).1:=by
     intro i hi
     have e1:Q i=(each i hi).choose:=dif_pos hi
     rw [e1]
     exact (each i hi).choose_spec
    have hlen:((List.range len).map fun i=>(Q i).1).length=len:=by simp
    refine ⟨[.ssl ((List.range len).map fun i=>(Q i).1).flatten 0 ((List.range len).map fun i=>(Q i).1).length],?_,QH rfl ?_,hB1.symm,?_⟩
    ·simp only [Sh,hu]
     refine ⟨_,rfl,by rw [hlen];omega,by rw [hlen];exact Nat.le_trans (Nat.mul_le_mul_right _ (by omega)) hw.1,fun es hes=>?_⟩
     obtain ⟨i,hi,rfl⟩:=List.mem_map.1 hes
     exact (hQ i (List.mem_range.1 hi)).1
    ·rw [hlen]
     rcases Nat.eq_zero_or_pos len with h0|h0
     ·subst h0;exact .emp
     ·have hes:∀ es∈(List.range len).map fun i=>(Q i).1,es.length=P.cellsOf e:=fun es hes=>by
       obtain ⟨i,hi,rfl⟩:=List.mem_map.1 hes
       obtain ⟨_,h2,h3,_⟩:=hQ i (List.mem_range.1 hi)
       exact h2.2.1.trans h3
      obtain ⟨hf1,hf2⟩:=qcz hes
      rw [hlen] at hf1 hf2
      have hg:∀ i,i<len→((List.range len).map fun i=>(Q i).1).getD i []=(Q i).1:=fun i hi=>by simp [List.getD_eq_getElem?_getD,hi]
      obtain ⟨b,o,rfl,hbs,hcell⟩:=cells_from (w:=w) (a:=a) (n:=len*P.cellsOf e) (f:=fun c=>(Q (c / P.cellsOf e)).2.getD (c % P.cellsOf e) undef) (fun c hc=>by
       have hd:c / P.cellsOf e<len:=Nat.div_lt_of_lt_mul (by rw [Nat.mul_comm];exact hc)
       have:=(hQ _ hd).2.2.2.1 (c % P.cellsOf e) (Nat.mod_lt _ hk)
       rw [Nat.mul_comm,Nat.div_add_mod] at this
       exact this) (Nat.mul_pos h0 hk)
      refine SRep.ssl (a:=o) (off:=0) (vf:=fun c=>(Q (c / P.cellsOf e)).2.getD (c % P.cellsOf e) undef) hbs (fun j hj=>hcell j (by omega)) (fun j hj=>?_) (fun p hp=>?_) hl
      ·rw [hf1] at hj
       have hd:j / P.cellsOf e<len:=Nat.div_lt_of_lt_mul (by rw [Nat.mul_comm];exact hj)
       have hm:=Nat.mod_lt j hk
       have e1:=hf2 (j / P.cellsOf e) (j % P.cellsOf e) hm hd
       rw [Nat.mul_comm,Nat.div_add_mod,hg _ hd] at e1
       rw [e1]
       obtain ⟨_,h2,h3,_⟩:=hQ _ hd
       exact h2.2.2 _ (by rw [h2.2.1,h3];exact hm)
      ·obtain ⟨es,hes',hp'⟩:=List.mem_flatten.1 hp
       obtain ⟨i,hi,rfl⟩:=List.mem_map.1 hes'
       exact (hQ i (List.mem_range.1 hi)).2.1.1 p hp'
    ·simp only [ZE,pvw,QD,qbd,List.map_map]
     have:=sum_le len (ZE ∘ fun i=>(Q i).1) (elems.map (·.1)) (by simpa using hel) fun i hi=>by
      have hi':i<elems.length:=by simpa using hi
      have:=(hQ i (by omega)).2.2.2.2 hi'
      simpa using this
     omega
  ·rename_i fs hu
   simp only [Bool.and_eq_true,beq_iff_eq,List.all_eq_true] at hB
   obtain ⟨xs,m,hm,rfl,hl,hxl,hf⟩:=DataW.trod_struct hu h
   obtain rfl:m=n:=by omega
   simp only [DataW.weights,hu] at hw
   obtain ⟨ps,h1,h2,_,h4⟩:=open_fs (qel hT m) cs fs.toList xs 0 _ hB.1 (by omega) (fun f hf=>by simpa using hB.2 f hf) (by simpa using hxl) (fun i f hif=>hf i f (by simpa using hif)) hw
   rw [List.drop_zero,Nat.sub_zero,← hl,List.take_length] at h2
   exact ⟨ps,by simp only [Sh,hu];exact h1,h2,hl,by simp only [QD];omega⟩
  ·cases hB
end
theorem qds {H:Type} {P:Program} {ts:List TypeId} {ds:List (DataW H)} (h:(DataW.weightsEach P ts ds).all (· ≤ reachBytes)=true) {j:Nat} {t:TypeId} {d:DataW H} (ht:ts[j]? = some t) (hd:ds[j]? = some d):(d.weights P t).all (· ≤ reachBytes)=true :=
 List.all_eq_true.2 fun n hn=>List.all_eq_true.1 h n (DataW.weights_mem_each ht hd n hn)
theorem arg_any {H:Type} {enc:TypeId × Value→H} {P:Program} {w:World} {base:Nat} {t:TypeId} {v:Value} {d:DataW H} {pl:List MemPlace} {r:Reach} {b0:Nat} {held:Bool} {Ts:List TypeId}
  (hT:openB P Ts=true) (ht:t∈Ts) (hv:Value.okWide P w r b0 t v) (h:DataW.Trod enc P w base (fun _=>true) held t v d pl)
  {ts:List TypeId} {ds:List (DataW H)} (hs:(DataW.weightsEach P ts ds).all (· ≤ reachBytes)=true) {j:Nat} (hj:ts[j]? = some t) (hd:ds[j]? = some d) :
  ∃ n ps,Sh P n t ps∧ZE ps≤QD d∧match wU (P.underlying t) with
   | some true=>SRep w (fun b=>b<w.heap.size) (.agg ps) v
   | _=>∃ p,ps=[p]∧SRep w (fun b=>b<w.heap.size) p v:=by
 obtain ⟨n,hf⟩:=h
 obtain ⟨ps,h1,⟨h2,h3,h4⟩,h5,h6⟩:=qel hT n t _ _ ht hf (qds hs hj hd)
 refine ⟨n,ps,h1,h6,?_⟩
 have hB:=List.all_eq_true.1 hT t ht
 have one:v.cells = #[v]→∃ p,ps=[p]∧SRep w (fun b=>b<w.heap.size) p v:=fun hc=>by
  rw [hc] at h3 h4
  simp only [List.length_cons,List.length_nil] at h3
  obtain ⟨p,rfl⟩:=List.length_eq_one_iff.1 h3
  exact ⟨p,rfl,h4 0 (by simp)⟩
 split at hB
 ·rename_i hu
  obtain ⟨b,rfl⟩:=okWide_bool hu hv
  simp only [hu,wU]
  exact one rfl
 ·rename_i k hu
  obtain ⟨b,rfl⟩:=okWide_int hu hv
  simp only [hu,wU]
  exact one rfl
 ·rename_i k hu
  have:∃ b,v = .float k b:=by
   simp only [Value.okWide,hu,Cell.okWide] at hv
   cases v <;> simp_all [Cell.ok]
  obtain ⟨b,rfl⟩:=this
  simp only [hu,wU]
  exact one rfl
 ·rename_i hu
  obtain ⟨b,rfl⟩:=okWide_string hu hv
  simp only [hu,wU]
  exact one rfl
 ·rename_i e hu
  obtain ⟨a,l,c,rfl⟩:=okWide_slice hu hv
  simp only [hu,wU]
  exact one rfl
 ·rename_i fs hu
  obtain ⟨cs,rfl,hsz⟩:=okWide_struct hu hv
  simp only [hu,wU]
  simp only [Value.cells] at h3 h4
  refine .agg (by simpa using h3.symm) fun i hi=>?_
  have:=h4 i hi
  rwa [show cs.toList.getD i undef=cs.getD i undef from by rw [List.getD_eq_getElem?_getD,Array.getElem?_toList,Array.getD_eq_getD_getElem?]] at this
 ·cases hB
theorem sh_str' {P:Program} {t:TypeId} (ht:P.underlying t=some .string) {n:Nat} {ps:List PV} (h:Sh P n t ps):∃ s:ByteArray,ps=[.av (.string s)]∧s.size≤maxLen∧s.data.toList.length≤reachBytes:=by
 cases n with
 | zero=>exact h.elim
 | succ n=>simpa only [Sh,ht] using h
theorem sh_str {P:Program} {t:TypeId} (ht:P.underlying t=some .string) {n:Nat} {ps:List PV} (h:Sh P n t ps):∃ s:ByteArray,ps=[.av (.string s)]∧s.size≤maxLen:=by
 obtain ⟨s,h1,h2,_⟩:=sh_str' ht h
 exact ⟨s,h1,h2⟩
theorem str_sized2 {H:Type} {enc:TypeId × Value→H} {P:Program} {w:World} {base:Nat} {t:TypeId} {v:Value} {d:DataW H} {pl:List MemPlace} {held:Bool} {sp:Nat→Bool} (hu:P.underlying t=some .string) (h:DataW.Trod enc P w base sp held t v d pl)
  {ts:List TypeId} {ds:List (DataW H)} (hs:(DataW.weightsEach P ts ds).all (· ≤ reachBytes)=true) {j:Nat} (hj:ts[j]? = some t) (hd:ds[j]? = some d) {S:Nat→Prop} {s:ByteArray} (hv:SRep w S (.av (.string s)) v):s.data.toList.length≤140737488351232:=by
 have e:v=Value.string s:=by cases hv;rfl
 subst e
 obtain ⟨n,hf⟩:=h
 obtain ⟨s',hc,hx,_⟩:=DataW.trod_string hu hf
 have hw:=qds hs hj hd
 have hx1:=congrArg Prod.fst hx
 simp only at hx1
 subst hx1
 have hc:[Value.string s]=[Value.string s']:=hc
 injection hc with hc _
 injection hc with hc
 subst hc
 have hw:([s.data.toList.length].all (· ≤ reachBytes))=true:=hw
 have:s.data.toList.length≤reachBytes:=by
  have h9:=List.all_eq_true.1 hw s.data.toList.length (List.mem_singleton.2 rfl)
  exact of_decide_eq_true h9
 exact this
end Go.Proofs.YtmlnilkbolcknaaGreatDoor.Pm
