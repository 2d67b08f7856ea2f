/-
  A piece written: items: walk. (Printed by wip/pm.) | A piece written: walk. (Printed by wip/pm.) | SCORE: plain: how many notes there can be. No program in sight. | ScoreNotes: walk. (Printed by wip/pm.) | THE VALUE MACHINE (Open): whatever came in,by its type: numbers,truth values,floats,strings,slices and structs of such,as deep as they are. | What came in,at its types: lists of numbers,lists of such;how much they hold. | SCORE: items,bars,voices that came in. | SCORE: items,bars,voices that came in: the signs of their pitches;how many items there can be. | THE WRAP for a row whose specification bears a condition of its own AND lists variables.
-/
import Derived.Test.YtmlnilkbolcknaaGreatDoorJLawSNotes5
import Derived.Test.YtmlnilkbolcknaaGreatDoorJLawSNotes4
import Derived.Test.YtmlnilkbolcknaaGreatDoorJLawSNotes2
import Derived.Test.YtmlnilkbolcknaaGreatDoorJLawSNotes3
import Derived.Deep.CondSized
import Derived.Handed
import Derived.LaidLaws
import Derived.LaidOnce
set_option linter.unusedVariables false
set_option linter.unusedSimpArgs false
set_option linter.deprecated false
set_option maxRecDepth 100000
set_option maxHeartbeats 4000000
namespace Go.Proofs.YtmlnilkbolcknaaGreatDoor.Pm
open Go Go.Proofs.YtmlnilkbolcknaaGreatDoor.Pi
theorem pitem_step (y:It) (t:qQ) (ihL:∀ (l:List It) (t:qQ),SizeOf.sizeOf l<SizeOf.sizeOf y→t.length+(qq l).length≤140737488355328→wy l→l.length≤1466015503658→prL l→PC Tryz.prog 29 [.opt 0 0,.ssl (qO l) 0 l.length] [some (77,[(.opn 0 0),(.osl 1 0 t.length)]),some (5,(qT t))] (.tup []) [some (77,[(.opn 0 0),(.osl 2 0 ((t++qq l:qQ).length))]),none,some (5,(qT (t++qq l)))]) (hb:t.length+(zQ y).length≤140737488355328) (hfx:QP y) (hpr0:prI y):PC Tryz.prog 62 [(.opt 0 0),(.agg [(iv (iK y)),(iv (iS y)),(.ssl (zG (iP y)) 0 ((iP y).length)),(iv ((iB y).1)),(iv ((iB y).2)),(sv (st (iL y))),(.ssl (qO (iC y)) 0 ((iC y).length))])] [some (77,[(.opn 0 0),(.osl 1 0 t.length)]),some (5,(qT t))] (.tup []) [some (77,[(.opn 0 0),(.osl 2 0 ((t++zQ y:qQ).length))]),none,some (5,(qT (t++zQ y)))]:=by
 obtain ⟨hx1,hx2,hx3,hx4,hx5⟩:=(jI y).1 hfx
 have hpr:=pr_item hpr0
 have hL1:=it_len y
 refine zI Tryz.func62 rfl (by kernel_rfl) (Nat.le_of_ble_eq_true rfl) (by kernel_rfl) (l0:=[ps 0 (.opt 0 0),ps 1 (.agg [(iv (iK y)),(iv (iS y)),(.ssl (zG (iP y)) 0 ((iP y).length)),(iv ((iB y).1)),(iv ((iB y).2)),(sv (st (iL y))),(.ssl (qO (iC y)) 0 ((iC y).length))]),pb 0 77 [(.opn 0 0),(.osl 1 0 t.length)],pb 1 5 (qT t)]) rfl (fun c0 Bor hc0=>?_)
 refine qA<|qL qC [.k1,.d,.n,.k2,.n] [ps 3 (.opt 2 0),pb 2 50 [(iv (iK y)),(iv (iS y)),(.ssl (zG (iP y)) 0 ((iP y).length)),(iv ((iB y).1)),(iv ((iB y).2)),(sv (st (iL y))),(.ssl (qO (iC y)) 0 ((iC y).length))]]<|qA<|qA<|qL qC [.k2,.n,.r] [ps 7 (iv (iK y))]<|qV<|qA<|qL qC [.k3,.n,.r] [ps 36 (bv (decide ((iK y)=2)))] ?_
 by_cases h1:(iK y)=2
 ·refine qR (zP h1) ?_
  have hM:qE y=[45]:=by unfold qE;rw [if_pos (by omega)]
  have hM2:=congrArg List.length hM
  try simp only [List.length_append,List.length_cons,List.length_nil] at hM2
  refine zY qC [(3,.call [0,1] [(.opt 0 0),(.av (.int .u8 45))] [some (77,[(.opn 0 0),(.osl 1 0 t.length)]),some (5,(qT t))] (.av .nilIface) [some (77,[(.opn 0 0),(.osl 2 0 ((t++[45]:qQ).length))]),none,some (5,(qT (t++[45])))])] [.k2,.d,.d,.d,.n,.d,.k1,.n] [pb 0 77 [(.opn 0 0),(.osl 66 0 ((t++[45]:qQ).length))],pb 66 5 (qN (yI [0,1] 66) (qT (t++[45])))] (oc (YW t 45 (by (first|omega|(simp only [List.length_append,List.length_cons,List.length_nil];omega)))) (oc (rfl:[(.opt 0 0),(.av (.int .u8 45))]=qN (qZ [0,1] 66) [(.opt 0 0),(.av (.int .u8 45))]) (oc (rfl:[(.opn 0 0),(.osl 1 0 t.length)]=qN (qZ [0,1] 66) [(.opn 0 0),(.osl 1 0 t.length)]) (oc ((qH (qJ _)).symm:(qT t)=qN (qZ [0,1] 66) (qT t)) oz))))<|zF<|qY (Wk.eq (show _=[ps 0 (.opt 0 0),ps 3 (.opt 2 0),pb 0 77 [(.opn 0 0),(.osl 66 0 ((t++[45]:qQ).length))],pb 2 50 [(iv (iK y)),(iv (iS y)),(.ssl (zG (iP y)) 0 ((iP y).length)),(iv ((iB y).1)),(iv ((iB y).2)),(sv (st (iL y))),(.ssl (qO (iC y)) 0 ((iC y).length))],pb 66 5 (qT (t++[45]))] from by simp only [qH (qJ _)])) ?_
  refine qA<|qA<|qY (Wk.eq (show _=[ps 0 (.opt 0 0),ps 3 (.opt 2 0),pb 0 77 [(.opn 0 0),(.osl 66 0 ((t++qE y:qQ).length))],pb 2 50 [(iv (iK y)),(iv (iS y)),(.ssl (zG (iP y)) 0 ((iP y).length)),(iv ((iB y).1)),(iv ((iB y).2)),(sv (st (iL y))),(.ssl (qO (iC y)) 0 ((iC y).length))],pb 66 5 (qT (t++qE y))] from by rw [hM];try simp only [List.append_assoc,List.cons_append,List.nil_append])) ?_
  refine qL qC [.k2,.n,.r] [ps 56 (bv (!(decide ((iS y)=1))))] ?_
  by_cases h2:(iS y)=1
  ·refine qU (bt h2)<|qF<|qA ?_
   have hS:qI (iS y)=[]:=if_pos (by omega)
   refine qY (Wk.eq (show _=[ps 0 (.opt 0 0),ps 3 (.opt 2 0),ps 56 (bv (!(decide ((iS y)=1)))),pb 0 77 [(.opn 0 0),(.osl 66 0 ((t++qE y++qI (iS y):qQ).length))],pb 2 50 [(iv (iK y)),(iv (iS y)),(.ssl (zG (iP y)) 0 ((iP y).length)),(iv ((iB y).1)),(iv ((iB y).2)),(sv (st (iL y))),(.ssl (qO (iC y)) 0 ((iC y).length))],pb 66 5 (qT (t++qE y++qI (iS y)))] from by rw [hS];rw [List.append_nil])) ?_
   refine zY qC [(2,.val (.av (.bool (!decide ((iL y)=([]:TX))))))] [.k2,.d,.n,.r] [ps 67 (bv (!(decide ((iL y)=([]:TX)))))] (oc (jB _ _:(!((st (iL y)).toList == (st ([]:TX)).toList)) = !decide ((iL y)=([]:TX))) oz) ?_
   by_cases h3:(iL y)=([]:TX)
   ·refine qU (bt h3)<|qF ?_
    have hT:t++zQ y=t++qE y++qI (iS y):=by rw [yV,show lyT (iL y)=[] from if_pos (by assumption),List.append_nil,List.append_assoc]
    exact fun cx_ a_ hI_=>zV (H':=[some (77,[(.opn 0 0),(.osl 2 0 ((t++zQ y:qQ).length))]),none,some (5,(qT (t++zQ y)))]) (.inl rfl) (Wk.trans (Wk.eq (show _=[ps 0 (.opt 0 0),ps 3 (.opt 2 0),ps 67 (bv (!(decide ((iL y)=([]:TX))))),pb 0 77 [(.opn 0 0),(.osl 66 0 ((t++zQ y:qQ).length))],pb 2 50 [(iv (iK y)),(iv (iS y)),(.ssl (zG (iP y)) 0 ((iP y).length)),(iv ((iB y).1)),(iv ((iB y).2)),(sv (st (iL y))),(.ssl (qO (iC y)) 0 ((iC y).length))],pb 66 5 (qT (t++zQ y))] from by rw [hT])) (Wk.ren3 [pb 0 77 [(.opn 0 0),(.osl 2 0 ((t++zQ y:qQ).length))],pb 2 5 (qT (t++zQ y))] 2 hc0 [0,1,66] [(kb 2,(qT (t++zQ y)))] (oc (qJ _) (oz)) (by kernel_rfl) rfl rfl (by kernel_rfl) (by kernel_rfl))) rfl (oc rfl (oc rfl (oz))) (fun cx_ a_ hI_=>zL (l':=[pb 0 77 [(.opn 0 0),(.osl 2 0 ((t++zQ y:qQ).length))],pb 2 5 (qT (t++zQ y))]) (by kernel_rfl) cx_ a_ hI_) hI_
   refine qR (bf h3) ?_
   have hY:lyT (iL y)=[32,34]++iL y++[34]:=if_neg (by assumption)
   have hY2:=congrArg List.length hY
   simp only [List.length_append,List.length_cons,List.length_nil] at hY2
   refine wR qC [(5,.val (.av (.string (st (([32,34]:TX)++(iL y)))))),(6,.val (.av (.string (st ((([32,34]:TX)++(iL y))++([34]:TX)))))),(7,.call [0,66] [(.opt 0 0),(sv (st ((([32,34]:TX)++(iL y))++([34]:TX))))] [some (77,[(.opn 0 0),(.osl 1 0 ((t++qE y++qI (iS y):qQ).length))]),some (5,(qT (t++qE y++qI (iS y))))] (.tup [(nv ((((([32,34]:TX)++(iL y))++([34]:TX))).length)),(.av .nilIface)]) [some (77,[(.opn 0 0),(.osl 2 0 (((t++qE y++qI (iS y))++((([32,34]:TX)++(iL y))++([34]:TX)):qQ).length))]),none,some (5,(qT ((t++qE y++qI (iS y))++((([32,34]:TX)++(iL y))++([34]:TX)))))])] [[],[0],[0,1],[],[3],[3,4],[3,4,5],[0,1,2,3,4,5,6]] [([136],[0]),([138],[136]),([140],[138]),([142],[6]),([144],[5,142]),([146],[144]),([148],[146]),([150,1,133,357],[1,133,140,148])] [pb 0 77 [(.opn 0 0),(.osl 178 0 (((t++qE y++qI (iS y))++((([32,34]:TX)++(iL y))++([34]:TX)):qQ).length))],pb 178 5 (qN (yI [0,66] 178) (qT ((t++qE y++qI (iS y))++((([32,34]:TX)++(iL y))++([34]:TX)))))] (oc (by first|omega|(simp <;> omega):((([32,34]:TX).length+(iL y).length:Nat):Int)≤9223372036854775807) (oc (qK _ _:st ([32,34]:TX)++st (iL y)=st (([32,34]:TX)++(iL y))) (oc (by first|omega|(simp <;> omega):(((([32,34]:TX)++(iL y)).length+([34]:TX).length:Nat):Int)≤9223372036854775807) (oc (qK _ _:st (([32,34]:TX)++(iL y))++st ([34]:TX)=st ((([32,34]:TX)++(iL y))++([34]:TX))) (oc (ww (t++qE y++qI (iS y)) ((([32,34]:TX)++(iL y))++([34]:TX)) (by (first|omega|(simp only [List.length_append,List.length_cons,List.length_nil];omega)))) (oc (rfl:[(.opt 0 0),(sv (st ((([32,34]:TX)++(iL y))++([34]:TX))))]=qN (qZ [0,66] 178) [(.opt 0 0),(sv (st ((([32,34]:TX)++(iL y))++([34]:TX))))]) (oc (rfl:[(.opn 0 0),(.osl 66 0 ((t++qE y++qI (iS y):qQ).length))]=qN (qZ [0,66] 178) [(.opn 0 0),(.osl 1 0 ((t++qE y++qI (iS y):qQ).length))]) (oc ((qH (qJ _)).symm:(qT (t++qE y++qI (iS y)))=qN (qZ [0,66] 178) (qT (t++qE y++qI (iS y)))) oz)))))))) ?_
   have hT:t++zQ y=t++qE y++qI (iS y)++([32,34]++iL y++[34]):=by rw [yV,hY];simp only [List.append_assoc]
   exact fun cx_ a_ hI_=>zV (H':=[some (77,[(.opn 0 0),(.osl 2 0 ((t++zQ y:qQ).length))]),none,some (5,(qT (t++zQ y)))]) (.inl rfl) (Wk.trans (Wk.eq (show _=[pb 0 77 [(.opn 0 0),(.osl 178 0 (((t++qE y++qI (iS y))++((([32,34]:TX)++(iL y))++([34]:TX)):qQ).length))],pb 178 5 (qT ((t++qE y++qI (iS y))++((([32,34]:TX)++(iL y))++([34]:TX))))] from by simp only [qH (qJ _)])) (Wk.trans (Wk.eq (show _=[pb 0 77 [(.opn 0 0),(.osl 178 0 ((t++zQ y:qQ).length))],pb 178 5 (qT (t++zQ y))] from by rw [hT])) (Wk.ren3 [pb 0 77 [(.opn 0 0),(.osl 2 0 ((t++zQ y:qQ).length))],pb 2 5 (qT (t++zQ y))] 2 hc0 [0,1,178] [(kb 2,(qT (t++zQ y)))] (oc (qJ _) (oz)) (by kernel_rfl) rfl rfl (by kernel_rfl) (by kernel_rfl)))) rfl (oc rfl (oc rfl (oz))) (fun cx_ a_ hI_=>zL (l':=[pb 0 77 [(.opn 0 0),(.osl 2 0 ((t++zQ y:qQ).length))],pb 2 5 (qT (t++zQ y))]) (by kernel_rfl) cx_ a_ hI_) hI_
  refine qR (bf h2) ?_
  have hS:qI (iS y)=[42]++Lib.itoa (iS y):=if_neg (by omega)
  have hS2:=congrArg List.length hS
  simp only [List.length_append,List.length_cons,List.length_nil] at hS2
  have hIt:=Lib.itoa_length_le (iS y) (by omega) (by omega)
  refine QK qC [(5,.call [] [(iv (iS y))] [] (sv (st (Lib.itoa (iS y)))) []),(6,.val (.av (.string (st (([42]:TX)++(Lib.itoa (iS y))))))),(7,.call [0,66] [(.opt 0 0),(sv (st (([42]:TX)++(Lib.itoa (iS y)))))] [some (77,[(.opn 0 0),(.osl 1 0 ((t++qE y:qQ).length))]),some (5,(qT (t++qE y)))] (.tup [(nv (((([42]:TX)++(Lib.itoa (iS y)))).length)),(.av .nilIface)]) [some (77,[(.opn 0 0),(.osl 2 0 (((t++qE y)++(([42]:TX)++(Lib.itoa (iS y))):qQ).length))]),none,some (5,(qT ((t++qE y)++(([42]:TX)++(Lib.itoa (iS y))))))])] [[],[0],[0,1],[],[3],[3,4],[3,4,5],[0,1,2,3,4,5,6]] [([114],[0]),([116],[114]),([118],[116]),([120],[6]),([122],[5,120]),([124],[122]),([126],[124]),([128,1,133,309],[1,118,126,133])] [.k2,.d,.d,.n,.k1,.d,.n] [pb 0 77 [(.opn 0 0),(.osl 154 0 (((t++qE y)++(([42]:TX)++(Lib.itoa (iS y))):qQ).length))],pb 154 5 (qN (yI [0,66] 154) (qT ((t++qE y)++(([42]:TX)++(Lib.itoa (iS y))))))] (yD 138 (zy (iS y) (by omega) (by omega)) (oc (by first|omega|(simp <;> omega):((([42]:TX).length+(Lib.itoa (iS y)).length:Nat):Int)≤9223372036854775807) (oc (qK _ _:st ([42]:TX)++st (Lib.itoa (iS y))=st (([42]:TX)++(Lib.itoa (iS y)))) (oc (ww (t++qE y) (([42]:TX)++(Lib.itoa (iS y))) (by (first|omega|(simp only [List.length_append,List.length_cons,List.length_nil];omega)))) (oc (rfl:[(.opt 0 0),(sv (st (([42]:TX)++(Lib.itoa (iS y)))))]=qN (qZ [0,66] 154) [(.opt 0 0),(sv (st (([42]:TX)++(Lib.itoa (iS y)))))]) (oc (rfl:[(.opn 0 0),(.osl 66 0 ((t++qE y:qQ).length))]=qN (qZ [0,66] 154) [(.opn 0 0),(.osl 1 0 ((t++qE y:qQ).length))]) (oc ((qH (qJ _)).symm:(qT (t++qE y))=qN (qZ [0,66] 154) (qT (t++qE y))) oz)))))))<|qY (Wk.eq (show _=[ps 0 (.opt 0 0),ps 3 (.opt 2 0),pb 0 77 [(.opn 0 0),(.osl 154 0 (((t++qE y)++(([42]:TX)++(Lib.itoa (iS y))):qQ).length))],pb 2 50 [(iv (iK y)),(iv (iS y)),(.ssl (zG (iP y)) 0 ((iP y).length)),(iv ((iB y).1)),(iv ((iB y).2)),(sv (st (iL y))),(.ssl (qO (iC y)) 0 ((iC y).length))],pb 154 5 (qT ((t++qE y)++(([42]:TX)++(Lib.itoa (iS y)))))] from by simp only [qH (qJ _)])) ?_
  refine qA<|qY (Wk.eq (show _=[ps 0 (.opt 0 0),ps 3 (.opt 2 0),pb 0 77 [(.opn 0 0),(.osl 154 0 ((t++qE y++qI (iS y):qQ).length))],pb 2 50 [(iv (iK y)),(iv (iS y)),(.ssl (zG (iP y)) 0 ((iP y).length)),(iv ((iB y).1)),(iv ((iB y).2)),(sv (st (iL y))),(.ssl (qO (iC y)) 0 ((iC y).length))],pb 154 5 (qT (t++qE y++qI (iS y)))] from by rw [hS])) ?_
  refine zY qC [(2,.val (.av (.bool (!decide ((iL y)=([]:TX))))))] [.k2,.n,.r] [ps 67 (bv (!(decide ((iL y)=([]:TX)))))] (oc (jB _ _:(!((st (iL y)).toList == (st ([]:TX)).toList)) = !decide ((iL y)=([]:TX))) oz) ?_
  by_cases h4:(iL y)=([]:TX)
  ·refine qU (bt h4)<|qF ?_
   have hT:t++zQ y=t++qE y++qI (iS y):=by rw [yV,show lyT (iL y)=[] from if_pos (by assumption),List.append_nil,List.append_assoc]
   exact fun cx_ a_ hI_=>zV (H':=[some (77,[(.opn 0 0),(.osl 2 0 ((t++zQ y:qQ).length))]),none,some (5,(qT (t++zQ y)))]) (.inl rfl) (Wk.trans (Wk.eq (show _=[ps 0 (.opt 0 0),ps 3 (.opt 2 0),ps 67 (bv (!(decide ((iL y)=([]:TX))))),pb 0 77 [(.opn 0 0),(.osl 154 0 ((t++zQ y:qQ).length))],pb 2 50 [(iv (iK y)),(iv (iS y)),(.ssl (zG (iP y)) 0 ((iP y).length)),(iv ((iB y).1)),(iv ((iB y).2)),(sv (st (iL y))),(.ssl (qO (iC y)) 0 ((iC y).length))],pb 154 5 (qT (t++zQ y))] from by rw [hT])) (Wk.ren3 [pb 0 77 [(.opn 0 0),(.osl 2 0 ((t++zQ y:qQ).length))],pb 2 5 (qT (t++zQ y))] 2 hc0 [0,1,154] [(kb 2,(qT (t++zQ y)))] (oc (qJ _) (oz)) (by kernel_rfl) rfl rfl (by kernel_rfl) (by kernel_rfl))) rfl (oc rfl (oc rfl (oz))) (fun cx_ a_ hI_=>zL (l':=[pb 0 77 [(.opn 0 0),(.osl 2 0 ((t++zQ y:qQ).length))],pb 2 5 (qT (t++zQ y))]) (by kernel_rfl) cx_ a_ hI_) hI_
  refine qR (bf h4) ?_
  have hY:lyT (iL y)=[32,34]++iL y++[34]:=if_neg (by assumption)
  have hY2:=congrArg List.length hY
  simp only [List.length_append,List.length_cons,List.length_nil] at hY2
  refine wR qC [(5,.val (.av (.string (st (([32,34]:TX)++(iL y)))))),(6,.val (.av (.string (st ((([32,34]:TX)++(iL y))++([34]:TX)))))),(7,.call [0,154] [(.opt 0 0),(sv (st ((([32,34]:TX)++(iL y))++([34]:TX))))] [some (77,[(.opn 0 0),(.osl 1 0 ((t++qE y++qI (iS y):qQ).length))]),some (5,(qT (t++qE y++qI (iS y))))] (.tup [(nv ((((([32,34]:TX)++(iL y))++([34]:TX))).length)),(.av .nilIface)]) [some (77,[(.opn 0 0),(.osl 2 0 (((t++qE y++qI (iS y))++((([32,34]:TX)++(iL y))++([34]:TX)):qQ).length))]),none,some (5,(qT ((t++qE y++qI (iS y))++((([32,34]:TX)++(iL y))++([34]:TX)))))])] [[],[0],[0,1],[],[3],[3,4],[3,4,5],[0,1,2,3,4,5,6]] [([136],[0]),([138],[136]),([140],[138]),([142],[6]),([144],[5,142]),([146],[144]),([148],[146]),([150,1,309,485],[1,140,148,309])] [pb 0 77 [(.opn 0 0),(.osl 242 0 (((t++qE y++qI (iS y))++((([32,34]:TX)++(iL y))++([34]:TX)):qQ).length))],pb 242 5 (qN (yI [0,154] 242) (qT ((t++qE y++qI (iS y))++((([32,34]:TX)++(iL y))++([34]:TX)))))] (oc (by first|omega|(simp <;> omega):((([32,34]:TX).length+(iL y).length:Nat):Int)≤9223372036854775807) (oc (qK _ _:st ([32,34]:TX)++st (iL y)=st (([32,34]:TX)++(iL y))) (oc (by first|omega|(simp <;> omega):(((([32,34]:TX)++(iL y)).length+([34]:TX).length:Nat):Int)≤9223372036854775807) (oc (qK _ _:st (([32,34]:TX)++(iL y))++st ([34]:TX)=st ((([32,34]:TX)++(iL y))++([34]:TX))) (oc (ww (t++qE y++qI (iS y)) ((([32,34]:TX)++(iL y))++([34]:TX)) (by (first|omega|(simp only [List.length_append,List.length_cons,List.length_nil];omega)))) (oc (rfl:[(.opt 0 0),(sv (st ((([32,34]:TX)++(iL y))++([34]:TX))))]=qN (qZ [0,154] 242) [(.opt 0 0),(sv (st ((([32,34]:TX)++(iL y))++([34]:TX))))]) (oc (rfl:[(.opn 0 0),(.osl 154 0 ((t++qE y++qI (iS y):qQ).length))]=qN (qZ [0,154] 242) [(.opn 0 0),(.osl 1 0 ((t++qE y++qI (iS y):qQ).length))]) (oc ((qH (qJ _)).symm:(qT (t++qE y++qI (iS y)))=qN (qZ [0,154] 242) (qT (t++qE y++qI (iS y)))) oz)))))))) ?_
  have hT:t++zQ y=t++qE y++qI (iS y)++([32,34]++iL y++[34]):=by rw [yV,hY];simp only [List.append_assoc]
  exact fun cx_ a_ hI_=>zV (H':=[some (77,[(.opn 0 0),(.osl 2 0 ((t++zQ y:qQ).length))]),none,some (5,(qT (t++zQ y)))]) (.inl rfl) (Wk.trans (Wk.eq (show _=[pb 0 77 [(.opn 0 0),(.osl 242 0 (((t++qE y++qI (iS y))++((([32,34]:TX)++(iL y))++([34]:TX)):qQ).length))],pb 242 5 (qT ((t++qE y++qI (iS y))++((([32,34]:TX)++(iL y))++([34]:TX))))] from by simp only [qH (qJ _)])) (Wk.trans (Wk.eq (show _=[pb 0 77 [(.opn 0 0),(.osl 242 0 ((t++zQ y:qQ).length))],pb 242 5 (qT (t++zQ y))] from by rw [hT])) (Wk.ren3 [pb 0 77 [(.opn 0 0),(.osl 2 0 ((t++zQ y:qQ).length))],pb 2 5 (qT (t++zQ y))] 2 hc0 [0,1,242] [(kb 2,(qT (t++zQ y)))] (oc (qJ _) (oz)) (by kernel_rfl) rfl rfl (by kernel_rfl) (by kernel_rfl)))) rfl (oc rfl (oc rfl (oz))) (fun cx_ a_ hI_=>zL (l':=[pb 0 77 [(.opn 0 0),(.osl 2 0 ((t++zQ y:qQ).length))],pb 2 5 (qT (t++zQ y))]) (by kernel_rfl) cx_ a_ hI_) hI_
 refine qU (zN h1)<|qA<|qL qC [.k3,.d,.n,.r] [ps 42 (bv (decide ((iK y)=3)))] ?_
 by_cases h5:(iK y)=3
 ·refine qR (zP h5) ?_
  have hM:qE y=[126]:=by unfold qE;rw [if_neg (by omega),if_pos (by omega)]
  have hM2:=congrArg List.length hM
  try simp only [List.length_append,List.length_cons,List.length_nil] at hM2
  refine zY qC [(3,.call [0,1] [(.opt 0 0),(.av (.int .u8 126))] [some (77,[(.opn 0 0),(.osl 1 0 t.length)]),some (5,(qT t))] (.av .nilIface) [some (77,[(.opn 0 0),(.osl 2 0 ((t++[126]:qQ).length))]),none,some (5,(qT (t++[126])))])] [.k2,.d,.d,.d,.n,.d,.k1,.n] [pb 0 77 [(.opn 0 0),(.osl 82 0 ((t++[126]:qQ).length))],pb 82 5 (qN (yI [0,1] 82) (qT (t++[126])))] (oc (YW t 126 (by (first|omega|(simp only [List.length_append,List.length_cons,List.length_nil];omega)))) (oc (rfl:[(.opt 0 0),(.av (.int .u8 126))]=qN (qZ [0,1] 82) [(.opt 0 0),(.av (.int .u8 126))]) (oc (rfl:[(.opn 0 0),(.osl 1 0 t.length)]=qN (qZ [0,1] 82) [(.opn 0 0),(.osl 1 0 t.length)]) (oc ((qH (qJ _)).symm:(qT t)=qN (qZ [0,1] 82) (qT t)) oz))))<|zF<|qY (Wk.eq (show _=[ps 0 (.opt 0 0),ps 3 (.opt 2 0),pb 0 77 [(.opn 0 0),(.osl 82 0 ((t++[126]:qQ).length))],pb 2 50 [(iv (iK y)),(iv (iS y)),(.ssl (zG (iP y)) 0 ((iP y).length)),(iv ((iB y).1)),(iv ((iB y).2)),(sv (st (iL y))),(.ssl (qO (iC y)) 0 ((iC y).length))],pb 82 5 (qT (t++[126]))] from by simp only [qH (qJ _)])) ?_
  refine qA<|qA<|qY (Wk.eq (show _=[ps 0 (.opt 0 0),ps 3 (.opt 2 0),pb 0 77 [(.opn 0 0),(.osl 82 0 ((t++qE y:qQ).length))],pb 2 50 [(iv (iK y)),(iv (iS y)),(.ssl (zG (iP y)) 0 ((iP y).length)),(iv ((iB y).1)),(iv ((iB y).2)),(sv (st (iL y))),(.ssl (qO (iC y)) 0 ((iC y).length))],pb 82 5 (qT (t++qE y))] from by rw [hM];try simp only [List.append_assoc,List.cons_append,List.nil_append])) ?_
  refine qL qC [.k2,.n,.r] [ps 56 (bv (!(decide ((iS y)=1))))] ?_
  by_cases h6:(iS y)=1
  ·refine qU (bt h6)<|qF<|qA ?_
   have hS:qI (iS y)=[]:=if_pos (by omega)
   refine qY (Wk.eq (show _=[ps 0 (.opt 0 0),ps 3 (.opt 2 0),ps 56 (bv (!(decide ((iS y)=1)))),pb 0 77 [(.opn 0 0),(.osl 82 0 ((t++qE y++qI (iS y):qQ).length))],pb 2 50 [(iv (iK y)),(iv (iS y)),(.ssl (zG (iP y)) 0 ((iP y).length)),(iv ((iB y).1)),(iv ((iB y).2)),(sv (st (iL y))),(.ssl (qO (iC y)) 0 ((iC y).length))],pb 82 5 (qT (t++qE y++qI (iS y)))] from by rw [hS];rw [List.append_nil])) ?_
   refine zY qC [(2,.val (.av (.bool (!decide ((iL y)=([]:TX))))))] [.k2,.d,.n,.r] [ps 67 (bv (!(decide ((iL y)=([]:TX)))))] (oc (jB _ _:(!((st (iL y)).toList == (st ([]:TX)).toList)) = !decide ((iL y)=([]:TX))) oz) ?_
   by_cases h7:(iL y)=([]:TX)
   ·refine qU (bt h7)<|qF ?_
    have hT:t++zQ y=t++qE y++qI (iS y):=by rw [yV,show lyT (iL y)=[] from if_pos (by assumption),List.append_nil,List.append_assoc]
    exact fun cx_ a_ hI_=>zV (H':=[some (77,[(.opn 0 0),(.osl 2 0 ((t++zQ y:qQ).length))]),none,some (5,(qT (t++zQ y)))]) (.inl rfl) (Wk.trans (Wk.eq (show _=[ps 0 (.opt 0 0),ps 3 (.opt 2 0),ps 67 (bv (!(decide ((iL y)=([]:TX))))),pb 0 77 [(.opn 0 0),(.osl 82 0 ((t++zQ y:qQ).length))],pb 2 50 [(iv (iK y)),(iv (iS y)),(.ssl (zG (iP y)) 0 ((iP y).length)),(iv ((iB y).1)),(iv ((iB y).2)),(sv (st (iL y))),(.ssl (qO (iC y)) 0 ((iC y).length))],pb 82 5 (qT (t++zQ y))] from by rw [hT])) (Wk.ren3 [pb 0 77 [(.opn 0 0),(.osl 2 0 ((t++zQ y:qQ).length))],pb 2 5 (qT (t++zQ y))] 2 hc0 [0,1,82] [(kb 2,(qT (t++zQ y)))] (oc (qJ _) (oz)) (by kernel_rfl) rfl rfl (by kernel_rfl) (by kernel_rfl))) rfl (oc rfl (oc rfl (oz))) (fun cx_ a_ hI_=>zL (l':=[pb 0 77 [(.opn 0 0),(.osl 2 0 ((t++zQ y:qQ).length))],pb 2 5 (qT (t++zQ y))]) (by kernel_rfl) cx_ a_ hI_) hI_
   refine qR (bf h7) ?_
   have hY:lyT (iL y)=[32,34]++iL y++[34]:=if_neg (by assumption)
   have hY2:=congrArg List.length hY
   simp only [List.length_append,List.length_cons,List.length_nil] at hY2
   refine wR qC [(5,.val (.av (.string (st (([32,34]:TX)++(iL y)))))),(6,.val (.av (.string (st ((([32,34]:TX)++(iL y))++([34]:TX)))))),(7,.call [0,82] [(.opt 0 0),(sv (st ((([32,34]:TX)++(iL y))++([34]:TX))))] [some (77,[(.opn 0 0),(.osl 1 0 ((t++qE y++qI (iS y):qQ).length))]),some (5,(qT (t++qE y++qI (iS y))))] (.tup [(nv ((((([32,34]:TX)++(iL y))++([34]:TX))).length)),(.av .nilIface)]) [some (77,[(.opn 0 0),(.osl 2 0 (((t++qE y++qI (iS y))++((([32,34]:TX)++(iL y))++([34]:TX)):qQ).length))]),none,some (5,(qT ((t++qE y++qI (iS y))++((([32,34]:TX)++(iL y))++([34]:TX)))))])] [[],[0],[0,1],[],[3],[3,4],[3,4,5],[0,1,2,3,4,5,6]] [([136],[0]),([138],[136]),([140],[138]),([142],[6]),([144],[5,142]),([146],[144]),([148],[146]),([150,1,165,389],[1,140,148,165])] [pb 0 77 [(.opn 0 0),(.osl 194 0 (((t++qE y++qI (iS y))++((([32,34]:TX)++(iL y))++([34]:TX)):qQ).length))],pb 194 5 (qN (yI [0,82] 194) (qT ((t++qE y++qI (iS y))++((([32,34]:TX)++(iL y))++([34]:TX)))))] (oc (by first|omega|(simp <;> omega):((([32,34]:TX).length+(iL y).length:Nat):Int)≤9223372036854775807) (oc (qK _ _:st ([32,34]:TX)++st (iL y)=st (([32,34]:TX)++(iL y))) (oc (by first|omega|(simp <;> omega):(((([32,34]:TX)++(iL y)).length+([34]:TX).length:Nat):Int)≤9223372036854775807) (oc (qK _ _:st (([32,34]:TX)++(iL y))++st ([34]:TX)=st ((([32,34]:TX)++(iL y))++([34]:TX))) (oc (ww (t++qE y++qI (iS y)) ((([32,34]:TX)++(iL y))++([34]:TX)) (by (first|omega|(simp only [List.length_append,List.length_cons,List.length_nil];omega)))) (oc (rfl:[(.opt 0 0),(sv (st ((([32,34]:TX)++(iL y))++([34]:TX))))]=qN (qZ [0,82] 194) [(.opt 0 0),(sv (st ((([32,34]:TX)++(iL y))++([34]:TX))))]) (oc (rfl:[(.opn 0 0),(.osl 82 0 ((t++qE y++qI (iS y):qQ).length))]=qN (qZ [0,82] 194) [(.opn 0 0),(.osl 1 0 ((t++qE y++qI (iS y):qQ).length))]) (oc ((qH (qJ _)).symm:(qT (t++qE y++qI (iS y)))=qN (qZ [0,82] 194) (qT (t++qE y++qI (iS y)))) oz)))))))) ?_
   have hT:t++zQ y=t++qE y++qI (iS y)++([32,34]++iL y++[34]):=by rw [yV,hY];simp only [List.append_assoc]
   exact fun cx_ a_ hI_=>zV (H':=[some (77,[(.opn 0 0),(.osl 2 0 ((t++zQ y:qQ).length))]),none,some (5,(qT (t++zQ y)))]) (.inl rfl) (Wk.trans (Wk.eq (show _=[pb 0 77 [(.opn 0 0),(.osl 194 0 (((t++qE y++qI (iS y))++((([32,34]:TX)++(iL y))++([34]:TX)):qQ).length))],pb 194 5 (qT ((t++qE y++qI (iS y))++((([32,34]:TX)++(iL y))++([34]:TX))))] from by simp only [qH (qJ _)])) (Wk.trans (Wk.eq (show _=[pb 0 77 [(.opn 0 0),(.osl 194 0 ((t++zQ y:qQ).length))],pb 194 5 (qT (t++zQ y))] from by rw [hT])) (Wk.ren3 [pb 0 77 [(.opn 0 0),(.osl 2 0 ((t++zQ y:qQ).length))],pb 2 5 (qT (t++zQ y))] 2 hc0 [0,1,194] [(kb 2,(qT (t++zQ y)))] (oc (qJ _) (oz)) (by kernel_rfl) rfl rfl (by kernel_rfl) (by kernel_rfl)))) rfl (oc rfl (oc rfl (oz))) (fun cx_ a_ hI_=>zL (l':=[pb 0 77 [(.opn 0 0),(.osl 2 0 ((t++zQ y:qQ).length))],pb 2 5 (qT (t++zQ y))]) (by kernel_rfl) cx_ a_ hI_) hI_
  refine qR (bf h6) ?_
  have hS:qI (iS y)=[42]++Lib.itoa (iS y):=if_neg (by omega)
  have hS2:=congrArg List.length hS
  simp only [List.length_append,List.length_cons,List.length_nil] at hS2
  have hIt:=Lib.itoa_length_le (iS y) (by omega) (by omega)
  refine QK qC [(5,.call [] [(iv (iS y))] [] (sv (st (Lib.itoa (iS y)))) []),(6,.val (.av (.string (st (([42]:TX)++(Lib.itoa (iS y))))))),(7,.call [0,82] [(.opt 0 0),(sv (st (([42]:TX)++(Lib.itoa (iS y)))))] [some (77,[(.opn 0 0),(.osl 1 0 ((t++qE y:qQ).length))]),some (5,(qT (t++qE y)))] (.tup [(nv (((([42]:TX)++(Lib.itoa (iS y)))).length)),(.av .nilIface)]) [some (77,[(.opn 0 0),(.osl 2 0 (((t++qE y)++(([42]:TX)++(Lib.itoa (iS y))):qQ).length))]),none,some (5,(qT ((t++qE y)++(([42]:TX)++(Lib.itoa (iS y))))))])] [[],[0],[0,1],[],[3],[3,4],[3,4,5],[0,1,2,3,4,5,6]] [([114],[0]),([116],[114]),([118],[116]),([120],[6]),([122],[5,120]),([124],[122]),([126],[124]),([128,1,165,341],[1,118,126,165])] [.k2,.d,.d,.n,.k1,.d,.n] [pb 0 77 [(.opn 0 0),(.osl 170 0 (((t++qE y)++(([42]:TX)++(Lib.itoa (iS y))):qQ).length))],pb 170 5 (qN (yI [0,82] 170) (qT ((t++qE y)++(([42]:TX)++(Lib.itoa (iS y))))))] (yD 154 (zy (iS y) (by omega) (by omega)) (oc (by first|omega|(simp <;> omega):((([42]:TX).length+(Lib.itoa (iS y)).length:Nat):Int)≤9223372036854775807) (oc (qK _ _:st ([42]:TX)++st (Lib.itoa (iS y))=st (([42]:TX)++(Lib.itoa (iS y)))) (oc (ww (t++qE y) (([42]:TX)++(Lib.itoa (iS y))) (by (first|omega|(simp only [List.length_append,List.length_cons,List.length_nil];omega)))) (oc (rfl:[(.opt 0 0),(sv (st (([42]:TX)++(Lib.itoa (iS y)))))]=qN (qZ [0,82] 170) [(.opt 0 0),(sv (st (([42]:TX)++(Lib.itoa (iS y)))))]) (oc (rfl:[(.opn 0 0),(.osl 82 0 ((t++qE y:qQ).length))]=qN (qZ [0,82] 170) [(.opn 0 0),(.osl 1 0 ((t++qE y:qQ).length))]) (oc ((qH (qJ _)).symm:(qT (t++qE y))=qN (qZ [0,82] 170) (qT (t++qE y))) oz)))))))<|qY (Wk.eq (show _=[ps 0 (.opt 0 0),ps 3 (.opt 2 0),pb 0 77 [(.opn 0 0),(.osl 170 0 (((t++qE y)++(([42]:TX)++(Lib.itoa (iS y))):qQ).length))],pb 2 50 [(iv (iK y)),(iv (iS y)),(.ssl (zG (iP y)) 0 ((iP y).length)),(iv ((iB y).1)),(iv ((iB y).2)),(sv (st (iL y))),(.ssl (qO (iC y)) 0 ((iC y).length))],pb 170 5 (qT ((t++qE y)++(([42]:TX)++(Lib.itoa (iS y)))))] from by simp only [qH (qJ _)])) ?_
  refine qA<|qY (Wk.eq (show _=[ps 0 (.opt 0 0),ps 3 (.opt 2 0),pb 0 77 [(.opn 0 0),(.osl 170 0 ((t++qE y++qI (iS y):qQ).length))],pb 2 50 [(iv (iK y)),(iv (iS y)),(.ssl (zG (iP y)) 0 ((iP y).length)),(iv ((iB y).1)),(iv ((iB y).2)),(sv (st (iL y))),(.ssl (qO (iC y)) 0 ((iC y).length))],pb 170 5 (qT (t++qE y++qI (iS y)))] from by rw [hS])) ?_
  refine zY qC [(2,.val (.av (.bool (!decide ((iL y)=([]:TX))))))] [.k2,.n,.r] [ps 67 (bv (!(decide ((iL y)=([]:TX)))))] (oc (jB _ _:(!((st (iL y)).toList == (st ([]:TX)).toList)) = !decide ((iL y)=([]:TX))) oz) ?_
  by_cases h8:(iL y)=([]:TX)
  ·refine qU (bt h8)<|qF ?_
   have hT:t++zQ y=t++qE y++qI (iS y):=by rw [yV,show lyT (iL y)=[] from if_pos (by assumption),List.append_nil,List.append_assoc]
   exact fun cx_ a_ hI_=>zV (H':=[some (77,[(.opn 0 0),(.osl 2 0 ((t++zQ y:qQ).length))]),none,some (5,(qT (t++zQ y)))]) (.inl rfl) (Wk.trans (Wk.eq (show _=[ps 0 (.opt 0 0),ps 3 (.opt 2 0),ps 67 (bv (!(decide ((iL y)=([]:TX))))),pb 0 77 [(.opn 0 0),(.osl 170 0 ((t++zQ y:qQ).length))],pb 2 50 [(iv (iK y)),(iv (iS y)),(.ssl (zG (iP y)) 0 ((iP y).length)),(iv ((iB y).1)),(iv ((iB y).2)),(sv (st (iL y))),(.ssl (qO (iC y)) 0 ((iC y).length))],pb 170 5 (qT (t++zQ y))] from by rw [hT])) (Wk.ren3 [pb 0 77 [(.opn 0 0),(.osl 2 0 ((t++zQ y:qQ).length))],pb 2 5 (qT (t++zQ y))] 2 hc0 [0,1,170] [(kb 2,(qT (t++zQ y)))] (oc (qJ _) (oz)) (by kernel_rfl) rfl rfl (by kernel_rfl) (by kernel_rfl))) rfl (oc rfl (oc rfl (oz))) (fun cx_ a_ hI_=>zL (l':=[pb 0 77 [(.opn 0 0),(.osl 2 0 ((t++zQ y:qQ).length))],pb 2 5 (qT (t++zQ y))]) (by kernel_rfl) cx_ a_ hI_) hI_
  refine qR (bf h8) ?_
  have hY:lyT (iL y)=[32,34]++iL y++[34]:=if_neg (by assumption)
  have hY2:=congrArg List.length hY
  simp only [List.length_append,List.length_cons,List.length_nil] at hY2
  refine wR qC [(5,.val (.av (.string (st (([32,34]:TX)++(iL y)))))),(6,.val (.av (.string (st ((([32,34]:TX)++(iL y))++([34]:TX)))))),(7,.call [0,170] [(.opt 0 0),(sv (st ((([32,34]:TX)++(iL y))++([34]:TX))))] [some (77,[(.opn 0 0),(.osl 1 0 ((t++qE y++qI (iS y):qQ).length))]),some (5,(qT (t++qE y++qI (iS y))))] (.tup [(nv ((((([32,34]:TX)++(iL y))++([34]:TX))).length)),(.av .nilIface)]) [some (77,[(.opn 0 0),(.osl 2 0 (((t++qE y++qI (iS y))++((([32,34]:TX)++(iL y))++([34]:TX)):qQ).length))]),none,some (5,(qT ((t++qE y++qI (iS y))++((([32,34]:TX)++(iL y))++([34]:TX)))))])] [[],[0],[0,1],[],[3],[3,4],[3,4,5],[0,1,2,3,4,5,6]] [([136],[0]),([138],[136]),([140],[138]),([142],[6]),([144],[5,142]),([146],[144]),([148],[146]),([150,1,341,517],[1,140,148,341])] [pb 0 77 [(.opn 0 0),(.osl 258 0 (((t++qE y++qI (iS y))++((([32,34]:TX)++(iL y))++([34]:TX)):qQ).length))],pb 258 5 (qN (yI [0,170] 258) (qT ((t++qE y++qI (iS y))++((([32,34]:TX)++(iL y))++([34]:TX)))))] (oc (by first|omega|(simp <;> omega):((([32,34]:TX).length+(iL y).length:Nat):Int)≤9223372036854775807) (oc (qK _ _:st ([32,34]:TX)++st (iL y)=st (([32,34]:TX)++(iL y))) (oc (by first|omega|(simp <;> omega):(((([32,34]:TX)++(iL y)).length+([34]:TX).length:Nat):Int)≤9223372036854775807) (oc (qK _ _:st (([32,34]:TX)++(iL y))++st ([34]:TX)=st ((([32,34]:TX)++(iL y))++([34]:TX))) (oc (ww (t++qE y++qI (iS y)) ((([32,34]:TX)++(iL y))++([34]:TX)) (by (first|omega|(simp only [List.length_append,List.length_cons,List.length_nil];omega)))) (oc (rfl:[(.opt 0 0),(sv (st ((([32,34]:TX)++(iL y))++([34]:TX))))]=qN (qZ [0,170] 258) [(.opt 0 0),(sv (st ((([32,34]:TX)++(iL y))++([34]:TX))))]) (oc (rfl:[(.opn 0 0),(.osl 170 0 ((t++qE y++qI (iS y):qQ).length))]=qN (qZ [0,170] 258) [(.opn 0 0),(.osl 1 0 ((t++qE y++qI (iS y):qQ).length))]) (oc ((qH (qJ _)).symm:(qT (t++qE y++qI (iS y)))=qN (qZ [0,170] 258) (qT (t++qE y++qI (iS y)))) oz)))))))) ?_
  have hT:t++zQ y=t++qE y++qI (iS y)++([32,34]++iL y++[34]):=by rw [yV,hY];simp only [List.append_assoc]
  exact fun cx_ a_ hI_=>zV (H':=[some (77,[(.opn 0 0),(.osl 2 0 ((t++zQ y:qQ).length))]),none,some (5,(qT (t++zQ y)))]) (.inl rfl) (Wk.trans (Wk.eq (show _=[pb 0 77 [(.opn 0 0),(.osl 258 0 (((t++qE y++qI (iS y))++((([32,34]:TX)++(iL y))++([34]:TX)):qQ).length))],pb 258 5 (qT ((t++qE y++qI (iS y))++((([32,34]:TX)++(iL y))++([34]:TX))))] from by simp only [qH (qJ _)])) (Wk.trans (Wk.eq (show _=[pb 0 77 [(.opn 0 0),(.osl 258 0 ((t++zQ y:qQ).length))],pb 258 5 (qT (t++zQ y))] from by rw [hT])) (Wk.ren3 [pb 0 77 [(.opn 0 0),(.osl 2 0 ((t++zQ y:qQ).length))],pb 2 5 (qT (t++zQ y))] 2 hc0 [0,1,258] [(kb 2,(qT (t++zQ y)))] (oc (qJ _) (oz)) (by kernel_rfl) rfl rfl (by kernel_rfl) (by kernel_rfl)))) rfl (oc rfl (oc rfl (oz))) (fun cx_ a_ hI_=>zL (l':=[pb 0 77 [(.opn 0 0),(.osl 2 0 ((t++zQ y:qQ).length))],pb 2 5 (qT (t++zQ y))]) (by kernel_rfl) cx_ a_ hI_) hI_
 refine qU (zN h5)<|qA<|qL qC [.k2,.d,.d,.n,.r] [ps 48 (bv (decide ((iK y)=1)))] ?_
 by_cases h9:(iK y)=1
 ·refine qR (zP h9) ?_
  have hM:qE y=Qw (iP y):=by unfold qE;rw [if_neg (by omega),if_neg (by omega),if_pos (by omega)]
  have hM2:=congrArg List.length hM
  try simp only [List.length_append,List.length_cons,List.length_nil] at hM2
  refine zY qC [(3,.call [0,1] [(.opt 0 0),(.ssl (zG (iP y)) 0 ((iP y).length))] [some (77,[(.opn 0 0),(.osl 1 0 t.length)]),some (5,(qT t))] (.tup []) [some (77,[(.opn 0 0),(.osl 2 0 ((t++Qw (iP y):qQ).length))]),none,some (5,(qT (t++Qw (iP y))))])] [.k2,.d,.d,.n,.d,.k1,.n] [pb 0 77 [(.opn 0 0),(.osl 98 0 ((t++Qw (iP y):qQ).length))],pb 98 5 (qN (yI [0,1] 98) (qT (t++Qw (iP y))))] (oc (pitches_pc t (iP y) (by (first|omega|(simp only [List.length_append,List.length_cons,List.length_nil];omega))) hx2) (oc (rfl:[(.opt 0 0),(.ssl (zG (iP y)) 0 ((iP y).length))]=qN (qZ [0,1] 98) [(.opt 0 0),(.ssl (zG (iP y)) 0 ((iP y).length))]) (oc (rfl:[(.opn 0 0),(.osl 1 0 t.length)]=qN (qZ [0,1] 98) [(.opn 0 0),(.osl 1 0 t.length)]) (oc ((qH (qJ _)).symm:(qT t)=qN (qZ [0,1] 98) (qT t)) oz))))<|zF<|qY (Wk.eq (show _=[ps 0 (.opt 0 0),ps 3 (.opt 2 0),pb 0 77 [(.opn 0 0),(.osl 98 0 ((t++Qw (iP y):qQ).length))],pb 2 50 [(iv (iK y)),(iv (iS y)),(.ssl (zG (iP y)) 0 ((iP y).length)),(iv ((iB y).1)),(iv ((iB y).2)),(sv (st (iL y))),(.ssl (qO (iC y)) 0 ((iC y).length))],pb 98 5 (qT (t++Qw (iP y)))] from by simp only [qH (qJ _)])) ?_
  refine qA<|qA<|qY (Wk.eq (show _=[ps 0 (.opt 0 0),ps 3 (.opt 2 0),pb 0 77 [(.opn 0 0),(.osl 98 0 ((t++qE y:qQ).length))],pb 2 50 [(iv (iK y)),(iv (iS y)),(.ssl (zG (iP y)) 0 ((iP y).length)),(iv ((iB y).1)),(iv ((iB y).2)),(sv (st (iL y))),(.ssl (qO (iC y)) 0 ((iC y).length))],pb 98 5 (qT (t++qE y))] from by rw [hM];try simp only [List.append_assoc,List.cons_append,List.nil_append])) ?_
  refine qL qC [.k2,.n,.r] [ps 56 (bv (!(decide ((iS y)=1))))] ?_
  by_cases h10:(iS y)=1
  ·refine qU (bt h10)<|qF<|qA ?_
   have hS:qI (iS y)=[]:=if_pos (by omega)
   refine qY (Wk.eq (show _=[ps 0 (.opt 0 0),ps 3 (.opt 2 0),ps 56 (bv (!(decide ((iS y)=1)))),pb 0 77 [(.opn 0 0),(.osl 98 0 ((t++qE y++qI (iS y):qQ).length))],pb 2 50 [(iv (iK y)),(iv (iS y)),(.ssl (zG (iP y)) 0 ((iP y).length)),(iv ((iB y).1)),(iv ((iB y).2)),(sv (st (iL y))),(.ssl (qO (iC y)) 0 ((iC y).length))],pb 98 5 (qT (t++qE y++qI (iS y)))] from by rw [hS];rw [List.append_nil])) ?_
   refine zY qC [(2,.val (.av (.bool (!decide ((iL y)=([]:TX))))))] [.k2,.d,.n,.r] [ps 67 (bv (!(decide ((iL y)=([]:TX)))))] (oc (jB _ _:(!((st (iL y)).toList == (st ([]:TX)).toList)) = !decide ((iL y)=([]:TX))) oz) ?_
   by_cases h11:(iL y)=([]:TX)
   ·refine qU (bt h11)<|qF ?_
    have hT:t++zQ y=t++qE y++qI (iS y):=by rw [yV,show lyT (iL y)=[] from if_pos (by assumption),List.append_nil,List.append_assoc]
    exact fun cx_ a_ hI_=>zV (H':=[some (77,[(.opn 0 0),(.osl 2 0 ((t++zQ y:qQ).length))]),none,some (5,(qT (t++zQ y)))]) (.inl rfl) (Wk.trans (Wk.eq (show _=[ps 0 (.opt 0 0),ps 3 (.opt 2 0),ps 67 (bv (!(decide ((iL y)=([]:TX))))),pb 0 77 [(.opn 0 0),(.osl 98 0 ((t++zQ y:qQ).length))],pb 2 50 [(iv (iK y)),(iv (iS y)),(.ssl (zG (iP y)) 0 ((iP y).length)),(iv ((iB y).1)),(iv ((iB y).2)),(sv (st (iL y))),(.ssl (qO (iC y)) 0 ((iC y).length))],pb 98 5 (qT (t++zQ y))] from by rw [hT])) (Wk.ren3 [pb 0 77 [(.opn 0 0),(.osl 2 0 ((t++zQ y:qQ).length))],pb 2 5 (qT (t++zQ y))] 2 hc0 [0,1,98] [(kb 2,(qT (t++zQ y)))] (oc (qJ _) (oz)) (by kernel_rfl) rfl rfl (by kernel_rfl) (by kernel_rfl))) rfl (oc rfl (oc rfl (oz))) (fun cx_ a_ hI_=>zL (l':=[pb 0 77 [(.opn 0 0),(.osl 2 0 ((t++zQ y:qQ).length))],pb 2 5 (qT (t++zQ y))]) (by kernel_rfl) cx_ a_ hI_) hI_
   refine qR (bf h11) ?_
   have hY:lyT (iL y)=[32,34]++iL y++[34]:=if_neg (by assumption)
   have hY2:=congrArg List.length hY
   simp only [List.length_append,List.length_cons,List.length_nil] at hY2
   refine wR qC [(5,.val (.av (.string (st (([32,34]:TX)++(iL y)))))),(6,.val (.av (.string (st ((([32,34]:TX)++(iL y))++([34]:TX)))))),(7,.call [0,98] [(.opt 0 0),(sv (st ((([32,34]:TX)++(iL y))++([34]:TX))))] [some (77,[(.opn 0 0),(.osl 1 0 ((t++qE y++qI (iS y):qQ).length))]),some (5,(qT (t++qE y++qI (iS y))))] (.tup [(nv ((((([32,34]:TX)++(iL y))++([34]:TX))).length)),(.av .nilIface)]) [some (77,[(.opn 0 0),(.osl 2 0 (((t++qE y++qI (iS y))++((([32,34]:TX)++(iL y))++([34]:TX)):qQ).length))]),none,some (5,(qT ((t++qE y++qI (iS y))++((([32,34]:TX)++(iL y))++([34]:TX)))))])] [[],[0],[0,1],[],[3],[3,4],[3,4,5],[0,1,2,3,4,5,6]] [([136],[0]),([138],[136]),([140],[138]),([142],[6]),([144],[5,142]),([146],[144]),([148],[146]),([150,1,197,421],[1,140,148,197])] [pb 0 77 [(.opn 0 0),(.osl 210 0 (((t++qE y++qI (iS y))++((([32,34]:TX)++(iL y))++([34]:TX)):qQ).length))],pb 210 5 (qN (yI [0,98] 210) (qT ((t++qE y++qI (iS y))++((([32,34]:TX)++(iL y))++([34]:TX)))))] (oc (by first|omega|(simp <;> omega):((([32,34]:TX).length+(iL y).length:Nat):Int)≤9223372036854775807) (oc (qK _ _:st ([32,34]:TX)++st (iL y)=st (([32,34]:TX)++(iL y))) (oc (by first|omega|(simp <;> omega):(((([32,34]:TX)++(iL y)).length+([34]:TX).length:Nat):Int)≤9223372036854775807) (oc (qK _ _:st (([32,34]:TX)++(iL y))++st ([34]:TX)=st ((([32,34]:TX)++(iL y))++([34]:TX))) (oc (ww (t++qE y++qI (iS y)) ((([32,34]:TX)++(iL y))++([34]:TX)) (by (first|omega|(simp only [List.length_append,List.length_cons,List.length_nil];omega)))) (oc (rfl:[(.opt 0 0),(sv (st ((([32,34]:TX)++(iL y))++([34]:TX))))]=qN (qZ [0,98] 210) [(.opt 0 0),(sv (st ((([32,34]:TX)++(iL y))++([34]:TX))))]) (oc (rfl:[(.opn 0 0),(.osl 98 0 ((t++qE y++qI (iS y):qQ).length))]=qN (qZ [0,98] 210) [(.opn 0 0),(.osl 1 0 ((t++qE y++qI (iS y):qQ).length))]) (oc ((qH (qJ _)).symm:(qT (t++qE y++qI (iS y)))=qN (qZ [0,98] 210) (qT (t++qE y++qI (iS y)))) oz)))))))) ?_
   have hT:t++zQ y=t++qE y++qI (iS y)++([32,34]++iL y++[34]):=by rw [yV,hY];simp only [List.append_assoc]
   exact fun cx_ a_ hI_=>zV (H':=[some (77,[(.opn 0 0),(.osl 2 0 ((t++zQ y:qQ).length))]),none,some (5,(qT (t++zQ y)))]) (.inl rfl) (Wk.trans (Wk.eq (show _=[pb 0 77 [(.opn 0 0),(.osl 210 0 (((t++qE y++qI (iS y))++((([32,34]:TX)++(iL y))++([34]:TX)):qQ).length))],pb 210 5 (qT ((t++qE y++qI (iS y))++((([32,34]:TX)++(iL y))++([34]:TX))))] from by simp only [qH (qJ _)])) (Wk.trans (Wk.eq (show _=[pb 0 77 [(.opn 0 0),(.osl 210 0 ((t++zQ y:qQ).length))],pb 210 5 (qT (t++zQ y))] from by rw [hT])) (Wk.ren3 [pb 0 77 [(.opn 0 0),(.osl 2 0 ((t++zQ y:qQ).length))],pb 2 5 (qT (t++zQ y))] 2 hc0 [0,1,210] [(kb 2,(qT (t++zQ y)))] (oc (qJ _) (oz)) (by kernel_rfl) rfl rfl (by kernel_rfl) (by kernel_rfl)))) rfl (oc rfl (oc rfl (oz))) (fun cx_ a_ hI_=>zL (l':=[pb 0 77 [(.opn 0 0),(.osl 2 0 ((t++zQ y:qQ).length))],pb 2 5 (qT (t++zQ y))]) (by kernel_rfl) cx_ a_ hI_) hI_
  refine qR (bf h10) ?_
  have hS:qI (iS y)=[42]++Lib.itoa (iS y):=if_neg (by omega)
  have hS2:=congrArg List.length hS
  simp only [List.length_append,List.length_cons,List.length_nil] at hS2
  have hIt:=Lib.itoa_length_le (iS y) (by omega) (by omega)
  refine QK qC [(5,.call [] [(iv (iS y))] [] (sv (st (Lib.itoa (iS y)))) []),(6,.val (.av (.string (st (([42]:TX)++(Lib.itoa (iS y))))))),(7,.call [0,98] [(.opt 0 0),(sv (st (([42]:TX)++(Lib.itoa (iS y)))))] [some (77,[(.opn 0 0),(.osl 1 0 ((t++qE y:qQ).length))]),some (5,(qT (t++qE y)))] (.tup [(nv (((([42]:TX)++(Lib.itoa (iS y)))).length)),(.av .nilIface)]) [some (77,[(.opn 0 0),(.osl 2 0 (((t++qE y)++(([42]:TX)++(Lib.itoa (iS y))):qQ).length))]),none,some (5,(qT ((t++qE y)++(([42]:TX)++(Lib.itoa (iS y))))))])] [[],[0],[0,1],[],[3],[3,4],[3,4,5],[0,1,2,3,4,5,6]] [([114],[0]),([116],[114]),([118],[116]),([120],[6]),([122],[5,120]),([124],[122]),([126],[124]),([128,1,197,373],[1,118,126,197])] [.k2,.d,.d,.n,.k1,.d,.n] [pb 0 77 [(.opn 0 0),(.osl 186 0 (((t++qE y)++(([42]:TX)++(Lib.itoa (iS y))):qQ).length))],pb 186 5 (qN (yI [0,98] 186) (qT ((t++qE y)++(([42]:TX)++(Lib.itoa (iS y))))))] (yD 170 (zy (iS y) (by omega) (by omega)) (oc (by first|omega|(simp <;> omega):((([42]:TX).length+(Lib.itoa (iS y)).length:Nat):Int)≤9223372036854775807) (oc (qK _ _:st ([42]:TX)++st (Lib.itoa (iS y))=st (([42]:TX)++(Lib.itoa (iS y)))) (oc (ww (t++qE y) (([42]:TX)++(Lib.itoa (iS y))) (by (first|omega|(simp only [List.length_append,List.length_cons,List.length_nil];omega)))) (oc (rfl:[(.opt 0 0),(sv (st (([42]:TX)++(Lib.itoa (iS y)))))]=qN (qZ [0,98] 186) [(.opt 0 0),(sv (st (([42]:TX)++(Lib.itoa (iS y)))))]) (oc (rfl:[(.opn 0 0),(.osl 98 0 ((t++qE y:qQ).length))]=qN (qZ [0,98] 186) [(.opn 0 0),(.osl 1 0 ((t++qE y:qQ).length))]) (oc ((qH (qJ _)).symm:(qT (t++qE y))=qN (qZ [0,98] 186) (qT (t++qE y))) oz)))))))<|qY (Wk.eq (show _=[ps 0 (.opt 0 0),ps 3 (.opt 2 0),pb 0 77 [(.opn 0 0),(.osl 186 0 (((t++qE y)++(([42]:TX)++(Lib.itoa (iS y))):qQ).length))],pb 2 50 [(iv (iK y)),(iv (iS y)),(.ssl (zG (iP y)) 0 ((iP y).length)),(iv ((iB y).1)),(iv ((iB y).2)),(sv (st (iL y))),(.ssl (qO (iC y)) 0 ((iC y).length))],pb 186 5 (qT ((t++qE y)++(([42]:TX)++(Lib.itoa (iS y)))))] from by simp only [qH (qJ _)])) ?_
  refine qA<|qY (Wk.eq (show _=[ps 0 (.opt 0 0),ps 3 (.opt 2 0),pb 0 77 [(.opn 0 0),(.osl 186 0 ((t++qE y++qI (iS y):qQ).length))],pb 2 50 [(iv (iK y)),(iv (iS y)),(.ssl (zG (iP y)) 0 ((iP y).length)),(iv ((iB y).1)),(iv ((iB y).2)),(sv (st (iL y))),(.ssl (qO (iC y)) 0 ((iC y).length))],pb 186 5 (qT (t++qE y++qI (iS y)))] from by rw [hS])) ?_
  refine zY qC [(2,.val (.av (.bool (!decide ((iL y)=([]:TX))))))] [.k2,.n,.r] [ps 67 (bv (!(decide ((iL y)=([]:TX)))))] (oc (jB _ _:(!((st (iL y)).toList == (st ([]:TX)).toList)) = !decide ((iL y)=([]:TX))) oz) ?_
  by_cases h12:(iL y)=([]:TX)
  ·refine qU (bt h12)<|qF ?_
   have hT:t++zQ y=t++qE y++qI (iS y):=by rw [yV,show lyT (iL y)=[] from if_pos (by assumption),List.append_nil,List.append_assoc]
   exact fun cx_ a_ hI_=>zV (H':=[some (77,[(.opn 0 0),(.osl 2 0 ((t++zQ y:qQ).length))]),none,some (5,(qT (t++zQ y)))]) (.inl rfl) (Wk.trans (Wk.eq (show _=[ps 0 (.opt 0 0),ps 3 (.opt 2 0),ps 67 (bv (!(decide ((iL y)=([]:TX))))),pb 0 77 [(.opn 0 0),(.osl 186 0 ((t++zQ y:qQ).length))],pb 2 50 [(iv (iK y)),(iv (iS y)),(.ssl (zG (iP y)) 0 ((iP y).length)),(iv ((iB y).1)),(iv ((iB y).2)),(sv (st (iL y))),(.ssl (qO (iC y)) 0 ((iC y).length))],pb 186 5 (qT (t++zQ y))] from by rw [hT])) (Wk.ren3 [pb 0 77 [(.opn 0 0),(.osl 2 0 ((t++zQ y:qQ).length))],pb 2 5 (qT (t++zQ y))] 2 hc0 [0,1,186] [(kb 2,(qT (t++zQ y)))] (oc (qJ _) (oz)) (by kernel_rfl) rfl rfl (by kernel_rfl) (by kernel_rfl))) rfl (oc rfl (oc rfl (oz))) (fun cx_ a_ hI_=>zL (l':=[pb 0 77 [(.opn 0 0),(.osl 2 0 ((t++zQ y:qQ).length))],pb 2 5 (qT (t++zQ y))]) (by kernel_rfl) cx_ a_ hI_) hI_
  refine qR (bf h12) ?_
  have hY:lyT (iL y)=[32,34]++iL y++[34]:=if_neg (by assumption)
  have hY2:=congrArg List.length hY
  simp only [List.length_append,List.length_cons,List.length_nil] at hY2
  refine wR qC [(5,.val (.av (.string (st (([32,34]:TX)++(iL y)))))),(6,.val (.av (.string (st ((([32,34]:TX)++(iL y))++([34]:TX)))))),(7,.call [0,186] [(.opt 0 0),(sv (st ((([32,34]:TX)++(iL y))++([34]:TX))))] [some (77,[(.opn 0 0),(.osl 1 0 ((t++qE y++qI (iS y):qQ).length))]),some (5,(qT (t++qE y++qI (iS y))))] (.tup [(nv ((((([32,34]:TX)++(iL y))++([34]:TX))).length)),(.av .nilIface)]) [some (77,[(.opn 0 0),(.osl 2 0 (((t++qE y++qI (iS y))++((([32,34]:TX)++(iL y))++([34]:TX)):qQ).length))]),none,some (5,(qT ((t++qE y++qI (iS y))++((([32,34]:TX)++(iL y))++([34]:TX)))))])] [[],[0],[0,1],[],[3],[3,4],[3,4,5],[0,1,2,3,4,5,6]] [([136],[0]),([138],[136]),([140],[138]),([142],[6]),([144],[5,142]),([146],[144]),([148],[146]),([150,1,373,549],[1,140,148,373])] [pb 0 77 [(.opn 0 0),(.osl 274 0 (((t++qE y++qI (iS y))++((([32,34]:TX)++(iL y))++([34]:TX)):qQ).length))],pb 274 5 (qN (yI [0,186] 274) (qT ((t++qE y++qI (iS y))++((([32,34]:TX)++(iL y))++([34]:TX)))))] (oc (by first|omega|(simp <;> omega):((([32,34]:TX).length+(iL y).length:Nat):Int)≤9223372036854775807) (oc (qK _ _:st ([32,34]:TX)++st (iL y)=st (([32,34]:TX)++(iL y))) (oc (by first|omega|(simp <;> omega):(((([32,34]:TX)++(iL y)).length+([34]:TX).length:Nat):Int)≤9223372036854775807) (oc (qK _ _:st (([32,34]:TX)++(iL y))++st ([34]:TX)=st ((([32,34]:TX)++(iL y))++([34]:TX))) (oc (ww (t++qE y++qI (iS y)) ((([32,34]:TX)++(iL y))++([34]:TX)) (by (first|omega|(simp only [List.length_append,List.length_cons,List.length_nil];omega)))) (oc (rfl:[(.opt 0 0),(sv (st ((([32,34]:TX)++(iL y))++([34]:TX))))]=qN (qZ [0,186] 274) [(.opt 0 0),(sv (st ((([32,34]:TX)++(iL y))++([34]:TX))))]) (oc (rfl:[(.opn 0 0),(.osl 186 0 ((t++qE y++qI (iS y):qQ).length))]=qN (qZ [0,186] 274) [(.opn 0 0),(.osl 1 0 ((t++qE y++qI (iS y):qQ).length))]) (oc ((qH (qJ _)).symm:(qT (t++qE y++qI (iS y)))=qN (qZ [0,186] 274) (qT (t++qE y++qI (iS y)))) oz)))))))) ?_
  have hT:t++zQ y=t++qE y++qI (iS y)++([32,34]++iL y++[34]):=by rw [yV,hY];simp only [List.append_assoc]
  exact fun cx_ a_ hI_=>zV (H':=[some (77,[(.opn 0 0),(.osl 2 0 ((t++zQ y:qQ).length))]),none,some (5,(qT (t++zQ y)))]) (.inl rfl) (Wk.trans (Wk.eq (show _=[pb 0 77 [(.opn 0 0),(.osl 274 0 (((t++qE y++qI (iS y))++((([32,34]:TX)++(iL y))++([34]:TX)):qQ).length))],pb 274 5 (qT ((t++qE y++qI (iS y))++((([32,34]:TX)++(iL y))++([34]:TX))))] from by simp only [qH (qJ _)])) (Wk.trans (Wk.eq (show _=[pb 0 77 [(.opn 0 0),(.osl 274 0 ((t++zQ y:qQ).length))],pb 274 5 (qT (t++zQ y))] from by rw [hT])) (Wk.ren3 [pb 0 77 [(.opn 0 0),(.osl 2 0 ((t++zQ y:qQ).length))],pb 2 5 (qT (t++zQ y))] 2 hc0 [0,1,274] [(kb 2,(qT (t++zQ y)))] (oc (qJ _) (oz)) (by kernel_rfl) rfl rfl (by kernel_rfl) (by kernel_rfl)))) rfl (oc rfl (oc rfl (oz))) (fun cx_ a_ hI_=>zL (l':=[pb 0 77 [(.opn 0 0),(.osl 2 0 ((t++zQ y:qQ).length))],pb 2 5 (qT (t++zQ y))]) (by kernel_rfl) cx_ a_ hI_) hI_
 refine qU (zN h9)<|qA<|qA<|qL qC [.k2,.n,.d,.r] [ps 10 (bv (decide ((iK y)=5)))] ?_
 by_cases h13:(iK y)=5
 ·refine qR (zP h13)<|qA ?_
  have hM:qE y=([117,112,32]++((qX (iB y).1 (iB y).2).1++[32]))++(91 :: (qq (iC y)++[93])):=by unfold qE upT;rw [if_neg (show ¬ iK y=2 from by omega),if_neg (show ¬ iK y=3 from by omega),if_neg (show ¬ iK y=1 from by omega),if_pos (show iK y=5 from by omega)]
  have hM2:=congrArg List.length hM
  try simp only [List.length_append,List.length_cons,List.length_nil] at hM2
  refine vK qC 2 [.k2,.n,.d,.r] [ps 4 (sv (st ((qX ((iB y).1) ((iB y).2)).1)))] (yD 114 (qjq (iB y).1 (iB y).2 hx1.1 hx1.2) oz)<|zY qC [(4,.val (.av (.string (st (([117,112,32]:TX)++((qX ((iB y).1) ((iB y).2)).1)))))),(5,.val (.av (.string (st ((([117,112,32]:TX)++((qX ((iB y).1) ((iB y).2)).1))++([32]:TX)))))),(6,.call [0,1] [(.opt 0 0),(sv (st ((([117,112,32]:TX)++((qX ((iB y).1) ((iB y).2)).1))++([32]:TX))))] [some (77,[(.opn 0 0),(.osl 1 0 t.length)]),some (5,(qT t))] (.tup [(nv ((((([117,112,32]:TX)++((qX ((iB y).1) ((iB y).2)).1))++([32]:TX))).length)),(.av .nilIface)]) [some (77,[(.opn 0 0),(.osl 2 0 ((t++((([117,112,32]:TX)++((qX ((iB y).1) ((iB y).2)).1))++([32]:TX)):qQ).length))]),none,some (5,(qT (t++((([117,112,32]:TX)++((qX ((iB y).1) ((iB y).2)).1))++([32]:TX)))))])] [.k2,.d,.d,.n,.d,.k1,.n] [pb 0 77 [(.opn 0 0),(.osl 210 0 ((t++((([117,112,32]:TX)++((qX ((iB y).1) ((iB y).2)).1))++([32]:TX)):qQ).length))],pb 210 5 (qN (yI [0,1] 210) (qT (t++((([117,112,32]:TX)++((qX ((iB y).1) ((iB y).2)).1))++([32]:TX)))))] (oc (by first|omega|(simp <;> omega):((([117,112,32]:TX).length+((qX ((iB y).1) ((iB y).2)).1).length:Nat):Int)≤9223372036854775807) (oc (qK _ _:st ([117,112,32]:TX)++st ((qX ((iB y).1) ((iB y).2)).1)=st (([117,112,32]:TX)++((qX ((iB y).1) ((iB y).2)).1))) (oc (by first|omega|(simp <;> omega):(((([117,112,32]:TX)++((qX ((iB y).1) ((iB y).2)).1)).length+([32]:TX).length:Nat):Int)≤9223372036854775807) (oc (qK _ _:st (([117,112,32]:TX)++((qX ((iB y).1) ((iB y).2)).1))++st ([32]:TX)=st ((([117,112,32]:TX)++((qX ((iB y).1) ((iB y).2)).1))++([32]:TX))) (oc (ww t ((([117,112,32]:TX)++((qX ((iB y).1) ((iB y).2)).1))++([32]:TX)) (by (first|omega|(simp only [List.length_append,List.length_cons,List.length_nil];omega)))) (oc (rfl:[(.opt 0 0),(sv (st ((([117,112,32]:TX)++((qX ((iB y).1) ((iB y).2)).1))++([32]:TX))))]=qN (qZ [0,1] 210) [(.opt 0 0),(sv (st ((([117,112,32]:TX)++((qX ((iB y).1) ((iB y).2)).1))++([32]:TX))))]) (oc (rfl:[(.opn 0 0),(.osl 1 0 t.length)]=qN (qZ [0,1] 210) [(.opn 0 0),(.osl 1 0 t.length)]) (oc ((qH (qJ _)).symm:(qT t)=qN (qZ [0,1] 210) (qT t)) oz))))))))<|qY (Wk.eq (show _=[ps 0 (.opt 0 0),ps 3 (.opt 2 0),pb 0 77 [(.opn 0 0),(.osl 210 0 ((t++((([117,112,32]:TX)++((qX ((iB y).1) ((iB y).2)).1))++([32]:TX)):qQ).length))],pb 2 50 [(iv (iK y)),(iv (iS y)),(.ssl (zG (iP y)) 0 ((iP y).length)),(iv ((iB y).1)),(iv ((iB y).2)),(sv (st (iL y))),(.ssl (qO (iC y)) 0 ((iC y).length))],pb 210 5 (qT (t++((([117,112,32]:TX)++((qX ((iB y).1) ((iB y).2)).1))++([32]:TX))))] from by simp only [qH (qJ _)])) ?_
  refine qA<|zY qC [(3,.call [0,210] [(.opt 0 0),(.av (.int .u8 91))] [some (77,[(.opn 0 0),(.osl 1 0 ((t++((([117,112,32]:TX)++((qX ((iB y).1) ((iB y).2)).1))++([32]:TX)):qQ).length))]),some (5,(qT (t++((([117,112,32]:TX)++((qX ((iB y).1) ((iB y).2)).1))++([32]:TX)))))] (.av .nilIface) [some (77,[(.opn 0 0),(.osl 2 0 (((t++((([117,112,32]:TX)++((qX ((iB y).1) ((iB y).2)).1))++([32]:TX)))++[91]:qQ).length))]),none,some (5,(qT ((t++((([117,112,32]:TX)++((qX ((iB y).1) ((iB y).2)).1))++([32]:TX)))++[91])))])] [.k2,.d,.n,.k1,.d,.n] [pb 0 77 [(.opn 0 0),(.osl 242 0 (((t++((([117,112,32]:TX)++((qX ((iB y).1) ((iB y).2)).1))++([32]:TX)))++[91]:qQ).length))],pb 242 5 (qN (yI [0,210] 242) (qT ((t++((([117,112,32]:TX)++((qX ((iB y).1) ((iB y).2)).1))++([32]:TX)))++[91])))] (oc (YW (t++((([117,112,32]:TX)++((qX ((iB y).1) ((iB y).2)).1))++([32]:TX))) 91 (by (first|omega|(simp only [List.length_append,List.length_cons,List.length_nil];omega)))) (oc (rfl:[(.opt 0 0),(.av (.int .u8 91))]=qN (qZ [0,210] 242) [(.opt 0 0),(.av (.int .u8 91))]) (oc (rfl:[(.opn 0 0),(.osl 210 0 ((t++((([117,112,32]:TX)++((qX ((iB y).1) ((iB y).2)).1))++([32]:TX)):qQ).length))]=qN (qZ [0,210] 242) [(.opn 0 0),(.osl 1 0 ((t++((([117,112,32]:TX)++((qX ((iB y).1) ((iB y).2)).1))++([32]:TX)):qQ).length))]) (oc ((qH (qJ _)).symm:(qT (t++((([117,112,32]:TX)++((qX ((iB y).1) ((iB y).2)).1))++([32]:TX))))=qN (qZ [0,210] 242) (qT (t++((([117,112,32]:TX)++((qX ((iB y).1) ((iB y).2)).1))++([32]:TX))))) oz))))<|qY (Wk.eq (show _=[ps 0 (.opt 0 0),ps 3 (.opt 2 0),pb 0 77 [(.opn 0 0),(.osl 242 0 (((t++((([117,112,32]:TX)++((qX ((iB y).1) ((iB y).2)).1))++([32]:TX)))++[91]:qQ).length))],pb 2 50 [(iv (iK y)),(iv (iS y)),(.ssl (zG (iP y)) 0 ((iP y).length)),(iv ((iB y).1)),(iv ((iB y).2)),(sv (st (iL y))),(.ssl (qO (iC y)) 0 ((iC y).length))],pb 242 5 (qT ((t++((([117,112,32]:TX)++((qX ((iB y).1) ((iB y).2)).1))++([32]:TX)))++[91]))] from by simp only [qH (qJ _)])) ?_
  refine qA<|zY qC [(3,.call [0,242] [(.opt 0 0),(.ssl (qO (iC y)) 0 ((iC y).length))] [some (77,[(.opn 0 0),(.osl 1 0 (((t++((([117,112,32]:TX)++((qX ((iB y).1) ((iB y).2)).1))++([32]:TX)))++[91]:qQ).length))]),some (5,(qT ((t++((([117,112,32]:TX)++((qX ((iB y).1) ((iB y).2)).1))++([32]:TX)))++[91])))] (.tup []) [some (77,[(.opn 0 0),(.osl 2 0 ((((t++((([117,112,32]:TX)++((qX ((iB y).1) ((iB y).2)).1))++([32]:TX)))++[91])++qq (iC y):qQ).length))]),none,some (5,(qT (((t++((([117,112,32]:TX)++((qX ((iB y).1) ((iB y).2)).1))++([32]:TX)))++[91])++qq (iC y))))])] [.k2,.d,.n,.k1,.d,.n] [pb 0 77 [(.opn 0 0),(.osl 274 0 ((((t++((([117,112,32]:TX)++((qX ((iB y).1) ((iB y).2)).1))++([32]:TX)))++[91])++qq (iC y):qQ).length))],pb 274 5 (qN (yI [0,242] 274) (qT (((t++((([117,112,32]:TX)++((qX ((iB y).1) ((iB y).2)).1))++([32]:TX)))++[91])++qq (iC y))))] (oc (ihL (iC y) ((t++((([117,112,32]:TX)++((qX ((iB y).1) ((iB y).2)).1))++([32]:TX)))++[91]) (wq y) (by (first|omega|(simp only [List.length_append,List.length_cons,List.length_nil];omega))) hx5 hx4 hpr.2.1) (oc (rfl:[(.opt 0 0),(.ssl (qO (iC y)) 0 ((iC y).length))]=qN (qZ [0,242] 274) [(.opt 0 0),(.ssl (qO (iC y)) 0 ((iC y).length))]) (oc (rfl:[(.opn 0 0),(.osl 242 0 (((t++((([117,112,32]:TX)++((qX ((iB y).1) ((iB y).2)).1))++([32]:TX)))++[91]:qQ).length))]=qN (qZ [0,242] 274) [(.opn 0 0),(.osl 1 0 (((t++((([117,112,32]:TX)++((qX ((iB y).1) ((iB y).2)).1))++([32]:TX)))++[91]:qQ).length))]) (oc ((qH (qJ _)).symm:(qT ((t++((([117,112,32]:TX)++((qX ((iB y).1) ((iB y).2)).1))++([32]:TX)))++[91]))=qN (qZ [0,242] 274) (qT ((t++((([117,112,32]:TX)++((qX ((iB y).1) ((iB y).2)).1))++([32]:TX)))++[91]))) oz))))<|qY (Wk.eq (show _=[ps 0 (.opt 0 0),ps 3 (.opt 2 0),pb 0 77 [(.opn 0 0),(.osl 274 0 ((((t++((([117,112,32]:TX)++((qX ((iB y).1) ((iB y).2)).1))++([32]:TX)))++[91])++qq (iC y):qQ).length))],pb 2 50 [(iv (iK y)),(iv (iS y)),(.ssl (zG (iP y)) 0 ((iP y).length)),(iv ((iB y).1)),(iv ((iB y).2)),(sv (st (iL y))),(.ssl (qO (iC y)) 0 ((iC y).length))],pb 274 5 (qT (((t++((([117,112,32]:TX)++((qX ((iB y).1) ((iB y).2)).1))++([32]:TX)))++[91])++qq (iC y)))] from by simp only [qH (qJ _)])) ?_
  refine zY qC [(3,.call [0,274] [(.opt 0 0),(.av (.int .u8 93))] [some (77,[(.opn 0 0),(.osl 1 0 ((((t++((([117,112,32]:TX)++((qX ((iB y).1) ((iB y).2)).1))++([32]:TX)))++[91])++qq (iC y):qQ).length))]),some (5,(qT (((t++((([117,112,32]:TX)++((qX ((iB y).1) ((iB y).2)).1))++([32]:TX)))++[91])++qq (iC y))))] (.av .nilIface) [some (77,[(.opn 0 0),(.osl 2 0 (((((t++((([117,112,32]:TX)++((qX ((iB y).1) ((iB y).2)).1))++([32]:TX)))++[91])++qq (iC y))++[93]:qQ).length))]),none,some (5,(qT ((((t++((([117,112,32]:TX)++((qX ((iB y).1) ((iB y).2)).1))++([32]:TX)))++[91])++qq (iC y))++[93])))])] [.k2,.d,.n,.k1,.d,.n] [pb 0 77 [(.opn 0 0),(.osl 306 0 (((((t++((([117,112,32]:TX)++((qX ((iB y).1) ((iB y).2)).1))++([32]:TX)))++[91])++qq (iC y))++[93]:qQ).length))],pb 306 5 (qN (yI [0,274] 306) (qT ((((t++((([117,112,32]:TX)++((qX ((iB y).1) ((iB y).2)).1))++([32]:TX)))++[91])++qq (iC y))++[93])))] (oc (YW (((t++((([117,112,32]:TX)++((qX ((iB y).1) ((iB y).2)).1))++([32]:TX)))++[91])++qq (iC y)) 93 (by (first|omega|(simp only [List.length_append,List.length_cons,List.length_nil];omega)))) (oc (rfl:[(.opt 0 0),(.av (.int .u8 93))]=qN (qZ [0,274] 306) [(.opt 0 0),(.av (.int .u8 93))]) (oc (rfl:[(.opn 0 0),(.osl 274 0 ((((t++((([117,112,32]:TX)++((qX ((iB y).1) ((iB y).2)).1))++([32]:TX)))++[91])++qq (iC y):qQ).length))]=qN (qZ [0,274] 306) [(.opn 0 0),(.osl 1 0 ((((t++((([117,112,32]:TX)++((qX ((iB y).1) ((iB y).2)).1))++([32]:TX)))++[91])++qq (iC y):qQ).length))]) (oc ((qH (qJ _)).symm:(qT (((t++((([117,112,32]:TX)++((qX ((iB y).1) ((iB y).2)).1))++([32]:TX)))++[91])++qq (iC y)))=qN (qZ [0,274] 306) (qT (((t++((([117,112,32]:TX)++((qX ((iB y).1) ((iB y).2)).1))++([32]:TX)))++[91])++qq (iC y)))) oz))))<|zF<|qY (Wk.eq (show _=[ps 0 (.opt 0 0),ps 3 (.opt 2 0),pb 0 77 [(.opn 0 0),(.osl 306 0 (((((t++((([117,112,32]:TX)++((qX ((iB y).1) ((iB y).2)).1))++([32]:TX)))++[91])++qq (iC y))++[93]:qQ).length))],pb 2 50 [(iv (iK y)),(iv (iS y)),(.ssl (zG (iP y)) 0 ((iP y).length)),(iv ((iB y).1)),(iv ((iB y).2)),(sv (st (iL y))),(.ssl (qO (iC y)) 0 ((iC y).length))],pb 306 5 (qT ((((t++((([117,112,32]:TX)++((qX ((iB y).1) ((iB y).2)).1))++([32]:TX)))++[91])++qq (iC y))++[93]))] from by simp only [qH (qJ _)])) ?_
  refine qA<|qA<|qY (Wk.eq (show _=[ps 0 (.opt 0 0),ps 3 (.opt 2 0),pb 0 77 [(.opn 0 0),(.osl 306 0 ((t++qE y:qQ).length))],pb 2 50 [(iv (iK y)),(iv (iS y)),(.ssl (zG (iP y)) 0 ((iP y).length)),(iv ((iB y).1)),(iv ((iB y).2)),(sv (st (iL y))),(.ssl (qO (iC y)) 0 ((iC y).length))],pb 306 5 (qT (t++qE y))] from by rw [hM];try simp only [List.append_assoc,List.cons_append,List.nil_append])) ?_
  refine qL qC [.k2,.n,.r] [ps 56 (bv (!(decide ((iS y)=1))))] ?_
  by_cases h14:(iS y)=1
  ·refine qU (bt h14)<|qF<|qA ?_
   have hS:qI (iS y)=[]:=if_pos (by omega)
   refine qY (Wk.eq (show _=[ps 0 (.opt 0 0),ps 3 (.opt 2 0),ps 56 (bv (!(decide ((iS y)=1)))),pb 0 77 [(.opn 0 0),(.osl 306 0 ((t++qE y++qI (iS y):qQ).length))],pb 2 50 [(iv (iK y)),(iv (iS y)),(.ssl (zG (iP y)) 0 ((iP y).length)),(iv ((iB y).1)),(iv ((iB y).2)),(sv (st (iL y))),(.ssl (qO (iC y)) 0 ((iC y).length))],pb 306 5 (qT (t++qE y++qI (iS y)))] from by rw [hS];rw [List.append_nil])) ?_
   refine zY qC [(2,.val (.av (.bool (!decide ((iL y)=([]:TX))))))] [.k2,.d,.n,.r] [ps 67 (bv (!(decide ((iL y)=([]:TX)))))] (oc (jB _ _:(!((st (iL y)).toList == (st ([]:TX)).toList)) = !decide ((iL y)=([]:TX))) oz) ?_
   by_cases h15:(iL y)=([]:TX)
   ·refine qU (bt h15)<|qF ?_
    have hT:t++zQ y=t++qE y++qI (iS y):=by rw [yV,show lyT (iL y)=[] from if_pos (by assumption),List.append_nil,List.append_assoc]
    exact fun cx_ a_ hI_=>zV (H':=[some (77,[(.opn 0 0),(.osl 2 0 ((t++zQ y:qQ).length))]),none,some (5,(qT (t++zQ y)))]) (.inl rfl) (Wk.trans (Wk.eq (show _=[ps 0 (.opt 0 0),ps 3 (.opt 2 0),ps 67 (bv (!(decide ((iL y)=([]:TX))))),pb 0 77 [(.opn 0 0),(.osl 306 0 ((t++zQ y:qQ).length))],pb 2 50 [(iv (iK y)),(iv (iS y)),(.ssl (zG (iP y)) 0 ((iP y).length)),(iv ((iB y).1)),(iv ((iB y).2)),(sv (st (iL y))),(.ssl (qO (iC y)) 0 ((iC y).length))],pb 306 5 (qT (t++zQ y))] from by rw [hT])) (Wk.ren3 [pb 0 77 [(.opn 0 0),(.osl 2 0 ((t++zQ y:qQ).length))],pb 2 5 (qT (t++zQ y))] 2 hc0 [0,1,306] [(kb 2,(qT (t++zQ y)))] (oc (qJ _) (oz)) (by kernel_rfl) rfl rfl (by kernel_rfl) (by kernel_rfl))) rfl (oc rfl (oc rfl (oz))) (fun cx_ a_ hI_=>zL (l':=[pb 0 77 [(.opn 0 0),(.osl 2 0 ((t++zQ y:qQ).length))],pb 2 5 (qT (t++zQ y))]) (by kernel_rfl) cx_ a_ hI_) hI_
   refine qR (bf h15) ?_
   have hY:lyT (iL y)=[32,34]++iL y++[34]:=if_neg (by assumption)
   have hY2:=congrArg List.length hY
   simp only [List.length_append,List.length_cons,List.length_nil] at hY2
   refine wR qC [(5,.val (.av (.string (st (([32,34]:TX)++(iL y)))))),(6,.val (.av (.string (st ((([32,34]:TX)++(iL y))++([34]:TX)))))),(7,.call [0,306] [(.opt 0 0),(sv (st ((([32,34]:TX)++(iL y))++([34]:TX))))] [some (77,[(.opn 0 0),(.osl 1 0 ((t++qE y++qI (iS y):qQ).length))]),some (5,(qT (t++qE y++qI (iS y))))] (.tup [(nv ((((([32,34]:TX)++(iL y))++([34]:TX))).length)),(.av .nilIface)]) [some (77,[(.opn 0 0),(.osl 2 0 (((t++qE y++qI (iS y))++((([32,34]:TX)++(iL y))++([34]:TX)):qQ).length))]),none,some (5,(qT ((t++qE y++qI (iS y))++((([32,34]:TX)++(iL y))++([34]:TX)))))])] [[],[0],[0,1],[],[3],[3,4],[3,4,5],[0,1,2,3,4,5,6]] [([136],[0]),([138],[136]),([140],[138]),([142],[6]),([144],[5,142]),([146],[144]),([148],[146]),([150,1,613,837],[1,140,148,613])] [pb 0 77 [(.opn 0 0),(.osl 418 0 (((t++qE y++qI (iS y))++((([32,34]:TX)++(iL y))++([34]:TX)):qQ).length))],pb 418 5 (qN (yI [0,306] 418) (qT ((t++qE y++qI (iS y))++((([32,34]:TX)++(iL y))++([34]:TX)))))] (oc (by first|omega|(simp <;> omega):((([32,34]:TX).length+(iL y).length:Nat):Int)≤9223372036854775807) (oc (qK _ _:st ([32,34]:TX)++st (iL y)=st (([32,34]:TX)++(iL y))) (oc (by first|omega|(simp <;> omega):(((([32,34]:TX)++(iL y)).length+([34]:TX).length:Nat):Int)≤9223372036854775807) (oc (qK _ _:st (([32,34]:TX)++(iL y))++st ([34]:TX)=st ((([32,34]:TX)++(iL y))++([34]:TX))) (oc (ww (t++qE y++qI (iS y)) ((([32,34]:TX)++(iL y))++([34]:TX)) (by (first|omega|(simp only [List.length_append,List.length_cons,List.length_nil];omega)))) (oc (rfl:[(.opt 0 0),(sv (st ((([32,34]:TX)++(iL y))++([34]:TX))))]=qN (qZ [0,306] 418) [(.opt 0 0),(sv (st ((([32,34]:TX)++(iL y))++([34]:TX))))]) (oc (rfl:[(.opn 0 0),(.osl 306 0 ((t++qE y++qI (iS y):qQ).length))]=qN (qZ [0,306] 418) [(.opn 0 0),(.osl 1 0 ((t++qE y++qI (iS y):qQ).length))]) (oc ((qH (qJ _)).symm:(qT (t++qE y++qI (iS y)))=qN (qZ [0,306] 418) (qT (t++qE y++qI (iS y)))) oz)))))))) ?_
   have hT:t++zQ y=t++qE y++qI (iS y)++([32,34]++iL y++[34]):=by rw [yV,hY];simp only [List.append_assoc]
   exact fun cx_ a_ hI_=>zV (H':=[some (77,[(.opn 0 0),(.osl 2 0 ((t++zQ y:qQ).length))]),none,some (5,(qT (t++zQ y)))]) (.inl rfl) (Wk.trans (Wk.eq (show _=[pb 0 77 [(.opn 0 0),(.osl 418 0 (((t++qE y++qI (iS y))++((([32,34]:TX)++(iL y))++([34]:TX)):qQ).length))],pb 418 5 (qT ((t++qE y++qI (iS y))++((([32,34]:TX)++(iL y))++([34]:TX))))] from by simp only [qH (qJ _)])) (Wk.trans (Wk.eq (show _=[pb 0 77 [(.opn 0 0),(.osl 418 0 ((t++zQ y:qQ).length))],pb 418 5 (qT (t++zQ y))] from by rw [hT])) (Wk.ren3 [pb 0 77 [(.opn 0 0),(.osl 2 0 ((t++zQ y:qQ).length))],pb 2 5 (qT (t++zQ y))] 2 hc0 [0,1,418] [(kb 2,(qT (t++zQ y)))] (oc (qJ _) (oz)) (by kernel_rfl) rfl rfl (by kernel_rfl) (by kernel_rfl)))) rfl (oc rfl (oc rfl (oz))) (fun cx_ a_ hI_=>zL (l':=[pb 0 77 [(.opn 0 0),(.osl 2 0 ((t++zQ y:qQ).length))],pb 2 5 (qT (t++zQ y))]) (by kernel_rfl) cx_ a_ hI_) hI_
  refine qR (bf h14) ?_
  have hS:qI (iS y)=[42]++Lib.itoa (iS y):=if_neg (by omega)
  have hS2:=congrArg List.length hS
  simp only [List.length_append,List.length_cons,List.length_nil] at hS2
  have hIt:=Lib.itoa_length_le (iS y) (by omega) (by omega)
  refine QK qC [(5,.call [] [(iv (iS y))] [] (sv (st (Lib.itoa (iS y)))) []),(6,.val (.av (.string (st (([42]:TX)++(Lib.itoa (iS y))))))),(7,.call [0,306] [(.opt 0 0),(sv (st (([42]:TX)++(Lib.itoa (iS y)))))] [some (77,[(.opn 0 0),(.osl 1 0 ((t++qE y:qQ).length))]),some (5,(qT (t++qE y)))] (.tup [(nv (((([42]:TX)++(Lib.itoa (iS y)))).length)),(.av .nilIface)]) [some (77,[(.opn 0 0),(.osl 2 0 (((t++qE y)++(([42]:TX)++(Lib.itoa (iS y))):qQ).length))]),none,some (5,(qT ((t++qE y)++(([42]:TX)++(Lib.itoa (iS y))))))])] [[],[0],[0,1],[],[3],[3,4],[3,4,5],[0,1,2,3,4,5,6]] [([114],[0]),([116],[114]),([118],[116]),([120],[6]),([122],[5,120]),([124],[122]),([126],[124]),([128,1,613,789],[1,118,126,613])] [.k2,.d,.d,.n,.k1,.d,.n] [pb 0 77 [(.opn 0 0),(.osl 394 0 (((t++qE y)++(([42]:TX)++(Lib.itoa (iS y))):qQ).length))],pb 394 5 (qN (yI [0,306] 394) (qT ((t++qE y)++(([42]:TX)++(Lib.itoa (iS y))))))] (yD 378 (zy (iS y) (by omega) (by omega)) (oc (by first|omega|(simp <;> omega):((([42]:TX).length+(Lib.itoa (iS y)).length:Nat):Int)≤9223372036854775807) (oc (qK _ _:st ([42]:TX)++st (Lib.itoa (iS y))=st (([42]:TX)++(Lib.itoa (iS y)))) (oc (ww (t++qE y) (([42]:TX)++(Lib.itoa (iS y))) (by (first|omega|(simp only [List.length_append,List.length_cons,List.length_nil];omega)))) (oc (rfl:[(.opt 0 0),(sv (st (([42]:TX)++(Lib.itoa (iS y)))))]=qN (qZ [0,306] 394) [(.opt 0 0),(sv (st (([42]:TX)++(Lib.itoa (iS y)))))]) (oc (rfl:[(.opn 0 0),(.osl 306 0 ((t++qE y:qQ).length))]=qN (qZ [0,306] 394) [(.opn 0 0),(.osl 1 0 ((t++qE y:qQ).length))]) (oc ((qH (qJ _)).symm:(qT (t++qE y))=qN (qZ [0,306] 394) (qT (t++qE y))) oz)))))))<|qY (Wk.eq (show _=[ps 0 (.opt 0 0),ps 3 (.opt 2 0),pb 0 77 [(.opn 0 0),(.osl 394 0 (((t++qE y)++(([42]:TX)++(Lib.itoa (iS y))):qQ).length))],pb 2 50 [(iv (iK y)),(iv (iS y)),(.ssl (zG (iP y)) 0 ((iP y).length)),(iv ((iB y).1)),(iv ((iB y).2)),(sv (st (iL y))),(.ssl (qO (iC y)) 0 ((iC y).length))],pb 394 5 (qT ((t++qE y)++(([42]:TX)++(Lib.itoa (iS y)))))] from by simp only [qH (qJ _)])) ?_
  refine qA<|qY (Wk.eq (show _=[ps 0 (.opt 0 0),ps 3 (.opt 2 0),pb 0 77 [(.opn 0 0),(.osl 394 0 ((t++qE y++qI (iS y):qQ).length))],pb 2 50 [(iv (iK y)),(iv (iS y)),(.ssl (zG (iP y)) 0 ((iP y).length)),(iv ((iB y).1)),(iv ((iB y).2)),(sv (st (iL y))),(.ssl (qO (iC y)) 0 ((iC y).length))],pb 394 5 (qT (t++qE y++qI (iS y)))] from by rw [hS])) ?_
  refine zY qC [(2,.val (.av (.bool (!decide ((iL y)=([]:TX))))))] [.k2,.n,.r] [ps 67 (bv (!(decide ((iL y)=([]:TX)))))] (oc (jB _ _:(!((st (iL y)).toList == (st ([]:TX)).toList)) = !decide ((iL y)=([]:TX))) oz) ?_
  by_cases h16:(iL y)=([]:TX)
  ·refine qU (bt h16)<|qF ?_
   have hT:t++zQ y=t++qE y++qI (iS y):=by rw [yV,show lyT (iL y)=[] from if_pos (by assumption),List.append_nil,List.append_assoc]
   exact fun cx_ a_ hI_=>zV (H':=[some (77,[(.opn 0 0),(.osl 2 0 ((t++zQ y:qQ).length))]),none,some (5,(qT (t++zQ y)))]) (.inl rfl) (Wk.trans (Wk.eq (show _=[ps 0 (.opt 0 0),ps 3 (.opt 2 0),ps 67 (bv (!(decide ((iL y)=([]:TX))))),pb 0 77 [(.opn 0 0),(.osl 394 0 ((t++zQ y:qQ).length))],pb 2 50 [(iv (iK y)),(iv (iS y)),(.ssl (zG (iP y)) 0 ((iP y).length)),(iv ((iB y).1)),(iv ((iB y).2)),(sv (st (iL y))),(.ssl (qO (iC y)) 0 ((iC y).length))],pb 394 5 (qT (t++zQ y))] from by rw [hT])) (Wk.ren3 [pb 0 77 [(.opn 0 0),(.osl 2 0 ((t++zQ y:qQ).length))],pb 2 5 (qT (t++zQ y))] 2 hc0 [0,1,394] [(kb 2,(qT (t++zQ y)))] (oc (qJ _) (oz)) (by kernel_rfl) rfl rfl (by kernel_rfl) (by kernel_rfl))) rfl (oc rfl (oc rfl (oz))) (fun cx_ a_ hI_=>zL (l':=[pb 0 77 [(.opn 0 0),(.osl 2 0 ((t++zQ y:qQ).length))],pb 2 5 (qT (t++zQ y))]) (by kernel_rfl) cx_ a_ hI_) hI_
  refine qR (bf h16) ?_
  have hY:lyT (iL y)=[32,34]++iL y++[34]:=if_neg (by assumption)
  have hY2:=congrArg List.length hY
  simp only [List.length_append,List.length_cons,List.length_nil] at hY2
  refine wR qC [(5,.val (.av (.string (st (([32,34]:TX)++(iL y)))))),(6,.val (.av (.string (st ((([32,34]:TX)++(iL y))++([34]:TX)))))),(7,.call [0,394] [(.opt 0 0),(sv (st ((([32,34]:TX)++(iL y))++([34]:TX))))] [some (77,[(.opn 0 0),(.osl 1 0 ((t++qE y++qI (iS y):qQ).length))]),some (5,(qT (t++qE y++qI (iS y))))] (.tup [(nv ((((([32,34]:TX)++(iL y))++([34]:TX))).length)),(.av .nilIface)]) [some (77,[(.opn 0 0),(.osl 2 0 (((t++qE y++qI (iS y))++((([32,34]:TX)++(iL y))++([34]:TX)):qQ).length))]),none,some (5,(qT ((t++qE y++qI (iS y))++((([32,34]:TX)++(iL y))++([34]:TX)))))])] [[],[0],[0,1],[],[3],[3,4],[3,4,5],[0,1,2,3,4,5,6]] [([136],[0]),([138],[136]),([140],[138]),([142],[6]),([144],[5,142]),([146],[144]),([148],[146]),([150,1,789,965],[1,140,148,789])] [pb 0 77 [(.opn 0 0),(.osl 482 0 (((t++qE y++qI (iS y))++((([32,34]:TX)++(iL y))++([34]:TX)):qQ).length))],pb 482 5 (qN (yI [0,394] 482) (qT ((t++qE y++qI (iS y))++((([32,34]:TX)++(iL y))++([34]:TX)))))] (oc (by first|omega|(simp <;> omega):((([32,34]:TX).length+(iL y).length:Nat):Int)≤9223372036854775807) (oc (qK _ _:st ([32,34]:TX)++st (iL y)=st (([32,34]:TX)++(iL y))) (oc (by first|omega|(simp <;> omega):(((([32,34]:TX)++(iL y)).length+([34]:TX).length:Nat):Int)≤9223372036854775807) (oc (qK _ _:st (([32,34]:TX)++(iL y))++st ([34]:TX)=st ((([32,34]:TX)++(iL y))++([34]:TX))) (oc (ww (t++qE y++qI (iS y)) ((([32,34]:TX)++(iL y))++([34]:TX)) (by (first|omega|(simp only [List.length_append,List.length_cons,List.length_nil];omega)))) (oc (rfl:[(.opt 0 0),(sv (st ((([32,34]:TX)++(iL y))++([34]:TX))))]=qN (qZ [0,394] 482) [(.opt 0 0),(sv (st ((([32,34]:TX)++(iL y))++([34]:TX))))]) (oc (rfl:[(.opn 0 0),(.osl 394 0 ((t++qE y++qI (iS y):qQ).length))]=qN (qZ [0,394] 482) [(.opn 0 0),(.osl 1 0 ((t++qE y++qI (iS y):qQ).length))]) (oc ((qH (qJ _)).symm:(qT (t++qE y++qI (iS y)))=qN (qZ [0,394] 482) (qT (t++qE y++qI (iS y)))) oz)))))))) ?_
  have hT:t++zQ y=t++qE y++qI (iS y)++([32,34]++iL y++[34]):=by rw [yV,hY];simp only [List.append_assoc]
  exact fun cx_ a_ hI_=>zV (H':=[some (77,[(.opn 0 0),(.osl 2 0 ((t++zQ y:qQ).length))]),none,some (5,(qT (t++zQ y)))]) (.inl rfl) (Wk.trans (Wk.eq (show _=[pb 0 77 [(.opn 0 0),(.osl 482 0 (((t++qE y++qI (iS y))++((([32,34]:TX)++(iL y))++([34]:TX)):qQ).length))],pb 482 5 (qT ((t++qE y++qI (iS y))++((([32,34]:TX)++(iL y))++([34]:TX))))] from by simp only [qH (qJ _)])) (Wk.trans (Wk.eq (show _=[pb 0 77 [(.opn 0 0),(.osl 482 0 ((t++zQ y:qQ).length))],pb 482 5 (qT (t++zQ y))] from by rw [hT])) (Wk.ren3 [pb 0 77 [(.opn 0 0),(.osl 2 0 ((t++zQ y:qQ).length))],pb 2 5 (qT (t++zQ y))] 2 hc0 [0,1,482] [(kb 2,(qT (t++zQ y)))] (oc (qJ _) (oz)) (by kernel_rfl) rfl rfl (by kernel_rfl) (by kernel_rfl)))) rfl (oc rfl (oc rfl (oz))) (fun cx_ a_ hI_=>zL (l':=[pb 0 77 [(.opn 0 0),(.osl 2 0 ((t++zQ y:qQ).length))],pb 2 5 (qT (t++zQ y))]) (by kernel_rfl) cx_ a_ hI_) hI_
 refine qU (zN h13)<|qF<|qA ?_
 have hM:qE y=(91 :: (qq (iC y)++[93])):=by unfold qE upT;rw [if_neg (show ¬ iK y=2 from by omega),if_neg (show ¬ iK y=3 from by omega),if_neg (show ¬ iK y=1 from by omega),if_neg (show ¬ iK y=5 from by omega)];rfl
 have hM2:=congrArg List.length hM
 try simp only [List.length_append,List.length_cons,List.length_nil] at hM2
 refine zY qC [(3,.call [0,1] [(.opt 0 0),(.av (.int .u8 91))] [some (77,[(.opn 0 0),(.osl 1 0 t.length)]),some (5,(qT t))] (.av .nilIface) [some (77,[(.opn 0 0),(.osl 2 0 ((t++[91]:qQ).length))]),none,some (5,(qT (t++[91])))])] [.k2,.d,.d,.n,.d,.k1,.n] [pb 0 77 [(.opn 0 0),(.osl 122 0 ((t++[91]:qQ).length))],pb 122 5 (qN (yI [0,1] 122) (qT (t++[91])))] (oc (YW t 91 (by (first|omega|(simp only [List.length_append,List.length_cons,List.length_nil];omega)))) (oc (rfl:[(.opt 0 0),(.av (.int .u8 91))]=qN (qZ [0,1] 122) [(.opt 0 0),(.av (.int .u8 91))]) (oc (rfl:[(.opn 0 0),(.osl 1 0 t.length)]=qN (qZ [0,1] 122) [(.opn 0 0),(.osl 1 0 t.length)]) (oc ((qH (qJ _)).symm:(qT t)=qN (qZ [0,1] 122) (qT t)) oz))))<|qY (Wk.eq (show _=[ps 0 (.opt 0 0),ps 3 (.opt 2 0),pb 0 77 [(.opn 0 0),(.osl 122 0 ((t++[91]:qQ).length))],pb 2 50 [(iv (iK y)),(iv (iS y)),(.ssl (zG (iP y)) 0 ((iP y).length)),(iv ((iB y).1)),(iv ((iB y).2)),(sv (st (iL y))),(.ssl (qO (iC y)) 0 ((iC y).length))],pb 122 5 (qT (t++[91]))] from by simp only [qH (qJ _)])) ?_
 refine qA<|zY qC [(3,.call [0,122] [(.opt 0 0),(.ssl (qO (iC y)) 0 ((iC y).length))] [some (77,[(.opn 0 0),(.osl 1 0 ((t++[91]:qQ).length))]),some (5,(qT (t++[91])))] (.tup []) [some (77,[(.opn 0 0),(.osl 2 0 (((t++[91])++qq (iC y):qQ).length))]),none,some (5,(qT ((t++[91])++qq (iC y))))])] [.k2,.d,.n,.k1,.d,.n] [pb 0 77 [(.opn 0 0),(.osl 154 0 (((t++[91])++qq (iC y):qQ).length))],pb 154 5 (qN (yI [0,122] 154) (qT ((t++[91])++qq (iC y))))] (oc (ihL (iC y) (t++[91]) (wq y) (by (first|omega|(simp only [List.length_append,List.length_cons,List.length_nil];omega))) hx5 hx4 hpr.2.1) (oc (rfl:[(.opt 0 0),(.ssl (qO (iC y)) 0 ((iC y).length))]=qN (qZ [0,122] 154) [(.opt 0 0),(.ssl (qO (iC y)) 0 ((iC y).length))]) (oc (rfl:[(.opn 0 0),(.osl 122 0 ((t++[91]:qQ).length))]=qN (qZ [0,122] 154) [(.opn 0 0),(.osl 1 0 ((t++[91]:qQ).length))]) (oc ((qH (qJ _)).symm:(qT (t++[91]))=qN (qZ [0,122] 154) (qT (t++[91]))) oz))))<|qY (Wk.eq (show _=[ps 0 (.opt 0 0),ps 3 (.opt 2 0),pb 0 77 [(.opn 0 0),(.osl 154 0 (((t++[91])++qq (iC y):qQ).length))],pb 2 50 [(iv (iK y)),(iv (iS y)),(.ssl (zG (iP y)) 0 ((iP y).length)),(iv ((iB y).1)),(iv ((iB y).2)),(sv (st (iL y))),(.ssl (qO (iC y)) 0 ((iC y).length))],pb 154 5 (qT ((t++[91])++qq (iC y)))] from by simp only [qH (qJ _)])) ?_
 refine zY qC [(3,.call [0,154] [(.opt 0 0),(.av (.int .u8 93))] [some (77,[(.opn 0 0),(.osl 1 0 (((t++[91])++qq (iC y):qQ).length))]),some (5,(qT ((t++[91])++qq (iC y))))] (.av .nilIface) [some (77,[(.opn 0 0),(.osl 2 0 ((((t++[91])++qq (iC y))++[93]:qQ).length))]),none,some (5,(qT (((t++[91])++qq (iC y))++[93])))])] [.k2,.d,.n,.k1,.d,.n] [pb 0 77 [(.opn 0 0),(.osl 186 0 ((((t++[91])++qq (iC y))++[93]:qQ).length))],pb 186 5 (qN (yI [0,154] 186) (qT (((t++[91])++qq (iC y))++[93])))] (oc (YW ((t++[91])++qq (iC y)) 93 (by (first|omega|(simp only [List.length_append,List.length_cons,List.length_nil];omega)))) (oc (rfl:[(.opt 0 0),(.av (.int .u8 93))]=qN (qZ [0,154] 186) [(.opt 0 0),(.av (.int .u8 93))]) (oc (rfl:[(.opn 0 0),(.osl 154 0 (((t++[91])++qq (iC y):qQ).length))]=qN (qZ [0,154] 186) [(.opn 0 0),(.osl 1 0 (((t++[91])++qq (iC y):qQ).length))]) (oc ((qH (qJ _)).symm:(qT ((t++[91])++qq (iC y)))=qN (qZ [0,154] 186) (qT ((t++[91])++qq (iC y)))) oz))))<|zF<|qY (Wk.eq (show _=[ps 0 (.opt 0 0),ps 3 (.opt 2 0),pb 0 77 [(.opn 0 0),(.osl 186 0 ((((t++[91])++qq (iC y))++[93]:qQ).length))],pb 2 50 [(iv (iK y)),(iv (iS y)),(.ssl (zG (iP y)) 0 ((iP y).length)),(iv ((iB y).1)),(iv ((iB y).2)),(sv (st (iL y))),(.ssl (qO (iC y)) 0 ((iC y).length))],pb 186 5 (qT (((t++[91])++qq (iC y))++[93]))] from by simp only [qH (qJ _)])) ?_
 refine qA<|qA<|qY (Wk.eq (show _=[ps 0 (.opt 0 0),ps 3 (.opt 2 0),pb 0 77 [(.opn 0 0),(.osl 186 0 ((t++qE y:qQ).length))],pb 2 50 [(iv (iK y)),(iv (iS y)),(.ssl (zG (iP y)) 0 ((iP y).length)),(iv ((iB y).1)),(iv ((iB y).2)),(sv (st (iL y))),(.ssl (qO (iC y)) 0 ((iC y).length))],pb 186 5 (qT (t++qE y))] from by rw [hM];try simp only [List.append_assoc,List.cons_append,List.nil_append])) ?_
 refine qL qC [.k2,.n,.r] [ps 56 (bv (!(decide ((iS y)=1))))] ?_
 by_cases h17:(iS y)=1
 ·refine qU (bt h17)<|qF<|qA ?_
  have hS:qI (iS y)=[]:=if_pos (by omega)
  refine qY (Wk.eq (show _=[ps 0 (.opt 0 0),ps 3 (.opt 2 0),ps 56 (bv (!(decide ((iS y)=1)))),pb 0 77 [(.opn 0 0),(.osl 186 0 ((t++qE y++qI (iS y):qQ).length))],pb 2 50 [(iv (iK y)),(iv (iS y)),(.ssl (zG (iP y)) 0 ((iP y).length)),(iv ((iB y).1)),(iv ((iB y).2)),(sv (st (iL y))),(.ssl (qO (iC y)) 0 ((iC y).length))],pb 186 5 (qT (t++qE y++qI (iS y)))] from by rw [hS];rw [List.append_nil])) ?_
  refine zY qC [(2,.val (.av (.bool (!decide ((iL y)=([]:TX))))))] [.k2,.d,.n,.r] [ps 67 (bv (!(decide ((iL y)=([]:TX)))))] (oc (jB _ _:(!((st (iL y)).toList == (st ([]:TX)).toList)) = !decide ((iL y)=([]:TX))) oz) ?_
  by_cases h18:(iL y)=([]:TX)
  ·refine qU (bt h18)<|qF ?_
   have hT:t++zQ y=t++qE y++qI (iS y):=by rw [yV,show lyT (iL y)=[] from if_pos (by assumption),List.append_nil,List.append_assoc]
   exact fun cx_ a_ hI_=>zV (H':=[some (77,[(.opn 0 0),(.osl 2 0 ((t++zQ y:qQ).length))]),none,some (5,(qT (t++zQ y)))]) (.inl rfl) (Wk.trans (Wk.eq (show _=[ps 0 (.opt 0 0),ps 3 (.opt 2 0),ps 67 (bv (!(decide ((iL y)=([]:TX))))),pb 0 77 [(.opn 0 0),(.osl 186 0 ((t++zQ y:qQ).length))],pb 2 50 [(iv (iK y)),(iv (iS y)),(.ssl (zG (iP y)) 0 ((iP y).length)),(iv ((iB y).1)),(iv ((iB y).2)),(sv (st (iL y))),(.ssl (qO (iC y)) 0 ((iC y).length))],pb 186 5 (qT (t++zQ y))] from by rw [hT])) (Wk.ren3 [pb 0 77 [(.opn 0 0),(.osl 2 0 ((t++zQ y:qQ).length))],pb 2 5 (qT (t++zQ y))] 2 hc0 [0,1,186] [(kb 2,(qT (t++zQ y)))] (oc (qJ _) (oz)) (by kernel_rfl) rfl rfl (by kernel_rfl) (by kernel_rfl))) rfl (oc rfl (oc rfl (oz))) (fun cx_ a_ hI_=>zL (l':=[pb 0 77 [(.opn 0 0),(.osl 2 0 ((t++zQ y:qQ).length))],pb 2 5 (qT (t++zQ y))]) (by kernel_rfl) cx_ a_ hI_) hI_
  refine qR (bf h18) ?_
  have hY:lyT (iL y)=[32,34]++iL y++[34]:=if_neg (by assumption)
  have hY2:=congrArg List.length hY
  simp only [List.length_append,List.length_cons,List.length_nil] at hY2
  refine wR qC [(5,.val (.av (.string (st (([32,34]:TX)++(iL y)))))),(6,.val (.av (.string (st ((([32,34]:TX)++(iL y))++([34]:TX)))))),(7,.call [0,186] [(.opt 0 0),(sv (st ((([32,34]:TX)++(iL y))++([34]:TX))))] [some (77,[(.opn 0 0),(.osl 1 0 ((t++qE y++qI (iS y):qQ).length))]),some (5,(qT (t++qE y++qI (iS y))))] (.tup [(nv ((((([32,34]:TX)++(iL y))++([34]:TX))).length)),(.av .nilIface)]) [some (77,[(.opn 0 0),(.osl 2 0 (((t++qE y++qI (iS y))++((([32,34]:TX)++(iL y))++([34]:TX)):qQ).length))]),none,some (5,(qT ((t++qE y++qI (iS y))++((([32,34]:TX)++(iL y))++([34]:TX)))))])] [[],[0],[0,1],[],[3],[3,4],[3,4,5],[0,1,2,3,4,5,6]] [([136],[0]),([138],[136]),([140],[138]),([142],[6]),([144],[5,142]),([146],[144]),([148],[146]),([150,1,373,597],[1,140,148,373])] [pb 0 77 [(.opn 0 0),(.osl 298 0 (((t++qE y++qI (iS y))++((([32,34]:TX)++(iL y))++([34]:TX)):qQ).length))],pb 298 5 (qN (yI [0,186] 298) (qT ((t++qE y++qI (iS y))++((([32,34]:TX)++(iL y))++([34]:TX)))))] (oc (by first|omega|(simp <;> omega):((([32,34]:TX).length+(iL y).length:Nat):Int)≤9223372036854775807) (oc (qK _ _:st ([32,34]:TX)++st (iL y)=st (([32,34]:TX)++(iL y))) (oc (by first|omega|(simp <;> omega):(((([32,34]:TX)++(iL y)).length+([34]:TX).length:Nat):Int)≤9223372036854775807) (oc (qK _ _:st (([32,34]:TX)++(iL y))++st ([34]:TX)=st ((([32,34]:TX)++(iL y))++([34]:TX))) (oc (ww (t++qE y++qI (iS y)) ((([32,34]:TX)++(iL y))++([34]:TX)) (by (first|omega|(simp only [List.length_append,List.length_cons,List.length_nil];omega)))) (oc (rfl:[(.opt 0 0),(sv (st ((([32,34]:TX)++(iL y))++([34]:TX))))]=qN (qZ [0,186] 298) [(.opt 0 0),(sv (st ((([32,34]:TX)++(iL y))++([34]:TX))))]) (oc (rfl:[(.opn 0 0),(.osl 186 0 ((t++qE y++qI (iS y):qQ).length))]=qN (qZ [0,186] 298) [(.opn 0 0),(.osl 1 0 ((t++qE y++qI (iS y):qQ).length))]) (oc ((qH (qJ _)).symm:(qT (t++qE y++qI (iS y)))=qN (qZ [0,186] 298) (qT (t++qE y++qI (iS y)))) oz)))))))) ?_
  have hT:t++zQ y=t++qE y++qI (iS y)++([32,34]++iL y++[34]):=by rw [yV,hY];simp only [List.append_assoc]
  exact fun cx_ a_ hI_=>zV (H':=[some (77,[(.opn 0 0),(.osl 2 0 ((t++zQ y:qQ).length))]),none,some (5,(qT (t++zQ y)))]) (.inl rfl) (Wk.trans (Wk.eq (show _=[pb 0 77 [(.opn 0 0),(.osl 298 0 (((t++qE y++qI (iS y))++((([32,34]:TX)++(iL y))++([34]:TX)):qQ).length))],pb 298 5 (qT ((t++qE y++qI (iS y))++((([32,34]:TX)++(iL y))++([34]:TX))))] from by simp only [qH (qJ _)])) (Wk.trans (Wk.eq (show _=[pb 0 77 [(.opn 0 0),(.osl 298 0 ((t++zQ y:qQ).length))],pb 298 5 (qT (t++zQ y))] from by rw [hT])) (Wk.ren3 [pb 0 77 [(.opn 0 0),(.osl 2 0 ((t++zQ y:qQ).length))],pb 2 5 (qT (t++zQ y))] 2 hc0 [0,1,298] [(kb 2,(qT (t++zQ y)))] (oc (qJ _) (oz)) (by kernel_rfl) rfl rfl (by kernel_rfl) (by kernel_rfl)))) rfl (oc rfl (oc rfl (oz))) (fun cx_ a_ hI_=>zL (l':=[pb 0 77 [(.opn 0 0),(.osl 2 0 ((t++zQ y:qQ).length))],pb 2 5 (qT (t++zQ y))]) (by kernel_rfl) cx_ a_ hI_) hI_
 refine qR (bf h17) ?_
 have hS:qI (iS y)=[42]++Lib.itoa (iS y):=if_neg (by omega)
 have hS2:=congrArg List.length hS
 simp only [List.length_append,List.length_cons,List.length_nil] at hS2
 have hIt:=Lib.itoa_length_le (iS y) (by omega) (by omega)
 refine QK qC [(5,.call [] [(iv (iS y))] [] (sv (st (Lib.itoa (iS y)))) []),(6,.val (.av (.string (st (([42]:TX)++(Lib.itoa (iS y))))))),(7,.call [0,186] [(.opt 0 0),(sv (st (([42]:TX)++(Lib.itoa (iS y)))))] [some (77,[(.opn 0 0),(.osl 1 0 ((t++qE y:qQ).length))]),some (5,(qT (t++qE y)))] (.tup [(nv (((([42]:TX)++(Lib.itoa (iS y)))).length)),(.av .nilIface)]) [some (77,[(.opn 0 0),(.osl 2 0 (((t++qE y)++(([42]:TX)++(Lib.itoa (iS y))):qQ).length))]),none,some (5,(qT ((t++qE y)++(([42]:TX)++(Lib.itoa (iS y))))))])] [[],[0],[0,1],[],[3],[3,4],[3,4,5],[0,1,2,3,4,5,6]] [([114],[0]),([116],[114]),([118],[116]),([120],[6]),([122],[5,120]),([124],[122]),([126],[124]),([128,1,373,549],[1,118,126,373])] [.k2,.d,.d,.n,.k1,.d,.n] [pb 0 77 [(.opn 0 0),(.osl 274 0 (((t++qE y)++(([42]:TX)++(Lib.itoa (iS y))):qQ).length))],pb 274 5 (qN (yI [0,186] 274) (qT ((t++qE y)++(([42]:TX)++(Lib.itoa (iS y))))))] (yD 258 (zy (iS y) (by omega) (by omega)) (oc (by first|omega|(simp <;> omega):((([42]:TX).length+(Lib.itoa (iS y)).length:Nat):Int)≤9223372036854775807) (oc (qK _ _:st ([42]:TX)++st (Lib.itoa (iS y))=st (([42]:TX)++(Lib.itoa (iS y)))) (oc (ww (t++qE y) (([42]:TX)++(Lib.itoa (iS y))) (by (first|omega|(simp only [List.length_append,List.length_cons,List.length_nil];omega)))) (oc (rfl:[(.opt 0 0),(sv (st (([42]:TX)++(Lib.itoa (iS y)))))]=qN (qZ [0,186] 274) [(.opt 0 0),(sv (st (([42]:TX)++(Lib.itoa (iS y)))))]) (oc (rfl:[(.opn 0 0),(.osl 186 0 ((t++qE y:qQ).length))]=qN (qZ [0,186] 274) [(.opn 0 0),(.osl 1 0 ((t++qE y:qQ).length))]) (oc ((qH (qJ _)).symm:(qT (t++qE y))=qN (qZ [0,186] 274) (qT (t++qE y))) oz)))))))<|qY (Wk.eq (show _=[ps 0 (.opt 0 0),ps 3 (.opt 2 0),pb 0 77 [(.opn 0 0),(.osl 274 0 (((t++qE y)++(([42]:TX)++(Lib.itoa (iS y))):qQ).length))],pb 2 50 [(iv (iK y)),(iv (iS y)),(.ssl (zG (iP y)) 0 ((iP y).length)),(iv ((iB y).1)),(iv ((iB y).2)),(sv (st (iL y))),(.ssl (qO (iC y)) 0 ((iC y).length))],pb 274 5 (qT ((t++qE y)++(([42]:TX)++(Lib.itoa (iS y)))))] from by simp only [qH (qJ _)])) ?_
 refine qA<|qY (Wk.eq (show _=[ps 0 (.opt 0 0),ps 3 (.opt 2 0),pb 0 77 [(.opn 0 0),(.osl 274 0 ((t++qE y++qI (iS y):qQ).length))],pb 2 50 [(iv (iK y)),(iv (iS y)),(.ssl (zG (iP y)) 0 ((iP y).length)),(iv ((iB y).1)),(iv ((iB y).2)),(sv (st (iL y))),(.ssl (qO (iC y)) 0 ((iC y).length))],pb 274 5 (qT (t++qE y++qI (iS y)))] from by rw [hS])) ?_
 refine zY qC [(2,.val (.av (.bool (!decide ((iL y)=([]:TX))))))] [.k2,.n,.r] [ps 67 (bv (!(decide ((iL y)=([]:TX)))))] (oc (jB _ _:(!((st (iL y)).toList == (st ([]:TX)).toList)) = !decide ((iL y)=([]:TX))) oz) ?_
 by_cases h19:(iL y)=([]:TX)
 ·refine qU (bt h19)<|qF ?_
  have hT:t++zQ y=t++qE y++qI (iS y):=by rw [yV,show lyT (iL y)=[] from if_pos (by assumption),List.append_nil,List.append_assoc]
  exact fun cx_ a_ hI_=>zV (H':=[some (77,[(.opn 0 0),(.osl 2 0 ((t++zQ y:qQ).length))]),none,some (5,(qT (t++zQ y)))]) (.inl rfl) (Wk.trans (Wk.eq (show _=[ps 0 (.opt 0 0),ps 3 (.opt 2 0),ps 67 (bv (!(decide ((iL y)=([]:TX))))),pb 0 77 [(.opn 0 0),(.osl 274 0 ((t++zQ y:qQ).length))],pb 2 50 [(iv (iK y)),(iv (iS y)),(.ssl (zG (iP y)) 0 ((iP y).length)),(iv ((iB y).1)),(iv ((iB y).2)),(sv (st (iL y))),(.ssl (qO (iC y)) 0 ((iC y).length))],pb 274 5 (qT (t++zQ y))] from by rw [hT])) (Wk.ren3 [pb 0 77 [(.opn 0 0),(.osl 2 0 ((t++zQ y:qQ).length))],pb 2 5 (qT (t++zQ y))] 2 hc0 [0,1,274] [(kb 2,(qT (t++zQ y)))] (oc (qJ _) (oz)) (by kernel_rfl) rfl rfl (by kernel_rfl) (by kernel_rfl))) rfl (oc rfl (oc rfl (oz))) (fun cx_ a_ hI_=>zL (l':=[pb 0 77 [(.opn 0 0),(.osl 2 0 ((t++zQ y:qQ).length))],pb 2 5 (qT (t++zQ y))]) (by kernel_rfl) cx_ a_ hI_) hI_
 refine qR (bf h19) ?_
 have hY:lyT (iL y)=[32,34]++iL y++[34]:=if_neg (by assumption)
 have hY2:=congrArg List.length hY
 simp only [List.length_append,List.length_cons,List.length_nil] at hY2
 refine wR qC [(5,.val (.av (.string (st (([32,34]:TX)++(iL y)))))),(6,.val (.av (.string (st ((([32,34]:TX)++(iL y))++([34]:TX)))))),(7,.call [0,274] [(.opt 0 0),(sv (st ((([32,34]:TX)++(iL y))++([34]:TX))))] [some (77,[(.opn 0 0),(.osl 1 0 ((t++qE y++qI (iS y):qQ).length))]),some (5,(qT (t++qE y++qI (iS y))))] (.tup [(nv ((((([32,34]:TX)++(iL y))++([34]:TX))).length)),(.av .nilIface)]) [some (77,[(.opn 0 0),(.osl 2 0 (((t++qE y++qI (iS y))++((([32,34]:TX)++(iL y))++([34]:TX)):qQ).length))]),none,some (5,(qT ((t++qE y++qI (iS y))++((([32,34]:TX)++(iL y))++([34]:TX)))))])] [[],[0],[0,1],[],[3],[3,4],[3,4,5],[0,1,2,3,4,5,6]] [([136],[0]),([138],[136]),([140],[138]),([142],[6]),([144],[5,142]),([146],[144]),([148],[146]),([150,1,549,725],[1,140,148,549])] [pb 0 77 [(.opn 0 0),(.osl 362 0 (((t++qE y++qI (iS y))++((([32,34]:TX)++(iL y))++([34]:TX)):qQ).length))],pb 362 5 (qN (yI [0,274] 362) (qT ((t++qE y++qI (iS y))++((([32,34]:TX)++(iL y))++([34]:TX)))))] (oc (by first|omega|(simp <;> omega):((([32,34]:TX).length+(iL y).length:Nat):Int)≤9223372036854775807) (oc (qK _ _:st ([32,34]:TX)++st (iL y)=st (([32,34]:TX)++(iL y))) (oc (by first|omega|(simp <;> omega):(((([32,34]:TX)++(iL y)).length+([34]:TX).length:Nat):Int)≤9223372036854775807) (oc (qK _ _:st (([32,34]:TX)++(iL y))++st ([34]:TX)=st ((([32,34]:TX)++(iL y))++([34]:TX))) (oc (ww (t++qE y++qI (iS y)) ((([32,34]:TX)++(iL y))++([34]:TX)) (by (first|omega|(simp only [List.length_append,List.length_cons,List.length_nil];omega)))) (oc (rfl:[(.opt 0 0),(sv (st ((([32,34]:TX)++(iL y))++([34]:TX))))]=qN (qZ [0,274] 362) [(.opt 0 0),(sv (st ((([32,34]:TX)++(iL y))++([34]:TX))))]) (oc (rfl:[(.opn 0 0),(.osl 274 0 ((t++qE y++qI (iS y):qQ).length))]=qN (qZ [0,274] 362) [(.opn 0 0),(.osl 1 0 ((t++qE y++qI (iS y):qQ).length))]) (oc ((qH (qJ _)).symm:(qT (t++qE y++qI (iS y)))=qN (qZ [0,274] 362) (qT (t++qE y++qI (iS y)))) oz)))))))) ?_
 have hT:t++zQ y=t++qE y++qI (iS y)++([32,34]++iL y++[34]):=by rw [yV,hY];simp only [List.append_assoc]
 exact fun cx_ a_ hI_=>zV (H':=[some (77,[(.opn 0 0),(.osl 2 0 ((t++zQ y:qQ).length))]),none,some (5,(qT (t++zQ y)))]) (.inl rfl) (Wk.trans (Wk.eq (show _=[pb 0 77 [(.opn 0 0),(.osl 362 0 (((t++qE y++qI (iS y))++((([32,34]:TX)++(iL y))++([34]:TX)):qQ).length))],pb 362 5 (qT ((t++qE y++qI (iS y))++((([32,34]:TX)++(iL y))++([34]:TX))))] from by simp only [qH (qJ _)])) (Wk.trans (Wk.eq (show _=[pb 0 77 [(.opn 0 0),(.osl 362 0 ((t++zQ y:qQ).length))],pb 362 5 (qT (t++zQ y))] from by rw [hT])) (Wk.ren3 [pb 0 77 [(.opn 0 0),(.osl 2 0 ((t++zQ y:qQ).length))],pb 2 5 (qT (t++zQ y))] 2 hc0 [0,1,362] [(kb 2,(qT (t++zQ y)))] (oc (qJ _) (oz)) (by kernel_rfl) rfl rfl (by kernel_rfl) (by kernel_rfl)))) rfl (oc rfl (oc rfl (oz))) (fun cx_ a_ hI_=>zL (l':=[pb 0 77 [(.opn 0 0),(.osl 2 0 ((t++zQ y:qQ).length))],pb 2 5 (qT (t++zQ y))]) (by kernel_rfl) cx_ a_ hI_) hI_
theorem pitems_step (l:List It) (t:qQ) (ihI:∀ (x:It) (t:qQ),SizeOf.sizeOf x<SizeOf.sizeOf l→t.length+(zQ x).length≤140737488355328→QP x→prI x→PC Tryz.prog 62 [.opt 0 0,.agg (gI x)] [some (77,[(.opn 0 0),(.osl 1 0 t.length)]),some (5,(qT t))] (.tup []) [some (77,[(.opn 0 0),(.osl 2 0 ((t++zQ x:qQ).length))]),none,some (5,(qT (t++zQ x)))]) (hb:t.length+(qq l).length≤140737488355328) (hfl:wy l) (hll:l.length≤1466015503658) (hpl:prL l):PC Tryz.prog 29 [(.opt 0 0),(.ssl (qO l) 0 l.length)] [some (77,[(.opn 0 0),(.osl 1 0 t.length)]),some (5,(qT t))] (.tup []) [some (77,[(.opn 0 0),(.osl 2 0 ((t++qq l:qQ).length))]),none,some (5,(qT (t++qq l)))]:=by
 refine zI Tryz.func29 rfl (by kernel_rfl) (Nat.le_of_ble_eq_true rfl) (by kernel_rfl) (l0:=[ps 0 (.opt 0 0),ps 1 (.ssl (qO l) 0 l.length),pb 0 77 [(.opn 0 0),(.osl 1 0 t.length)],pb 1 5 (qT t)]) rfl (fun c0 Bor hc0=>?_)
 refine qA<|qY (Wk.eq (show _=[ps 0 (.opt 0 0),ps 1 (.ssl (qO l) 0 l.length),pb 0 77 [(.opn 0 0),(.osl 1 0 ((t++qq (l.take 0):qQ).length))],pb 1 5 (qT (t++qq (l.take 0)))] from by rw [List.take_zero,QF,List.append_nil])) ?_
 refine qL qC [.k1,.d,.n,.n,.n,.r] [ps 6 (.ssl (qO l) 0 l.length),ps 7 (nv l.length),ps 8 (iv 0)]<|qV<|yC (α:={x:Nat // x≤l.length}) (fun x=>[ps 0 (.opt 0 0),ps 6 (.ssl (qO l) 0 l.length),ps 7 (nv l.length),ps 8 (nv x.1),pb 0 77 [(.opn 0 0),(.osl 2 0 ((t++qq (l.take x.1):qQ).length))],pb 2 5 (qT (t++qq (l.take x.1)))]) (fun x=>l.length-x.1) 3 ⟨0,Nat.zero_le _⟩ (Wk.ren3D _ 2 hc0 [0,1,1] [(kb 2,(qT (t++qq (l.take 0))))] (oc (qJ _) (oz)) (by kernel_rfl) rfl (by kernel_rfl) (by kernel_rfl) (by kernel_rfl)) ?_
 rintro ⟨i,hi⟩
 refine qA<|qk qC [] [ps 0 (.opt 0 0),ps 6 (.ssl (qO l) 0 l.length),ps 7 (nv l.length),ps 8 (nv i),ps 9 (bv (decide (((i:Nat):Int)<(l.length:Int)))),pb 0 77 [(.opn 0 0),(.osl 2 0 ((t++qq (l.take i):qQ).length))],pb 2 5 (qT (t++qq (l.take i)))] (oz)<|qA ?_
 by_cases h1:(i:Int)<(l.length:Int)
 ·refine qR (zP h1)<|qF<|qA<|qV<|qA ?_
  have hrm:=its_room (show i<l.length from by omega)
  have hple:=qjz l i
  refine zY qC [(1,.nat (i*7)),(2,.cells [(iv (iK (l.getD i qB))),(iv (iS (l.getD i qB))),(.ssl (zG (iP (l.getD i qB))) 0 ((iP (l.getD i qB)).length)),(iv ((iB (l.getD i qB)).1)),(iv ((iB (l.getD i qB)).2)),(sv (st (iL (l.getD i qB)))),(.ssl (qO (iC (l.getD i qB))) 0 ((iC (l.getD i qB)).length))])] [.k1,.n,.n,.k3,.d,.k2,.n] [ps 4 (nv i),ps 5 (.opt 35 0),pb 35 50 [(iv (iK (l.getD i qB))),(iv (iS (l.getD i qB))),(.ssl (zG (iP (l.getD i qB))) 0 ((iP (l.getD i qB)).length)),(iv ((iB (l.getD i qB)).1)),(iv ((iB (l.getD i qB)).2)),(sv (st (iL (l.getD i qB)))),(.ssl (qO (iC (l.getD i qB))) 0 ((iC (l.getD i qB)).length))]] (oc (by omega:(0:Int)≤(i:Int)∧(i:Int)<(l.length:Int)) (oc (by omega:0+(((i:Nat):Int):Int).toNat*7=(i*7)) (oc (YN l i 0 7 (by omega) (by decide):(i*7)+7≤((qO l)).length∧(((qO l)).drop (i*7)).take 7=[(iv (iK (l.getD i qB))),(iv (iS (l.getD i qB))),(.ssl (zG (iP (l.getD i qB))) 0 ((iP (l.getD i qB)).length)),(iv ((iB (l.getD i qB)).1)),(iv ((iB (l.getD i qB)).2)),(sv (st (iL (l.getD i qB)))),(.ssl (qO (iC (l.getD i qB))) 0 ((iC (l.getD i qB)).length))]) oz)))<|qA<|qA<|qL qC [.k1,.d,.k4,.n,.r] [ps 14 (bv (decide (0<(i:Int))))] ?_
  by_cases h2:0<(i:Int)
  ·refine qR (zP h2) ?_
   have hrm2:=hrm.1
   rw [if_neg (show ¬ i=0 from by omega)] at hrm2
   refine zY qC [(3,.call [0,2] [(.opt 0 0),(.av (.int .u8 32))] [some (77,[(.opn 0 0),(.osl 1 0 ((t++qq (l.take i):qQ).length))]),some (5,(qT (t++qq (l.take i))))] (.av .nilIface) [some (77,[(.opn 0 0),(.osl 2 0 (((t++qq (l.take i))++[32]:qQ).length))]),none,some (5,(qT ((t++qq (l.take i))++[32])))])] [.k5,.d,.d,.n,.d,.k1,.n] [pb 0 77 [(.opn 0 0),(.osl 99 0 (((t++qq (l.take i))++[32]:qQ).length))],pb 99 5 (qN (yI [0,2] 99) (qT ((t++qq (l.take i))++[32])))] (oc (YW (t++qq (l.take i)) 32 (by (first|omega|(simp only [List.length_append,List.length_cons,List.length_nil];omega)))) (oc (rfl:[(.opt 0 0),(.av (.int .u8 32))]=qN (qZ [0,2] 99) [(.opt 0 0),(.av (.int .u8 32))]) (oc (rfl:[(.opn 0 0),(.osl 2 0 ((t++qq (l.take i):qQ).length))]=qN (qZ [0,2] 99) [(.opn 0 0),(.osl 1 0 ((t++qq (l.take i):qQ).length))]) (oc ((qH (qJ _)).symm:(qT (t++qq (l.take i)))=qN (qZ [0,2] 99) (qT (t++qq (l.take i)))) oz))))<|qY (Wk.eq (show _=[ps 0 (.opt 0 0),ps 5 (.opt 35 0),ps 6 (.ssl (qO l) 0 l.length),ps 7 (nv l.length),ps 8 (nv i),pb 0 77 [(.opn 0 0),(.osl 99 0 (((t++qq (l.take i))++[32]:qQ).length))],pb 35 50 [(iv (iK (l.getD i qB))),(iv (iS (l.getD i qB))),(.ssl (zG (iP (l.getD i qB))) 0 ((iP (l.getD i qB)).length)),(iv ((iB (l.getD i qB)).1)),(iv ((iB (l.getD i qB)).2)),(sv (st (iL (l.getD i qB)))),(.ssl (qO (iC (l.getD i qB))) 0 ((iC (l.getD i qB)).length))],pb 99 5 (qT ((t++qq (l.take i))++[32]))] from by simp only [qH (qJ _)])) ?_
   rw [if_neg (show ¬ i=0 from by omega)] at hrm
   refine zY qC [(2,.call [0,99] [(.opt 0 0),(.agg [(iv (iK (l.getD i qB))),(iv (iS (l.getD i qB))),(.ssl (zG (iP (l.getD i qB))) 0 ((iP (l.getD i qB)).length)),(iv ((iB (l.getD i qB)).1)),(iv ((iB (l.getD i qB)).2)),(sv (st (iL (l.getD i qB)))),(.ssl (qO (iC (l.getD i qB))) 0 ((iC (l.getD i qB)).length))])] [some (77,[(.opn 0 0),(.osl 1 0 (((t++qq (l.take i))++[32]:qQ).length))]),some (5,(qT ((t++qq (l.take i))++[32])))] (.tup []) [some (77,[(.opn 0 0),(.osl 2 0 ((((t++qq (l.take i))++[32])++zQ (l.getD i qB):qQ).length))]),none,some (5,(qT (((t++qq (l.take i))++[32])++zQ (l.getD i qB))))])] [.k1,.d,.k3,.d,.n,.d,.d,.n] [pb 0 77 [(.opn 0 0),(.osl 123 0 ((((t++qq (l.take i))++[32])++zQ (l.getD i qB):qQ).length))],pb 123 5 (qN (yI [0,99] 123) (qT (((t++qq (l.take i))++[32])++zQ (l.getD i qB))))] (oc (ihI (l.getD i qB) ((t++qq (l.take i))++[32]) (qab (by omega)) (by (first|omega|(simp only [List.length_append,List.length_cons,List.length_nil];omega))) (jM hfl (by omega)) (hpl i (by omega)):PC Tryz.prog 62 [(.opt 0 0),(.agg [(iv (iK (l.getD i qB))),(iv (iS (l.getD i qB))),(.ssl (zG (iP (l.getD i qB))) 0 ((iP (l.getD i qB)).length)),(iv ((iB (l.getD i qB)).1)),(iv ((iB (l.getD i qB)).2)),(sv (st (iL (l.getD i qB)))),(.ssl (qO (iC (l.getD i qB))) 0 ((iC (l.getD i qB)).length))])] [some (77,[(.opn 0 0),(.osl 1 0 (((t++qq (l.take i))++[32]:qQ).length))]),some (5,(qT ((t++qq (l.take i))++[32])))] (.tup []) [some (77,[(.opn 0 0),(.osl 2 0 ((((t++qq (l.take i))++[32])++zQ (l.getD i qB):qQ).length))]),none,some (5,(qT (((t++qq (l.take i))++[32])++zQ (l.getD i qB))))]) (oc (rfl:[(.opt 0 0),(.agg [(iv (iK (l.getD i qB))),(iv (iS (l.getD i qB))),(.ssl (zG (iP (l.getD i qB))) 0 ((iP (l.getD i qB)).length)),(iv ((iB (l.getD i qB)).1)),(iv ((iB (l.getD i qB)).2)),(sv (st (iL (l.getD i qB)))),(.ssl (qO (iC (l.getD i qB))) 0 ((iC (l.getD i qB)).length))])]=qN (qZ [0,99] 123) [(.opt 0 0),(.agg [(iv (iK (l.getD i qB))),(iv (iS (l.getD i qB))),(.ssl (zG (iP (l.getD i qB))) 0 ((iP (l.getD i qB)).length)),(iv ((iB (l.getD i qB)).1)),(iv ((iB (l.getD i qB)).2)),(sv (st (iL (l.getD i qB)))),(.ssl (qO (iC (l.getD i qB))) 0 ((iC (l.getD i qB)).length))])]) (oc (rfl:[(.opn 0 0),(.osl 99 0 (((t++qq (l.take i))++[32]:qQ).length))]=qN (qZ [0,99] 123) [(.opn 0 0),(.osl 1 0 (((t++qq (l.take i))++[32]:qQ).length))]) (oc ((qH (qJ _)).symm:(qT ((t++qq (l.take i))++[32]))=qN (qZ [0,99] 123) (qT ((t++qq (l.take i))++[32]))) oz))))<|zF<|qY (Wk.eq (show _=[ps 0 (.opt 0 0),ps 6 (.ssl (qO l) 0 l.length),ps 7 (nv l.length),ps 8 (nv i),pb 0 77 [(.opn 0 0),(.osl 123 0 ((((t++qq (l.take i))++[32])++zQ (l.getD i qB):qQ).length))],pb 123 5 (qT (((t++qq (l.take i))++[32])++zQ (l.getD i qB)))] from by simp only [qH (qJ _)])) ?_
   refine zY qC [] [.k3,.d,.n,.r] [ps 8 (iv (((i:Nat):Int)+1))] (oi (((i:Nat):Int)+1) (by omega) oz) ?_
   have hn:=qbt (show i<l.length from by omega)
   rw [if_neg (by omega)] at hn
   exact zR ⟨i+1,by show i+1≤l.length;omega⟩ (Wk.trans (Wk.eq (show _=[ps 0 (.opt 0 0),ps 6 (.ssl (qO l) 0 l.length),ps 7 (nv l.length),ps 8 (nv (i+1)),pb 0 77 [(.opn 0 0),(.osl 123 0 ((t++qq (l.take (i+1)):qQ).length))],pb 123 5 (qT (t++qq (l.take (i+1))))] from by rw [hn];simp only [List.append_assoc];rfl)) (Wk.ren3 _ 2 hc0 [0,1,123] [(kb 2,(qT (t++qq (l.take (i+1)))))] (oc (qJ _) (oz)) (by kernel_rfl) rfl rfl (by kernel_rfl) (by kernel_rfl))) (show l.length-(i+1)<l.length-i from by show l.length-(i+1)<l.length-i;omega)
  refine qU (zN h2)<|qF ?_
  rw [if_pos (show i=0 from by omega)] at hrm
  refine zY qC [(2,.call [0,2] [(.opt 0 0),(.agg [(iv (iK (l.getD i qB))),(iv (iS (l.getD i qB))),(.ssl (zG (iP (l.getD i qB))) 0 ((iP (l.getD i qB)).length)),(iv ((iB (l.getD i qB)).1)),(iv ((iB (l.getD i qB)).2)),(sv (st (iL (l.getD i qB)))),(.ssl (qO (iC (l.getD i qB))) 0 ((iC (l.getD i qB)).length))])] [some (77,[(.opn 0 0),(.osl 1 0 ((t++qq (l.take i):qQ).length))]),some (5,(qT (t++qq (l.take i))))] (.tup []) [some (77,[(.opn 0 0),(.osl 2 0 (((t++qq (l.take i))++zQ (l.getD i qB):qQ).length))]),none,some (5,(qT ((t++qq (l.take i))++zQ (l.getD i qB))))])] [.k1,.d,.k3,.d,.d,.n,.d,.d,.n] [pb 0 77 [(.opn 0 0),(.osl 91 0 (((t++qq (l.take i))++zQ (l.getD i qB):qQ).length))],pb 91 5 (qN (yI [0,2] 91) (qT ((t++qq (l.take i))++zQ (l.getD i qB))))] (oc (ihI (l.getD i qB) (t++qq (l.take i)) (qab (by omega)) (by (first|omega|(simp only [List.length_append,List.length_cons,List.length_nil];omega))) (jM hfl (by omega)) (hpl i (by omega)):PC Tryz.prog 62 [(.opt 0 0),(.agg [(iv (iK (l.getD i qB))),(iv (iS (l.getD i qB))),(.ssl (zG (iP (l.getD i qB))) 0 ((iP (l.getD i qB)).length)),(iv ((iB (l.getD i qB)).1)),(iv ((iB (l.getD i qB)).2)),(sv (st (iL (l.getD i qB)))),(.ssl (qO (iC (l.getD i qB))) 0 ((iC (l.getD i qB)).length))])] [some (77,[(.opn 0 0),(.osl 1 0 ((t++qq (l.take i):qQ).length))]),some (5,(qT (t++qq (l.take i))))] (.tup []) [some (77,[(.opn 0 0),(.osl 2 0 (((t++qq (l.take i))++zQ (l.getD i qB):qQ).length))]),none,some (5,(qT ((t++qq (l.take i))++zQ (l.getD i qB))))]) (oc (rfl:[(.opt 0 0),(.agg [(iv (iK (l.getD i qB))),(iv (iS (l.getD i qB))),(.ssl (zG (iP (l.getD i qB))) 0 ((iP (l.getD i qB)).length)),(iv ((iB (l.getD i qB)).1)),(iv ((iB (l.getD i qB)).2)),(sv (st (iL (l.getD i qB)))),(.ssl (qO (iC (l.getD i qB))) 0 ((iC (l.getD i qB)).length))])]=qN (qZ [0,2] 91) [(.opt 0 0),(.agg [(iv (iK (l.getD i qB))),(iv (iS (l.getD i qB))),(.ssl (zG (iP (l.getD i qB))) 0 ((iP (l.getD i qB)).length)),(iv ((iB (l.getD i qB)).1)),(iv ((iB (l.getD i qB)).2)),(sv (st (iL (l.getD i qB)))),(.ssl (qO (iC (l.getD i qB))) 0 ((iC (l.getD i qB)).length))])]) (oc (rfl:[(.opn 0 0),(.osl 2 0 ((t++qq (l.take i):qQ).length))]=qN (qZ [0,2] 91) [(.opn 0 0),(.osl 1 0 ((t++qq (l.take i):qQ).length))]) (oc ((qH (qJ _)).symm:(qT (t++qq (l.take i)))=qN (qZ [0,2] 91) (qT (t++qq (l.take i)))) oz))))<|zF<|qY (Wk.eq (show _=[ps 0 (.opt 0 0),ps 6 (.ssl (qO l) 0 l.length),ps 7 (nv l.length),ps 8 (nv i),pb 0 77 [(.opn 0 0),(.osl 91 0 (((t++qq (l.take i))++zQ (l.getD i qB):qQ).length))],pb 91 5 (qT ((t++qq (l.take i))++zQ (l.getD i qB)))] from by simp only [qH (qJ _)])) ?_
  refine zY qC [] [.k3,.d,.n,.r] [ps 8 (iv (((i:Nat):Int)+1))] (oi (((i:Nat):Int)+1) (by omega) oz) ?_
  have hn:=qbt (show i<l.length from by omega)
  rw [if_pos (by omega)] at hn
  exact zR ⟨i+1,by show i+1≤l.length;omega⟩ (Wk.trans (Wk.eq (show _=[ps 0 (.opt 0 0),ps 6 (.ssl (qO l) 0 l.length),ps 7 (nv l.length),ps 8 (nv (i+1)),pb 0 77 [(.opn 0 0),(.osl 91 0 ((t++qq (l.take (i+1)):qQ).length))],pb 91 5 (qT (t++qq (l.take (i+1))))] from by rw [hn,show i=0 from by omega,List.take_zero,QF,List.append_nil];rfl)) (Wk.ren3 _ 2 hc0 [0,1,91] [(kb 2,(qT (t++qq (l.take (i+1)))))] (oc (qJ _) (oz)) (by kernel_rfl) rfl rfl (by kernel_rfl) (by kernel_rfl))) (show l.length-(i+1)<l.length-i from by show l.length-(i+1)<l.length-i;omega)
 refine qU (zN h1)<|zS rfl rfl ?_
 exact fun cx_ a_ hI_=>zV (H':=[some (77,[(.opn 0 0),(.osl 2 0 ((t++qq l:qQ).length))]),none,some (5,(qT (t++qq l)))]) (.inl rfl) (Wk.trans (Wk.eq (show _=[ps 0 (.opt 0 0),ps 6 (.ssl (qO l) 0 l.length),ps 7 (nv l.length),ps 8 (nv i),ps 9 (bv (decide (((i:Nat):Int)<(l.length:Int)))),pb 0 77 [(.opn 0 0),(.osl 2 0 ((t++qq l:qQ).length))],pb 2 5 (qT (t++qq l))] from by rw [List.take_of_length_le (show l.length≤i from by omega)])) (Wk.ren3 [pb 0 77 [(.opn 0 0),(.osl 2 0 ((t++qq l:qQ).length))],pb 2 5 (qT (t++qq l))] 2 hc0 [0,1,2] [(kb 2,(qT (t++qq l)))] (oc (qJ _) (oz)) (by kernel_rfl) rfl rfl (by kernel_rfl) (by kernel_rfl))) rfl (oc rfl (oc rfl (oz))) (fun cx_ a_ hI_=>zL (l':=[pb 0 77 [(.opn 0 0),(.osl 2 0 ((t++qq l:qQ).length))],pb 2 5 (qT (t++qq l))]) (by kernel_rfl) cx_ a_ hI_) hI_
theorem qco:∀ m:Nat,(∀ (x:It) (t:qQ),SizeOf.sizeOf x<m→t.length+(zQ x).length≤140737488355328→QP x→prI x→PC Tryz.prog 62 [.opt 0 0,.agg (gI x)] [some (77,[(.opn 0 0),(.osl 1 0 t.length)]),some (5,(qT t))] (.tup []) [some (77,[(.opn 0 0),(.osl 2 0 ((t++zQ x:qQ).length))]),none,some (5,(qT (t++zQ x)))])∧(∀ (l:List It) (t:qQ),SizeOf.sizeOf l<m→t.length+(qq l).length≤140737488355328→wy l→l.length≤1466015503658→prL l→PC Tryz.prog 29 [.opt 0 0,.ssl (qO l) 0 l.length] [some (77,[(.opn 0 0),(.osl 1 0 t.length)]),some (5,(qT t))] (.tup []) [some (77,[(.opn 0 0),(.osl 2 0 ((t++qq l:qQ).length))]),none,some (5,(qT (t++qq l)))])
 | 0=>⟨fun _ _ h=>absurd h (Nat.not_lt_zero _),fun _ _ h=>absurd h (Nat.not_lt_zero _)⟩
 | m+1=>⟨fun x t h h1 h2 h3=>pitem_step x t (fun l t hl=>(qco m).2 l t (by omega)) h1 h2 h3,fun l t h h1 h2 h3 h4=>pitems_step l t (fun x t hx=>(qco m).1 x t (by omega)) h1 h2 h3 h4⟩
theorem pitems_pc (l:List It) (t:qQ) (h1:t.length+(qq l).length≤140737488355328) (h2:wy l) (h3:l.length≤1466015503658) (h4:prL l):PC Tryz.prog 29 [.opt 0 0,.ssl (qO l) 0 l.length] [some (77,[(.opn 0 0),(.osl 1 0 t.length)]),some (5,(qT t))] (.tup []) [some (77,[(.opn 0 0),(.osl 2 0 ((t++qq l:qQ).length))]),none,some (5,(qT (t++qq l)))]:=(qco _).2 l t (Nat.lt_succ_self _) h1 h2 h3 h4
theorem qjk (l:List Vo) (hfv:qca l):PC Tryz.prog 10 [(.ssl (yJ l) 0 l.length)] [] (.tup [(sv (st ((yx l).1))),(iv ((yx l).2))]) []:=by
 refine zI Tryz.func10 rfl (by kernel_rfl) (Nat.le_of_ble_eq_true rfl) (by kernel_rfl) (l0:=[ps 0 (.ssl (yJ l) 0 l.length)]) rfl (fun c0 Bor hc0=>?_)
 refine qA<|qk qC [] [ps 0 (.ssl (yJ l) 0 l.length)] (oz)<|qA<|qA ?_
 by_cases h1:l.length=0
 ·refine ZF qC 1 [ps 0 (.ssl (yJ l) 0 l.length),ps 4 (iv (qw l))] (yD 24 (wX l hfv) oz)<|qA<|qk qC [] [ps 0 (.ssl (yJ l) 0 l.length),ps 4 (iv (qw l)),ps 13 (bv (!(decide ((qw l)=0))))] (oz) ?_
  by_cases h2:(qw l)=0
  ·refine qU (bt h2)<|qF<|qA<|qk qC [] [ps 0 (.ssl (yJ l) 0 l.length),ps 5 (.opt 64 0),pb 64 77 [(.av (.pointer none)),sn]] (oz)<|qA<|qA<|qk qC [] [ps 5 (.opt 64 0),ps 17 (.ssl (yJ l) 0 l.length),ps 18 (nv l.length),ps 19 (iv 0),pb 64 77 [(.av (.pointer none)),sn]] (oz)<|qV<|yC (α:={x:Nat // x=0}) (fun x=>[ps 5 (.opt 0 0),ps 17 (.ssl (yJ l) 0 l.length),ps 18 (nv l.length),ps 19 (nv x.1),pb 0 77 [(.av (.pointer none)),sn]]) (fun x=>0) 1 ⟨0,rfl⟩ (Wk.ren2 _ 0 hc0 [64] rfl rfl (by kernel_rfl) (by kernel_rfl)) ?_
   rintro ⟨i,hi⟩
   refine qA<|qk qC [] [ps 5 (.opt 0 0),ps 17 (.ssl (yJ l) 0 l.length),ps 18 (nv l.length),ps 19 (nv i),ps 20 (bv (decide (((i:Nat):Int)<(l.length:Int)))),pb 0 77 [(.av (.pointer none)),sn]] (oz)<|qA ?_
   have h3:¬ (((i:Nat):Int)<(l.length:Int)):=(by omega)
   refine qU (zN h3)<|zS rfl rfl<|qA<|qA<|T_r1 qC 3 [ps 5 (.opt 0 0),ps 66 (bv false),pb 0 77 [(.av (.pointer none)),sn]] (oc1 [0] 33 bl0_pc oz)<|zk (b:=false) rfl rfl<|qF<|qA<|T_r1 qC 3 [ps 2 se,ps 3 (iv 0)] (oc1 [0] 73 (string0_pc (.av (.pointer none))) oz) ?_
   have hl0:l=[]:=List.length_eq_zero_iff.1 (by omega)
   have hT:yx l=([],0):=by rw [hl0];rfl
   rw [hT]
   exact yA hc0 [2,3] []
  refine qR (bf h2)<|qA<|qk qC [] [ps 2 se,ps 3 (iv (qw l))] (oz) ?_
  have hT:yx l=([],qw l):=if_neg (by omega)
  rw [hT]
  exact yA hc0 [2,3] []
 refine ZF qC 1 [ps 0 (.ssl (yJ l) 0 l.length),ps 4 (iv (qw l))] (yD 24 (wX l hfv) oz)<|qA<|qk qC [] [ps 0 (.ssl (yJ l) 0 l.length),ps 4 (iv (qw l)),ps 13 (bv (!(decide ((qw l)=0))))] (oz) ?_
 by_cases h4:(qw l)=0
 ·refine qU (bt h4)<|qF<|qA<|qk qC [] [ps 0 (.ssl (yJ l) 0 l.length),ps 5 (.opt 64 0),pb 64 77 [(.av (.pointer none)),sn]] (oz)<|qA<|qA<|qk qC [] [ps 5 (.opt 64 0),ps 17 (.ssl (yJ l) 0 l.length),ps 18 (nv l.length),ps 19 (iv 0),pb 64 77 [(.av (.pointer none)),sn]] (oz)<|qV ?_
  have hb:=pc_bound (show qw l=0 from by omega)
  obtain ⟨hp1,hp2⟩:=qfe (show qw l=0 from by omega)
  refine qY (Wk.opnc (B:=77) (cells:=[(.av (.pointer none)),sn]) 64 0 64 0 (by kernel_rfl) rfl)<|qY (Wk.less (l':=[ps 5 (.opt 64 0),ps 17 (.ssl (yJ l) 0 l.length),ps 18 (nv l.length),ps 19 (iv 0),pb 64 77 [(.opn 64 0),sn]]) 104 (by kernel_rfl) (by kernel_rfl))<|qY (Wk.nilc (B:=77) (cells:=[(.opn 64 0),sn]) 64 1 5 (by kernel_rfl) rfl)<|qY (Wk.less (l':=[ps 5 (.opt 64 0),ps 17 (.ssl (yJ l) 0 l.length),ps 18 (nv l.length),ps 19 (iv 0),pb 64 77 [(.opn 64 0),(.osl 104 0 0)],pb 104 5 []]) 105 (by kernel_rfl) (by kernel_rfl))<|qY (Wk.eq (show _=[ps 5 (.opt 64 0),ps 17 (.ssl (yJ l) 0 l.length),ps 18 (nv l.length),ps 19 (iv 0),pb 64 77 [(.opn 64 0),(.osl 104 0 ((zw (l.take 0):qQ).length))],pb 104 5 (qT (zw (l.take 0)))] from by rw [List.take_zero];rfl)) ?_
  refine yC (α:={x:Nat // x≤l.length}) (fun x=>[ps 5 (.opt 0 0),ps 17 (.ssl (yJ l) 0 l.length),ps 18 (nv l.length),ps 19 (nv x.1),pb 0 77 [(.opn 0 0),(.osl 1 0 ((zw (l.take x.1):qQ).length))],pb 1 5 (qT (zw (l.take x.1)))]) (fun x=>l.length-x.1) 2 ⟨0,Nat.zero_le _⟩ (Wk.ren3 _ 0 hc0 [64,104] [(kb 1,(qT (zw (l.take 0))))] (oc (qJ _) (oz)) (by kernel_rfl) rfl rfl (by kernel_rfl) (by kernel_rfl)) ?_
  rintro ⟨i,hi⟩
  refine qA<|qk qC [] [ps 5 (.opt 0 0),ps 17 (.ssl (yJ l) 0 l.length),ps 18 (nv l.length),ps 19 (nv i),ps 20 (bv (decide (((i:Nat):Int)<(l.length:Int)))),pb 0 77 [(.opn 0 0),(.osl 1 0 ((zw (l.take i):qQ).length))],pb 1 5 (qT (zw (l.take i)))] (oz)<|qA ?_
  by_cases h5:(i:Int)<(l.length:Int)
  ·refine qR (zP h5)<|qF<|qA<|qV<|qA ?_
   have hvo:=hp2 _ (qbx (d:=qD) (show i<l.length from by omega))
   obtain ⟨hv1,hv2,hv3⟩:=qeg hvo
   have hvf:=hfv.2 i (by omega)
   have hnl:=(of_decide_eq_true hv1).2.1
   have hrm:=vo_room (show i<l.length from by omega)
   have hvl:=congrArg List.length (qeh (l.getD i qD))
   simp only [List.length_append,List.length_cons,List.length_nil] at hvl
   refine qk qC [(0,.nat (i*2)),(1,.cells [(sv (st ((l.getD i qD).1))),(.ssl (vF ((l.getD i qD).2)) 0 (((l.getD i qD).2).length))])] [ps 5 (.opt 0 0),ps 7 (.opt 26 0),ps 17 (.ssl (yJ l) 0 l.length),ps 18 (nv l.length),ps 19 (nv i),pb 0 77 [(.opn 0 0),(.osl 1 0 ((zw (l.take i):qQ).length))],pb 1 5 (qT (zw (l.take i))),pb 26 44 [(sv (st ((l.getD i qD).1))),(.ssl (vF ((l.getD i qD).2)) 0 (((l.getD i qD).2).length))]] (oc (by omega:(0:Int)≤(i:Int)∧(i:Int)<(l.length:Int)) (oc (by omega:0+(((i:Nat):Int):Int).toNat*2=(i*2)) (oc (yG voC 2 (fun _=>rfl) qD l i 0 2 (by omega) (by decide):(i*2)+2≤((yJ l)).length∧(((yJ l)).drop (i*2)).take 2=[(sv (st ((l.getD i qD).1))),(.ssl (vF ((l.getD i qD).2)) 0 (((l.getD i qD).2).length))]) oz))) ?_
   refine qA<|wR qC [(5,.val (.av (.string (st (([118,111,105,99,101,32]:TX)++((l.getD i qD).1)))))),(6,.val (.av (.string (st ((([118,111,105,99,101,32]:TX)++((l.getD i qD).1))++([10]:TX)))))),(7,.call [0,1] [(.opt 0 0),(sv (st ((([118,111,105,99,101,32]:TX)++((l.getD i qD).1))++([10]:TX))))] [some (77,[(.opn 0 0),(.osl 1 0 ((zw (l.take i):qQ).length))]),some (5,(qT (zw (l.take i))))] (.tup [(nv ((((([118,111,105,99,101,32]:TX)++((l.getD i qD).1))++([10]:TX))).length)),(.av .nilIface)]) [some (77,[(.opn 0 0),(.osl 2 0 (((zw (l.take i))++((([118,111,105,99,101,32]:TX)++((l.getD i qD).1))++([10]:TX)):qQ).length))]),none,some (5,(qT ((zw (l.take i))++((([118,111,105,99,101,32]:TX)++((l.getD i qD).1))++([10]:TX)))))])] [[],[0],[0,1],[],[3],[3,4],[3,4,5],[0,1,2,3,4,5,6]] [([46],[10]),([48],[46]),([50],[48]),([52],[14]),([54],[52,53]),([56],[54]),([58],[56]),([60,1,3,197],[1,3,50,58])] [ps 5 (.opt 0 0),ps 7 (.opt 26 0),ps 17 (.ssl (yJ l) 0 l.length),ps 18 (nv l.length),ps 19 (nv i),pb 0 77 [(.opn 0 0),(.osl 98 0 (((zw (l.take i))++((([118,111,105,99,101,32]:TX)++((l.getD i qD).1))++([10]:TX)):qQ).length))],pb 26 44 [(sv (st ((l.getD i qD).1))),(.ssl (vF ((l.getD i qD).2)) 0 (((l.getD i qD).2).length))],pb 98 5 (qN (yI [0,1] 98) (qT ((zw (l.take i))++((([118,111,105,99,101,32]:TX)++((l.getD i qD).1))++([10]:TX)))))] (oc (by first|omega|(simp only [List.length_append,List.length_cons,List.length_nil];omega):((([118,111,105,99,101,32]:TX).length+((l.getD i qD).1).length:Nat):Int)≤9223372036854775807) (oc (qK _ _:st ([118,111,105,99,101,32]:TX)++st ((l.getD i qD).1)=st (([118,111,105,99,101,32]:TX)++((l.getD i qD).1))) (oc (by first|omega|(simp only [List.length_append,List.length_cons,List.length_nil];omega):(((([118,111,105,99,101,32]:TX)++((l.getD i qD).1)).length+([10]:TX).length:Nat):Int)≤9223372036854775807) (oc (qK _ _:st (([118,111,105,99,101,32]:TX)++((l.getD i qD).1))++st ([10]:TX)=st ((([118,111,105,99,101,32]:TX)++((l.getD i qD).1))++([10]:TX))) (oc (ww (zw (l.take i)) ((([118,111,105,99,101,32]:TX)++((l.getD i qD).1))++([10]:TX)) (by (first|omega|(simp only [List.length_append,List.length_cons,List.length_nil];omega)))) (oc (rfl:[(.opt 0 0),(sv (st ((([118,111,105,99,101,32]:TX)++((l.getD i qD).1))++([10]:TX))))]=qN (qZ [0,1] 98) [(.opt 0 0),(sv (st ((([118,111,105,99,101,32]:TX)++((l.getD i qD).1))++([10]:TX))))]) (oc (rfl:[(.opn 0 0),(.osl 1 0 ((zw (l.take i):qQ).length))]=qN (qZ [0,1] 98) [(.opn 0 0),(.osl 1 0 ((zw (l.take i):qQ).length))]) (oc ((qH (qJ _)).symm:(qT (zw (l.take i)))=qN (qZ [0,1] 98) (qT (zw (l.take i)))) oz))))))))<|qY (Wk.eq (show _=[ps 5 (.opt 0 0),ps 7 (.opt 26 0),ps 17 (.ssl (yJ l) 0 l.length),ps 18 (nv l.length),ps 19 (nv i),pb 0 77 [(.opn 0 0),(.osl 98 0 (((zw (l.take i))++((([118,111,105,99,101,32]:TX)++((l.getD i qD).1))++([10]:TX)):qQ).length))],pb 26 44 [(sv (st ((l.getD i qD).1))),(.ssl (vF ((l.getD i qD).2)) 0 (((l.getD i qD).2).length))],pb 98 5 (qT ((zw (l.take i))++((([118,111,105,99,101,32]:TX)++((l.getD i qD).1))++([10]:TX))))] from by simp only [qH (qJ _)])) ?_
   refine qA<|qk qC [] [ps 5 (.opt 0 0),ps 17 (.ssl (yJ l) 0 l.length),ps 18 (nv l.length),ps 19 (nv i),ps 32 (.ssl (vF ((l.getD i qD).2)) 0 (((l.getD i qD).2).length)),ps 33 (nv (((l.getD i qD).2).length)),ps 34 (iv 0),pb 0 77 [(.opn 0 0),(.osl 98 0 (((zw (l.take i))++((([118,111,105,99,101,32]:TX)++((l.getD i qD).1))++([10]:TX)):qQ).length))],pb 98 5 (qT ((zw (l.take i))++((([118,111,105,99,101,32]:TX)++((l.getD i qD).1))++([10]:TX))))] (oz)<|qV<|qY (Wk.eq (show _=[ps 5 (.opt 0 0),ps 17 (.ssl (yJ l) 0 l.length),ps 18 (nv l.length),ps 19 (nv i),ps 32 (.ssl (vF ((l.getD i qD).2)) 0 (((l.getD i qD).2).length)),ps 33 (nv (((l.getD i qD).2).length)),ps 34 (iv 0),pb 0 77 [(.opn 0 0),(.osl 98 0 ((((zw (l.take i))++((([118,111,105,99,101,32]:TX)++((l.getD i qD).1))++([10]:TX)))++zX ((l.getD i qD).2.take 0):qQ).length))],pb 98 5 (qT (((zw (l.take i))++((([118,111,105,99,101,32]:TX)++((l.getD i qD).1))++([10]:TX)))++zX ((l.getD i qD).2.take 0)))] from by rw [List.take_zero];rw [show zX []=[] from rfl,List.append_nil])) ?_
   refine yC (α:={x:Nat // x≤(l.getD i qD).2.length}) (fun x=>[ps 5 (.opt 0 0),ps 17 (.ssl (yJ l) 0 l.length),ps 18 (nv l.length),ps 19 (nv i),ps 32 (.ssl (vF ((l.getD i qD).2)) 0 (((l.getD i qD).2).length)),ps 33 (nv (((l.getD i qD).2).length)),ps 34 (nv x.1),pb 0 77 [(.opn 0 0),(.osl 1 0 ((zw (l.take i)++([118,111,105,99,101,32]++(l.getD i qD).1++[10])++zX ((l.getD i qD).2.take x.1):qQ).length))],pb 1 5 (qT (zw (l.take i)++([118,111,105,99,101,32]++(l.getD i qD).1++[10])++zX ((l.getD i qD).2.take x.1)))]) (fun x=>(l.getD i qD).2.length-x.1) 2 ⟨0,Nat.zero_le _⟩ (Wk.ren3 _ 0 hc0 [0,98] [(kb 1,(qT (zw (l.take i)++([118,111,105,99,101,32]++(l.getD i qD).1++[10])++zX ((l.getD i qD).2.take 0))))] (oc (qJ _) (oz)) (by kernel_rfl) rfl rfl (by kernel_rfl) (by kernel_rfl)) ?_
   rintro ⟨k,hk⟩
   refine qA<|qk qC [] [ps 5 (.opt 0 0),ps 17 (.ssl (yJ l) 0 l.length),ps 18 (nv l.length),ps 19 (nv i),ps 32 (.ssl (vF ((l.getD i qD).2)) 0 (((l.getD i qD).2).length)),ps 33 (nv (((l.getD i qD).2).length)),ps 34 (nv k),ps 35 (bv (decide (((k:Nat):Int)<((((l.getD i qD).2).length:Nat):Int)))),pb 0 77 [(.opn 0 0),(.osl 1 0 ((zw (l.take i)++([118,111,105,99,101,32]++(l.getD i qD).1++[10])++zX ((l.getD i qD).2.take k):qQ).length))],pb 1 5 (qT (zw (l.take i)++([118,111,105,99,101,32]++(l.getD i qD).1++[10])++zX ((l.getD i qD).2.take k)))] (oz)<|qA ?_
   by_cases h6:(k:Int)<((((l.getD i qD).2).length:Nat):Int)
   ·refine qR (zP h6)<|qF<|qA<|qV<|qA ?_
    have hbo:=qkp (hv3 _ (qbx (d:=zB) (show k<(l.getD i qD).2.length from by omega)))
    have hbf:=hvf.2.2 k (by omega)
    have hbr:=br_room (show k<(l.getD i qD).2.length from by omega)
    have hbl:=congrArg List.length (qgg ((l.getD i qD).2.getD k zB))
    simp only [List.length_append,List.length_cons,List.length_nil] at hbl
    have hi1:=Lib.itoa_length_le ((l.getD i qD).2.getD k zB).1 (by omega) (by omega)
    have hi2:=Lib.itoa_length_le ((l.getD i qD).2.getD k zB).2.1 (by omega) (by omega)
    refine qk qC [(0,.nat (k*3)),(1,.cells [(iv ((((l.getD i qD).2).getD k zB).1)),(iv ((((l.getD i qD).2).getD k zB).2.1)),(.ssl (qO ((((l.getD i qD).2).getD k zB).2.2)) 0 (((((l.getD i qD).2).getD k zB).2.2).length))])] [ps 5 (.opt 0 0),ps 9 (.opt 26 0),ps 17 (.ssl (yJ l) 0 l.length),ps 18 (nv l.length),ps 19 (nv i),ps 32 (.ssl (vF ((l.getD i qD).2)) 0 (((l.getD i qD).2).length)),ps 33 (nv (((l.getD i qD).2).length)),ps 34 (nv k),pb 0 77 [(.opn 0 0),(.osl 1 0 ((zw (l.take i)++([118,111,105,99,101,32]++(l.getD i qD).1++[10])++zX ((l.getD i qD).2.take k):qQ).length))],pb 1 5 (qT (zw (l.take i)++([118,111,105,99,101,32]++(l.getD i qD).1++[10])++zX ((l.getD i qD).2.take k))),pb 26 47 [(iv ((((l.getD i qD).2).getD k zB).1)),(iv ((((l.getD i qD).2).getD k zB).2.1)),(.ssl (qO ((((l.getD i qD).2).getD k zB).2.2)) 0 (((((l.getD i qD).2).getD k zB).2.2).length))]] (oc (by omega:(0:Int)≤(k:Int)∧(k:Int)<((((l.getD i qD).2).length:Nat):Int)) (oc (by omega:0+(((k:Nat):Int):Int).toNat*3=(k*3)) (oc (yG brC 3 (fun _=>rfl) zB ((l.getD i qD).2) k 0 3 (by omega) (by decide):(k*3)+3≤((vF ((l.getD i qD).2))).length∧(((vF ((l.getD i qD).2))).drop (k*3)).take 3=[(iv ((((l.getD i qD).2).getD k zB).1)),(iv ((((l.getD i qD).2).getD k zB).2.1)),(.ssl (qO ((((l.getD i qD).2).getD k zB).2.2)) 0 (((((l.getD i qD).2).getD k zB).2.2).length))]) oz))) ?_
    refine qA<|wR qC [(5,.call [] [(iv ((((l.getD i qD).2).getD k zB).1))] [] (sv (st (Lib.itoa ((((l.getD i qD).2).getD k zB).1)))) []),(6,.val (.av (.string (st (([124,32]:TX)++(Lib.itoa ((((l.getD i qD).2).getD k zB).1))))))),(7,.val (.av (.string (st ((([124,32]:TX)++(Lib.itoa ((((l.getD i qD).2).getD k zB).1)))++([47]:TX)))))),(10,.call [] [(iv ((((l.getD i qD).2).getD k zB).2.1))] [] (sv (st (Lib.itoa ((((l.getD i qD).2).getD k zB).2.1)))) []),(11,.val (.av (.string (st (((([124,32]:TX)++(Lib.itoa ((((l.getD i qD).2).getD k zB).1)))++([47]:TX))++(Lib.itoa ((((l.getD i qD).2).getD k zB).2.1))))))),(12,.val (.av (.string (st ((((([124,32]:TX)++(Lib.itoa ((((l.getD i qD).2).getD k zB).1)))++([47]:TX))++(Lib.itoa ((((l.getD i qD).2).getD k zB).2.1)))++([32]:TX)))))),(13,.call [0,1] [(.opt 0 0),(sv (st ((((([124,32]:TX)++(Lib.itoa ((((l.getD i qD).2).getD k zB).1)))++([47]:TX))++(Lib.itoa ((((l.getD i qD).2).getD k zB).2.1)))++([32]:TX))))] [some (77,[(.opn 0 0),(.osl 1 0 ((zw (l.take i)++([118,111,105,99,101,32]++(l.getD i qD).1++[10])++zX ((l.getD i qD).2.take k):qQ).length))]),some (5,(qT (zw (l.take i)++([118,111,105,99,101,32]++(l.getD i qD).1++[10])++zX ((l.getD i qD).2.take k))))] (.tup [(nv ((((((([124,32]:TX)++(Lib.itoa ((((l.getD i qD).2).getD k zB).1)))++([47]:TX))++(Lib.itoa ((((l.getD i qD).2).getD k zB).2.1)))++([32]:TX))).length)),(.av .nilIface)]) [some (77,[(.opn 0 0),(.osl 2 0 (((zw (l.take i)++([118,111,105,99,101,32]++(l.getD i qD).1++[10])++zX ((l.getD i qD).2.take k))++((((([124,32]:TX)++(Lib.itoa ((((l.getD i qD).2).getD k zB).1)))++([47]:TX))++(Lib.itoa ((((l.getD i qD).2).getD k zB).2.1)))++([32]:TX)):qQ).length))]),none,some (5,(qT ((zw (l.take i)++([118,111,105,99,101,32]++(l.getD i qD).1++[10])++zX ((l.getD i qD).2.take k))++((((([124,32]:TX)++(Lib.itoa ((((l.getD i qD).2).getD k zB).1)))++([47]:TX))++(Lib.itoa ((((l.getD i qD).2).getD k zB).2.1)))++([32]:TX)))))])] (bfm [[],[(0,1)],[(0,2)],[],[(3,1)],[(3,2)],[(3,3)],[(3,4)],[],[(8,1)],[(3,3),(8,2)],[(3,8)],[(3,9)],[(0,13)]]) [([76],[10]),([78],[76]),([80],[78]),([82],[18]),([84],[53,82]),([86],[84]),([88],[86]),([90],[88]),([92],[18]),([94],[53,92]),([96],[94]),([98],[90,96]),([100],[98]),([102,1,3,293],[1,3,80,100])] [ps 5 (.opt 0 0),ps 9 (.opt 26 0),ps 17 (.ssl (yJ l) 0 l.length),ps 18 (nv l.length),ps 19 (nv i),ps 32 (.ssl (vF ((l.getD i qD).2)) 0 (((l.getD i qD).2).length)),ps 33 (nv (((l.getD i qD).2).length)),ps 34 (nv k),pb 0 77 [(.opn 0 0),(.osl 146 0 (((zw (l.take i)++([118,111,105,99,101,32]++(l.getD i qD).1++[10])++zX ((l.getD i qD).2.take k))++((((([124,32]:TX)++(Lib.itoa ((((l.getD i qD).2).getD k zB).1)))++([47]:TX))++(Lib.itoa ((((l.getD i qD).2).getD k zB).2.1)))++([32]:TX)):qQ).length))],pb 26 47 [(iv ((((l.getD i qD).2).getD k zB).1)),(iv ((((l.getD i qD).2).getD k zB).2.1)),(.ssl (qO ((((l.getD i qD).2).getD k zB).2.2)) 0 (((((l.getD i qD).2).getD k zB).2.2).length))],pb 146 5 (qN (yI [0,1] 146) (qT ((zw (l.take i)++([118,111,105,99,101,32]++(l.getD i qD).1++[10])++zX ((l.getD i qD).2.take k))++((((([124,32]:TX)++(Lib.itoa ((((l.getD i qD).2).getD k zB).1)))++([47]:TX))++(Lib.itoa ((((l.getD i qD).2).getD k zB).2.1)))++([32]:TX)))))] (yD 82 (zy ((((l.getD i qD).2).getD k zB).1) (by omega) (by omega)) (oc (by first|omega|(simp only [List.length_append,List.length_cons,List.length_nil];omega):((([124,32]:TX).length+(Lib.itoa ((((l.getD i qD).2).getD k zB).1)).length:Nat):Int)≤9223372036854775807) (oc (qK _ _:st ([124,32]:TX)++st (Lib.itoa ((((l.getD i qD).2).getD k zB).1))=st (([124,32]:TX)++(Lib.itoa ((((l.getD i qD).2).getD k zB).1)))) (oc (by first|omega|(simp only [List.length_append,List.length_cons,List.length_nil];omega):(((([124,32]:TX)++(Lib.itoa ((((l.getD i qD).2).getD k zB).1))).length+([47]:TX).length:Nat):Int)≤9223372036854775807) (oc (qK _ _:st (([124,32]:TX)++(Lib.itoa ((((l.getD i qD).2).getD k zB).1)))++st ([47]:TX)=st ((([124,32]:TX)++(Lib.itoa ((((l.getD i qD).2).getD k zB).1)))++([47]:TX))) (yD 122 (zy ((((l.getD i qD).2).getD k zB).2.1) (by omega) (by omega)) (oc (by first|omega|(simp only [List.length_append,List.length_cons,List.length_nil];omega):((((([124,32]:TX)++(Lib.itoa ((((l.getD i qD).2).getD k zB).1)))++([47]:TX)).length+(Lib.itoa ((((l.getD i qD).2).getD k zB).2.1)).length:Nat):Int)≤9223372036854775807) (oc (qK _ _:st ((([124,32]:TX)++(Lib.itoa ((((l.getD i qD).2).getD k zB).1)))++([47]:TX))++st (Lib.itoa ((((l.getD i qD).2).getD k zB).2.1))=st (((([124,32]:TX)++(Lib.itoa ((((l.getD i qD).2).getD k zB).1)))++([47]:TX))++(Lib.itoa ((((l.getD i qD).2).getD k zB).2.1)))) (oc (by first|omega|(simp only [List.length_append,List.length_cons,List.length_nil];omega):(((((([124,32]:TX)++(Lib.itoa ((((l.getD i qD).2).getD k zB).1)))++([47]:TX))++(Lib.itoa ((((l.getD i qD).2).getD k zB).2.1))).length+([32]:TX).length:Nat):Int)≤9223372036854775807) (oc (qK _ _:st (((([124,32]:TX)++(Lib.itoa ((((l.getD i qD).2).getD k zB).1)))++([47]:TX))++(Lib.itoa ((((l.getD i qD).2).getD k zB).2.1)))++st ([32]:TX)=st ((((([124,32]:TX)++(Lib.itoa ((((l.getD i qD).2).getD k zB).1)))++([47]:TX))++(Lib.itoa ((((l.getD i qD).2).getD k zB).2.1)))++([32]:TX))) (oc (ww (zw (l.take i)++([118,111,105,99,101,32]++(l.getD i qD).1++[10])++zX ((l.getD i qD).2.take k)) ((((([124,32]:TX)++(Lib.itoa ((((l.getD i qD).2).getD k zB).1)))++([47]:TX))++(Lib.itoa ((((l.getD i qD).2).getD k zB).2.1)))++([32]:TX)) (by (first|omega|(simp only [List.length_append,List.length_cons,List.length_nil];omega)))) (oc (rfl:[(.opt 0 0),(sv (st ((((([124,32]:TX)++(Lib.itoa ((((l.getD i qD).2).getD k zB).1)))++([47]:TX))++(Lib.itoa ((((l.getD i qD).2).getD k zB).2.1)))++([32]:TX))))]=qN (qZ [0,1] 146) [(.opt 0 0),(sv (st ((((([124,32]:TX)++(Lib.itoa ((((l.getD i qD).2).getD k zB).1)))++([47]:TX))++(Lib.itoa ((((l.getD i qD).2).getD k zB).2.1)))++([32]:TX))))]) (oc (rfl:[(.opn 0 0),(.osl 1 0 ((zw (l.take i)++([118,111,105,99,101,32]++(l.getD i qD).1++[10])++zX ((l.getD i qD).2.take k):qQ).length))]=qN (qZ [0,1] 146) [(.opn 0 0),(.osl 1 0 ((zw (l.take i)++([118,111,105,99,101,32]++(l.getD i qD).1++[10])++zX ((l.getD i qD).2.take k):qQ).length))]) (oc ((qH (qJ _)).symm:(qT (zw (l.take i)++([118,111,105,99,101,32]++(l.getD i qD).1++[10])++zX ((l.getD i qD).2.take k)))=qN (qZ [0,1] 146) (qT (zw (l.take i)++([118,111,105,99,101,32]++(l.getD i qD).1++[10])++zX ((l.getD i qD).2.take k)))) oz))))))))))))))<|qY (Wk.eq (show _=[ps 5 (.opt 0 0),ps 9 (.opt 26 0),ps 17 (.ssl (yJ l) 0 l.length),ps 18 (nv l.length),ps 19 (nv i),ps 32 (.ssl (vF ((l.getD i qD).2)) 0 (((l.getD i qD).2).length)),ps 33 (nv (((l.getD i qD).2).length)),ps 34 (nv k),pb 0 77 [(.opn 0 0),(.osl 146 0 (((zw (l.take i)++([118,111,105,99,101,32]++(l.getD i qD).1++[10])++zX ((l.getD i qD).2.take k))++((((([124,32]:TX)++(Lib.itoa ((((l.getD i qD).2).getD k zB).1)))++([47]:TX))++(Lib.itoa ((((l.getD i qD).2).getD k zB).2.1)))++([32]:TX)):qQ).length))],pb 26 47 [(iv ((((l.getD i qD).2).getD k zB).1)),(iv ((((l.getD i qD).2).getD k zB).2.1)),(.ssl (qO ((((l.getD i qD).2).getD k zB).2.2)) 0 (((((l.getD i qD).2).getD k zB).2.2).length))],pb 146 5 (qT ((zw (l.take i)++([118,111,105,99,101,32]++(l.getD i qD).1++[10])++zX ((l.getD i qD).2.take k))++((((([124,32]:TX)++(Lib.itoa ((((l.getD i qD).2).getD k zB).1)))++([47]:TX))++(Lib.itoa ((((l.getD i qD).2).getD k zB).2.1)))++([32]:TX))))] from by simp only [qH (qJ _)])) ?_
    refine qA<|qk qC [(3,.call [0,146] [(.opt 0 0),(.ssl (qO ((((l.getD i qD).2).getD k zB).2.2)) 0 (((((l.getD i qD).2).getD k zB).2.2).length))] [some (77,[(.opn 0 0),(.osl 1 0 (((zw (l.take i)++([118,111,105,99,101,32]++(l.getD i qD).1++[10])++zX ((l.getD i qD).2.take k))++((((([124,32]:TX)++(Lib.itoa ((((l.getD i qD).2).getD k zB).1)))++([47]:TX))++(Lib.itoa ((((l.getD i qD).2).getD k zB).2.1)))++([32]:TX)):qQ).length))]),some (5,(qT ((zw (l.take i)++([118,111,105,99,101,32]++(l.getD i qD).1++[10])++zX ((l.getD i qD).2.take k))++((((([124,32]:TX)++(Lib.itoa ((((l.getD i qD).2).getD k zB).1)))++([47]:TX))++(Lib.itoa ((((l.getD i qD).2).getD k zB).2.1)))++([32]:TX)))))] (.tup []) [some (77,[(.opn 0 0),(.osl 2 0 ((((zw (l.take i)++([118,111,105,99,101,32]++(l.getD i qD).1++[10])++zX ((l.getD i qD).2.take k))++((((([124,32]:TX)++(Lib.itoa ((((l.getD i qD).2).getD k zB).1)))++([47]:TX))++(Lib.itoa ((((l.getD i qD).2).getD k zB).2.1)))++([32]:TX)))++qq ((((l.getD i qD).2).getD k zB).2.2):qQ).length))]),none,some (5,(qT (((zw (l.take i)++([118,111,105,99,101,32]++(l.getD i qD).1++[10])++zX ((l.getD i qD).2.take k))++((((([124,32]:TX)++(Lib.itoa ((((l.getD i qD).2).getD k zB).1)))++([47]:TX))++(Lib.itoa ((((l.getD i qD).2).getD k zB).2.1)))++([32]:TX)))++qq ((((l.getD i qD).2).getD k zB).2.2))))])] [ps 5 (.opt 0 0),ps 17 (.ssl (yJ l) 0 l.length),ps 18 (nv l.length),ps 19 (nv i),ps 32 (.ssl (vF ((l.getD i qD).2)) 0 (((l.getD i qD).2).length)),ps 33 (nv (((l.getD i qD).2).length)),ps 34 (nv k),pb 0 77 [(.opn 0 0),(.osl 178 0 ((((zw (l.take i)++([118,111,105,99,101,32]++(l.getD i qD).1++[10])++zX ((l.getD i qD).2.take k))++((((([124,32]:TX)++(Lib.itoa ((((l.getD i qD).2).getD k zB).1)))++([47]:TX))++(Lib.itoa ((((l.getD i qD).2).getD k zB).2.1)))++([32]:TX)))++qq ((((l.getD i qD).2).getD k zB).2.2):qQ).length))],pb 178 5 (qN (yI [0,146] 178) (qT (((zw (l.take i)++([118,111,105,99,101,32]++(l.getD i qD).1++[10])++zX ((l.getD i qD).2.take k))++((((([124,32]:TX)++(Lib.itoa ((((l.getD i qD).2).getD k zB).1)))++([47]:TX))++(Lib.itoa ((((l.getD i qD).2).getD k zB).2.1)))++([32]:TX)))++qq ((((l.getD i qD).2).getD k zB).2.2))))] (oc (pitems_pc ((((l.getD i qD).2).getD k zB).2.2) ((zw (l.take i)++([118,111,105,99,101,32]++(l.getD i qD).1++[10])++zX ((l.getD i qD).2.take k))++((((([124,32]:TX)++(Lib.itoa ((((l.getD i qD).2).getD k zB).1)))++([47]:TX))++(Lib.itoa ((((l.getD i qD).2).getD k zB).2.1)))++([32]:TX))) (by (first|omega|(simp only [List.length_append,List.length_cons,List.length_nil];omega))) hbf.2.2.2 hbf.2.2.1 (qjl hbo.2.2.1)) (oc (rfl:[(.opt 0 0),(.ssl (qO ((((l.getD i qD).2).getD k zB).2.2)) 0 (((((l.getD i qD).2).getD k zB).2.2).length))]=qN (qZ [0,146] 178) [(.opt 0 0),(.ssl (qO ((((l.getD i qD).2).getD k zB).2.2)) 0 (((((l.getD i qD).2).getD k zB).2.2).length))]) (oc (rfl:[(.opn 0 0),(.osl 146 0 (((zw (l.take i)++([118,111,105,99,101,32]++(l.getD i qD).1++[10])++zX ((l.getD i qD).2.take k))++((((([124,32]:TX)++(Lib.itoa ((((l.getD i qD).2).getD k zB).1)))++([47]:TX))++(Lib.itoa ((((l.getD i qD).2).getD k zB).2.1)))++([32]:TX)):qQ).length))]=qN (qZ [0,146] 178) [(.opn 0 0),(.osl 1 0 (((zw (l.take i)++([118,111,105,99,101,32]++(l.getD i qD).1++[10])++zX ((l.getD i qD).2.take k))++((((([124,32]:TX)++(Lib.itoa ((((l.getD i qD).2).getD k zB).1)))++([47]:TX))++(Lib.itoa ((((l.getD i qD).2).getD k zB).2.1)))++([32]:TX)):qQ).length))]) (oc ((qH (qJ _)).symm:(qT ((zw (l.take i)++([118,111,105,99,101,32]++(l.getD i qD).1++[10])++zX ((l.getD i qD).2.take k))++((((([124,32]:TX)++(Lib.itoa ((((l.getD i qD).2).getD k zB).1)))++([47]:TX))++(Lib.itoa ((((l.getD i qD).2).getD k zB).2.1)))++([32]:TX))))=qN (qZ [0,146] 178) (qT ((zw (l.take i)++([118,111,105,99,101,32]++(l.getD i qD).1++[10])++zX ((l.getD i qD).2.take k))++((((([124,32]:TX)++(Lib.itoa ((((l.getD i qD).2).getD k zB).1)))++([47]:TX))++(Lib.itoa ((((l.getD i qD).2).getD k zB).2.1)))++([32]:TX))))) oz))))<|qY (Wk.eq (show _=[ps 5 (.opt 0 0),ps 17 (.ssl (yJ l) 0 l.length),ps 18 (nv l.length),ps 19 (nv i),ps 32 (.ssl (vF ((l.getD i qD).2)) 0 (((l.getD i qD).2).length)),ps 33 (nv (((l.getD i qD).2).length)),ps 34 (nv k),pb 0 77 [(.opn 0 0),(.osl 178 0 ((((zw (l.take i)++([118,111,105,99,101,32]++(l.getD i qD).1++[10])++zX ((l.getD i qD).2.take k))++((((([124,32]:TX)++(Lib.itoa ((((l.getD i qD).2).getD k zB).1)))++([47]:TX))++(Lib.itoa ((((l.getD i qD).2).getD k zB).2.1)))++([32]:TX)))++qq ((((l.getD i qD).2).getD k zB).2.2):qQ).length))],pb 178 5 (qT (((zw (l.take i)++([118,111,105,99,101,32]++(l.getD i qD).1++[10])++zX ((l.getD i qD).2.take k))++((((([124,32]:TX)++(Lib.itoa ((((l.getD i qD).2).getD k zB).1)))++([47]:TX))++(Lib.itoa ((((l.getD i qD).2).getD k zB).2.1)))++([32]:TX)))++qq ((((l.getD i qD).2).getD k zB).2.2)))] from by simp only [qH (qJ _)])) ?_
    refine qk qC [(3,.call [0,178] [(.opt 0 0),(.av (.int .u8 10))] [some (77,[(.opn 0 0),(.osl 1 0 ((((zw (l.take i)++([118,111,105,99,101,32]++(l.getD i qD).1++[10])++zX ((l.getD i qD).2.take k))++((((([124,32]:TX)++(Lib.itoa ((((l.getD i qD).2).getD k zB).1)))++([47]:TX))++(Lib.itoa ((((l.getD i qD).2).getD k zB).2.1)))++([32]:TX)))++qq ((((l.getD i qD).2).getD k zB).2.2):qQ).length))]),some (5,(qT (((zw (l.take i)++([118,111,105,99,101,32]++(l.getD i qD).1++[10])++zX ((l.getD i qD).2.take k))++((((([124,32]:TX)++(Lib.itoa ((((l.getD i qD).2).getD k zB).1)))++([47]:TX))++(Lib.itoa ((((l.getD i qD).2).getD k zB).2.1)))++([32]:TX)))++qq ((((l.getD i qD).2).getD k zB).2.2))))] (.av .nilIface) [some (77,[(.opn 0 0),(.osl 2 0 (((((zw (l.take i)++([118,111,105,99,101,32]++(l.getD i qD).1++[10])++zX ((l.getD i qD).2.take k))++((((([124,32]:TX)++(Lib.itoa ((((l.getD i qD).2).getD k zB).1)))++([47]:TX))++(Lib.itoa ((((l.getD i qD).2).getD k zB).2.1)))++([32]:TX)))++qq ((((l.getD i qD).2).getD k zB).2.2))++[10]:qQ).length))]),none,some (5,(qT ((((zw (l.take i)++([118,111,105,99,101,32]++(l.getD i qD).1++[10])++zX ((l.getD i qD).2.take k))++((((([124,32]:TX)++(Lib.itoa ((((l.getD i qD).2).getD k zB).1)))++([47]:TX))++(Lib.itoa ((((l.getD i qD).2).getD k zB).2.1)))++([32]:TX)))++qq ((((l.getD i qD).2).getD k zB).2.2))++[10])))])] [ps 5 (.opt 0 0),ps 17 (.ssl (yJ l) 0 l.length),ps 18 (nv l.length),ps 19 (nv i),ps 32 (.ssl (vF ((l.getD i qD).2)) 0 (((l.getD i qD).2).length)),ps 33 (nv (((l.getD i qD).2).length)),ps 34 (nv k),pb 0 77 [(.opn 0 0),(.osl 210 0 (((((zw (l.take i)++([118,111,105,99,101,32]++(l.getD i qD).1++[10])++zX ((l.getD i qD).2.take k))++((((([124,32]:TX)++(Lib.itoa ((((l.getD i qD).2).getD k zB).1)))++([47]:TX))++(Lib.itoa ((((l.getD i qD).2).getD k zB).2.1)))++([32]:TX)))++qq ((((l.getD i qD).2).getD k zB).2.2))++[10]:qQ).length))],pb 210 5 (qN (yI [0,178] 210) (qT ((((zw (l.take i)++([118,111,105,99,101,32]++(l.getD i qD).1++[10])++zX ((l.getD i qD).2.take k))++((((([124,32]:TX)++(Lib.itoa ((((l.getD i qD).2).getD k zB).1)))++([47]:TX))++(Lib.itoa ((((l.getD i qD).2).getD k zB).2.1)))++([32]:TX)))++qq ((((l.getD i qD).2).getD k zB).2.2))++[10])))] (oc (YW (((zw (l.take i)++([118,111,105,99,101,32]++(l.getD i qD).1++[10])++zX ((l.getD i qD).2.take k))++((((([124,32]:TX)++(Lib.itoa ((((l.getD i qD).2).getD k zB).1)))++([47]:TX))++(Lib.itoa ((((l.getD i qD).2).getD k zB).2.1)))++([32]:TX)))++qq ((((l.getD i qD).2).getD k zB).2.2)) 10 (by (first|omega|(simp only [List.length_append,List.length_cons,List.length_nil];omega)))) (oc (rfl:[(.opt 0 0),(.av (.int .u8 10))]=qN (qZ [0,178] 210) [(.opt 0 0),(.av (.int .u8 10))]) (oc (rfl:[(.opn 0 0),(.osl 178 0 ((((zw (l.take i)++([118,111,105,99,101,32]++(l.getD i qD).1++[10])++zX ((l.getD i qD).2.take k))++((((([124,32]:TX)++(Lib.itoa ((((l.getD i qD).2).getD k zB).1)))++([47]:TX))++(Lib.itoa ((((l.getD i qD).2).getD k zB).2.1)))++([32]:TX)))++qq ((((l.getD i qD).2).getD k zB).2.2):qQ).length))]=qN (qZ [0,178] 210) [(.opn 0 0),(.osl 1 0 ((((zw (l.take i)++([118,111,105,99,101,32]++(l.getD i qD).1++[10])++zX ((l.getD i qD).2.take k))++((((([124,32]:TX)++(Lib.itoa ((((l.getD i qD).2).getD k zB).1)))++([47]:TX))++(Lib.itoa ((((l.getD i qD).2).getD k zB).2.1)))++([32]:TX)))++qq ((((l.getD i qD).2).getD k zB).2.2):qQ).length))]) (oc ((qH (qJ _)).symm:(qT (((zw (l.take i)++([118,111,105,99,101,32]++(l.getD i qD).1++[10])++zX ((l.getD i qD).2.take k))++((((([124,32]:TX)++(Lib.itoa ((((l.getD i qD).2).getD k zB).1)))++([47]:TX))++(Lib.itoa ((((l.getD i qD).2).getD k zB).2.1)))++([32]:TX)))++qq ((((l.getD i qD).2).getD k zB).2.2)))=qN (qZ [0,178] 210) (qT (((zw (l.take i)++([118,111,105,99,101,32]++(l.getD i qD).1++[10])++zX ((l.getD i qD).2.take k))++((((([124,32]:TX)++(Lib.itoa ((((l.getD i qD).2).getD k zB).1)))++([47]:TX))++(Lib.itoa ((((l.getD i qD).2).getD k zB).2.1)))++([32]:TX)))++qq ((((l.getD i qD).2).getD k zB).2.2)))) oz))))<|zF<|qY (Wk.eq (show _=[ps 5 (.opt 0 0),ps 17 (.ssl (yJ l) 0 l.length),ps 18 (nv l.length),ps 19 (nv i),ps 32 (.ssl (vF ((l.getD i qD).2)) 0 (((l.getD i qD).2).length)),ps 33 (nv (((l.getD i qD).2).length)),ps 34 (nv k),pb 0 77 [(.opn 0 0),(.osl 210 0 (((((zw (l.take i)++([118,111,105,99,101,32]++(l.getD i qD).1++[10])++zX ((l.getD i qD).2.take k))++((((([124,32]:TX)++(Lib.itoa ((((l.getD i qD).2).getD k zB).1)))++([47]:TX))++(Lib.itoa ((((l.getD i qD).2).getD k zB).2.1)))++([32]:TX)))++qq ((((l.getD i qD).2).getD k zB).2.2))++[10]:qQ).length))],pb 210 5 (qT ((((zw (l.take i)++([118,111,105,99,101,32]++(l.getD i qD).1++[10])++zX ((l.getD i qD).2.take k))++((((([124,32]:TX)++(Lib.itoa ((((l.getD i qD).2).getD k zB).1)))++([47]:TX))++(Lib.itoa ((((l.getD i qD).2).getD k zB).2.1)))++([32]:TX)))++qq ((((l.getD i qD).2).getD k zB).2.2))++[10]))] from by simp only [qH (qJ _)])) ?_
    have hbn:zw (l.take i)++([118,111,105,99,101,32]++(l.getD i qD).1++[10])++zX ((l.getD i qD).2.take (k+1))=(((zw (l.take i)++([118,111,105,99,101,32]++(l.getD i qD).1++[10])++zX ((l.getD i qD).2.take k))++((((([124,32]:TX)++(Lib.itoa ((((l.getD i qD).2).getD k zB).1)))++([47]:TX))++(Lib.itoa ((((l.getD i qD).2).getD k zB).2.1)))++([32]:TX)))++qq ((((l.getD i qD).2).getD k zB).2.2))++[10]:=by rw [qkn (show k<(l.getD i qD).2.length from by omega),qgg];simp only [List.append_assoc]
    refine qk qC [] [ps 5 (.opt 0 0),ps 17 (.ssl (yJ l) 0 l.length),ps 18 (nv l.length),ps 19 (nv i),ps 32 (.ssl (vF ((l.getD i qD).2)) 0 (((l.getD i qD).2).length)),ps 33 (nv (((l.getD i qD).2).length)),ps 34 (iv (((k:Nat):Int)+1)),pb 0 77 [(.opn 0 0),(.osl 210 0 (((((zw (l.take i)++([118,111,105,99,101,32]++(l.getD i qD).1++[10])++zX ((l.getD i qD).2.take k))++((((([124,32]:TX)++(Lib.itoa ((((l.getD i qD).2).getD k zB).1)))++([47]:TX))++(Lib.itoa ((((l.getD i qD).2).getD k zB).2.1)))++([32]:TX)))++qq ((((l.getD i qD).2).getD k zB).2.2))++[10]:qQ).length))],pb 210 5 (qT ((((zw (l.take i)++([118,111,105,99,101,32]++(l.getD i qD).1++[10])++zX ((l.getD i qD).2.take k))++((((([124,32]:TX)++(Lib.itoa ((((l.getD i qD).2).getD k zB).1)))++([47]:TX))++(Lib.itoa ((((l.getD i qD).2).getD k zB).2.1)))++([32]:TX)))++qq ((((l.getD i qD).2).getD k zB).2.2))++[10]))] (oi (((k:Nat):Int)+1) (by omega) oz) ?_
    exact zR ⟨k+1,by show k+1≤(l.getD i qD).2.length;omega⟩ (Wk.trans (Wk.eq (show _=[ps 5 (.opt 0 0),ps 17 (.ssl (yJ l) 0 l.length),ps 18 (nv l.length),ps 19 (nv i),ps 32 (.ssl (vF ((l.getD i qD).2)) 0 (((l.getD i qD).2).length)),ps 33 (nv (((l.getD i qD).2).length)),ps 34 (nv (k+1)),pb 0 77 [(.opn 0 0),(.osl 210 0 ((zw (l.take i)++([118,111,105,99,101,32]++(l.getD i qD).1++[10])++zX ((l.getD i qD).2.take (k+1)):qQ).length))],pb 210 5 (qT (zw (l.take i)++([118,111,105,99,101,32]++(l.getD i qD).1++[10])++zX ((l.getD i qD).2.take (k+1))))] from by rw [hbn];rfl)) (Wk.ren3 _ 0 hc0 [0,210] [(kb 1,(qT (zw (l.take i)++([118,111,105,99,101,32]++(l.getD i qD).1++[10])++zX ((l.getD i qD).2.take (k+1)))))] (oc (qJ _) (oz)) (by kernel_rfl) rfl rfl (by kernel_rfl) (by kernel_rfl))) (show (l.getD i qD).2.length-(k+1)<(l.getD i qD).2.length-k from by show (l.getD i qD).2.length-(k+1)<(l.getD i qD).2.length-k;omega)
   refine qU (zN h6)<|zS rfl rfl<|zF<|qY (Wk.eq (show _=[ps 5 (.opt 0 0),ps 17 (.ssl (yJ l) 0 l.length),ps 18 (nv l.length),ps 19 (nv i),ps 32 (.ssl (vF ((l.getD i qD).2)) 0 (((l.getD i qD).2).length)),ps 33 (nv (((l.getD i qD).2).length)),ps 34 (nv k),ps 35 (bv (decide (((k:Nat):Int)<((((l.getD i qD).2).length:Nat):Int)))),pb 0 77 [(.opn 0 0),(.osl 1 0 ((zw (l.take i)++([118,111,105,99,101,32]++(l.getD i qD).1++[10])++zX (l.getD i qD).2:qQ).length))],pb 1 5 (qT (zw (l.take i)++([118,111,105,99,101,32]++(l.getD i qD).1++[10])++zX (l.getD i qD).2))] from by rw [List.take_of_length_le (show (l.getD i qD).2.length≤k from by omega)])) ?_
   have hvn:zw (l.take (i+1))=zw (l.take i)++([118,111,105,99,101,32]++(l.getD i qD).1++[10])++zX (l.getD i qD).2:=by rw [qin (show i<l.length from by omega),qeh];simp only [List.append_assoc]
   refine qk qC [] [ps 5 (.opt 0 0),ps 17 (.ssl (yJ l) 0 l.length),ps 18 (nv l.length),ps 19 (iv (((i:Nat):Int)+1)),pb 0 77 [(.opn 0 0),(.osl 1 0 ((zw (l.take i)++([118,111,105,99,101,32]++(l.getD i qD).1++[10])++zX (l.getD i qD).2:qQ).length))],pb 1 5 (qT (zw (l.take i)++([118,111,105,99,101,32]++(l.getD i qD).1++[10])++zX (l.getD i qD).2))] (oi (((i:Nat):Int)+1) (by omega) oz) ?_
   exact zR ⟨i+1,by show i+1≤l.length;omega⟩ (Wk.trans (Wk.eq (show _=[ps 5 (.opt 0 0),ps 17 (.ssl (yJ l) 0 l.length),ps 18 (nv l.length),ps 19 (nv (i+1)),pb 0 77 [(.opn 0 0),(.osl 1 0 ((zw (l.take (i+1)):qQ).length))],pb 1 5 (qT (zw (l.take (i+1))))] from by rw [hvn];rfl)) (Wk.ren3 _ 0 hc0 [0,1] [(kb 1,(qT (zw (l.take (i+1)))))] (oc (qJ _) (oz)) (by kernel_rfl) rfl rfl (by kernel_rfl) (by kernel_rfl))) (show l.length-(i+1)<l.length-i from by show l.length-(i+1)<l.length-i;omega)
  refine qU (zN h5)<|zS rfl rfl<|qA<|qA<|qY (Wk.eq (show _=[ps 5 (.opt 0 0),ps 17 (.ssl (yJ l) 0 l.length),ps 18 (nv l.length),ps 19 (nv i),ps 20 (bv (decide (((i:Nat):Int)<(l.length:Int)))),pb 0 77 [(.opn 0 0),(.osl 1 0 ((zw l:qQ).length))],pb 1 5 (qT (zw l))] from by rw [List.take_of_length_le (show l.length≤i from by omega)])) ?_
  refine qk qC [(3,.call [0,1] [(.opt 0 0)] [some (77,[(.opn 0 0),(.osl 1 0 ((zw l:qQ).length))]),some (5,(qT (zw l)))] (nv ((zw l:qQ).length)) [some (77,[(.opn 0 0),(.osl 1 0 ((zw l:qQ).length))]),some (5,(qT (zw l)))])] [ps 5 (.opt 0 0),ps 66 (bv (decide (65536<(((zw l:qQ).length:Nat):Int)))),pb 0 77 [(.opn 0 0),(.osl 1 0 ((zw l:qQ).length))],pb 1 5 (qN (yI [0,1] 34) (qT (zw l)))] (oc (bl_pc (zw l)) (oc (rfl:[(.opt 0 0)]=qN (qZ [0,1] 34) [(.opt 0 0)]) (oc (rfl:[(.opn 0 0),(.osl 1 0 ((zw l:qQ).length))]=qN (qZ [0,1] 34) [(.opn 0 0),(.osl 1 0 ((zw l:qQ).length))]) (oc ((qH (qJ _)).symm:(qT (zw l))=qN (qZ [0,1] 34) (qT (zw l))) oz))))<|qY (Wk.eq (show _=[ps 5 (.opt 0 0),ps 66 (bv (decide (65536<(((zw l:qQ).length:Nat):Int)))),pb 0 77 [(.opn 0 0),(.osl 1 0 ((zw l:qQ).length))],pb 1 5 (qT (zw l))] from by simp only [qH (qJ _)])) ?_
  by_cases h7:65536<(((zw l:qQ).length:Nat):Int)
  ·refine qR (zP h7)<|qA<|qk qC [] [ps 2 se,ps 3 (iv 4)] (oz) ?_
   have hT:yx l=([],4):=by unfold yx;rw [if_pos (by omega),if_pos (show 65536<(zw l).length from by omega)]
   rw [hT]
   exact yA hc0 [2,3] []
  refine qU (zN h7)<|qF<|qA<|qk qC [(3,.call [0,1] [(.opt 0 0)] [some (77,[(.opn 0 0),(.osl 1 0 ((zw l:qQ).length))]),some (5,(qT (zw l)))] (sv (st (zw l))) [none,none])] [ps 2 (sv (st (zw l))),ps 3 (iv 0)] (oc (string_pc (.opn 0 0) (zw l) (pc_full (fun e=>h1 (by rw [e];rfl))) (by omega)) (oc (rfl:[(.opt 0 0)]=qN (qZ [0,1] 74) [(.opt 0 0)]) (oc (rfl:[(.opn 0 0),(.osl 1 0 ((zw l:qQ).length))]=qN (qZ [0,1] 74) [(.opn 0 0),(.osl 1 0 ((zw l:qQ).length))]) (oc ((qH (qJ _)).symm:(qT (zw l))=qN (qZ [0,1] 74) (qT (zw l))) oz)))) ?_
  have hT:yx l=(zw l,0):=by unfold yx;rw [if_pos (by omega),if_neg (show ¬ 65536<(zw l).length from by omega)]
  rw [hT]
  exact yA hc0 [2,3] []
 refine qR (bf h4)<|qA<|qk qC [] [ps 2 se,ps 3 (iv (qw l))] (oz) ?_
 have hT:yx l=([],qw l):=if_neg (by omega)
 rw [hT]
 exact yA hc0 [2,3] []
end Go.Proofs.YtmlnilkbolcknaaGreatDoor.Pm
namespace Go.Proofs.YtmlnilkbolcknaaGreatDoor.Pm
open Go Fr
theorem qie {v:Int}:∀ (l:List Br) (s:(Int × Int) × List Nt × Nat),(∀ y∈l,(wF y.2.2 1 4095).1=true∧y.2.2.length≠0)→ZR (s.2.1,s.2.2,0)→(vk v l s).1=0→(vk v l s).2.2.1.length≤s.2.1.length+l.length*65536
 | [],s,_,_,_=>by rw [vk];exact Nat.le_add_right _ _
 | y :: l,s,hy,hs,h=>by
  obtain ⟨⟨a,b⟩,N,z⟩:=s
  rw [vk] at h ⊢
  split at h
  ·rename_i c
   rw [if_pos c]
   have k:=qce (hy y (List.mem_cons_self ..)).1 (hy y (List.mem_cons_self ..)).2 hs c
   have ih:=qie l (vW v y ((a,b),N,z)).2 (fun q hq=>hy q (List.mem_cons_of_mem _ hq)) k.1 h
   have k2:=k.2.1
   rw [List.length_cons]
   dsimp only at k2 ⊢
   omega
  ·rename_i c
   exact absurd h c
theorem qfl:∀ (l:List Vo) (k:Int) (N:List Nt),(∀ x∈l,x.2.length≤1024∧∀ y∈x.2,(wF y.2.2 1 4095).1=true∧y.2.2.length≠0)→(wU l k N).1=0→(wU l k N).2.length≤N.length+l.length*70000000
 | [],k,N,_,_=>by rw [wU];exact Nat.le_add_right _ _
 | x :: l,k,N,hx,h=>by
  rw [wU] at h ⊢
  split at h
  ·rename_i c
   rw [if_pos c]
   have h1:=hx x (List.mem_cons_self ..)
   have k1:=qie x.2 ((0,1),[],0) h1.2 ⟨Nat.le_refl _,fun n hn=>by cases hn⟩ c
   have ih:=qfl l (k+1) _ (fun q hq=>hx q (List.mem_cons_of_mem _ hq)) h
   rw [List.length_append] at ih
   rw [List.length_cons]
   have h2:=h1.1
   simp only [List.length_nil] at k1
   omega
  ·rename_i c
   exact absurd h c
theorem mem_at {α:Type} {l:List α} {x d:α} (h:x∈l):∃ i,i<l.length∧l.getD i d=x:=by
 obtain ⟨i,hi,e⟩:=List.mem_iff_getElem.1 h
 exact ⟨i,hi,by rw [List.getD_eq_getElem?_getD,List.getElem?_eq_getElem hi];exact e⟩
theorem notes_len {l:List Vo} (h:(zT l).1=0):(zT l).2.length≤5000000000:=by
 unfold zT at h ⊢
 split at h
 ·rename_i c
  rw [if_pos c]
  have hw:=WC c
  have:=qfl l 0 [] (fun x hx=>by
   obtain ⟨i,hi,rfl⟩:=mem_at (d:=qD) hx
   refine ⟨(hw.2 i hi).1,fun y hy=>?_⟩
   obtain ⟨j,hj,rfl⟩:=mem_at (d:=zB) hy
   exact (hw.2 i hi).2 j hj) h
  have h1:=hw.1
  simp only [List.length_nil] at this
  omega
 ·rename_i c
  exact absurd h c
set_option maxRecDepth 100000
set_option maxHeartbeats 4000000
theorem qfk (l:List Nt) (hl:l.length≤5000000000):PC Tryz.prog 14 [(.ssl (qj l) 0 l.length),(.ssl (qj l) 0 l.length)] [] (bv true) []:=by
 refine zI Tryz.func14 rfl (by kernel_rfl) (Nat.le_of_ble_eq_true rfl) (by kernel_rfl) (l0:=[ps 0 (.ssl (qj l) 0 l.length),ps 1 (.ssl (qj l) 0 l.length)]) rfl (fun c0 Bor hc0=>?_)
 refine qA<|qL qC [.r] []<|qA<|qA<|qL qC [.k2,.n] [ps 10 (bv (!(decide (((l.length:Nat):Int)=(l.length:Int)))))] ?_
 have h1:(l.length:Int)=(l.length:Int):=rfl
 refine qU (bt h1)<|qF<|qA<|qA<|qL qC [.k2,.d,.n,.n] [ps 12 (nv l.length),ps 13 (iv 0)]<|qV<|yC (α:={x:Nat // x≤l.length}) (fun x=>[ps 0 (.ssl (qj l) 0 l.length),ps 1 (.ssl (qj l) 0 l.length),ps 12 (nv l.length),ps 13 (nv x.1)]) (fun x=>l.length-x.1) 0 ⟨0,Nat.zero_le _⟩ (Wk.ren2 _ 0 hc0 [] rfl rfl (by kernel_rfl) (by kernel_rfl)) ?_
 rintro ⟨i,hi⟩
 refine qA<|qk qC [] [ps 0 (.ssl (qj l) 0 l.length),ps 1 (.ssl (qj l) 0 l.length),ps 12 (nv l.length),ps 13 (nv i),ps 14 (bv (decide (((i:Nat):Int)<(l.length:Int))))] (oz)<|qA ?_
 by_cases h2:(i:Int)<(l.length:Int)
 ·refine qR (zP h2)<|qF<|qA<|qV<|qA<|qL qC [.k2,.n,.k2,.d] [ps 5 (nv i)]<|qA<|QK qC [(2,.nat (i*9)),(3,.cells [(iv ((l.getD i yE).1)),(iv ((l.getD i yE).2.1.1)),(iv ((l.getD i yE).2.1.2)),(iv ((l.getD i yE).2.2.1.1)),(iv ((l.getD i yE).2.2.1.2)),(iv ((l.getD i yE).2.2.2.1.1)),(iv ((l.getD i yE).2.2.2.1.2.1)),(iv ((l.getD i yE).2.2.2.1.2.2)),(sv (st ((l.getD i yE).2.2.2.2)))]),(6,.nat (i*9)),(7,.cells [(iv ((l.getD i yE).1)),(iv ((l.getD i yE).2.1.1)),(iv ((l.getD i yE).2.1.2)),(iv ((l.getD i yE).2.2.1.1)),(iv ((l.getD i yE).2.2.1.2)),(iv ((l.getD i yE).2.2.2.1.1)),(iv ((l.getD i yE).2.2.2.1.2.1)),(iv ((l.getD i yE).2.2.2.1.2.2)),(sv (st ((l.getD i yE).2.2.2.2)))])] [[],[],[0,1],[0,1,2],[],[],[4,5],[4,5,6],[0,1,2,3,4,5,6,7]] [([32],[0]),([34],[10]),([36],[32,34]),([38],[36]),([40],[2]),([42],[10]),([44],[40,42]),([46],[44]),([48],[38,46])] [.k2,.d,.k2,.n] [ps 24 (bv (!((decide (((l.getD i yE).1)=((l.getD i yE).1))) && (((decide (((l.getD i yE).2.1.1)=((l.getD i yE).2.1.1))) && (decide (((l.getD i yE).2.1.2)=((l.getD i yE).2.1.2)))) && (((decide (((l.getD i yE).2.2.1.1)=((l.getD i yE).2.2.1.1))) && (decide (((l.getD i yE).2.2.1.2)=((l.getD i yE).2.2.1.2)))) && (((decide (((l.getD i yE).2.2.2.1.1)=((l.getD i yE).2.2.2.1.1))) && ((decide (((l.getD i yE).2.2.2.1.2.1)=((l.getD i yE).2.2.2.1.2.1))) && (decide (((l.getD i yE).2.2.2.1.2.2)=((l.getD i yE).2.2.2.1.2.2))))) && ((st ((l.getD i yE).2.2.2.2)).toList == (st ((l.getD i yE).2.2.2.2)).toList)))))))] (oc (by omega:(0:Int)≤(i:Int)∧(i:Int)<(l.length:Int)) (oc (by omega:0+(((i:Nat):Int):Int).toNat*9=(i*9)) (oc (yG noC 9 (fun _=>rfl) yE l i 0 9 (by omega) (by decide):(i*9)+9≤((qj l)).length∧(((qj l)).drop (i*9)).take 9=[(iv ((l.getD i yE).1)),(iv ((l.getD i yE).2.1.1)),(iv ((l.getD i yE).2.1.2)),(iv ((l.getD i yE).2.2.1.1)),(iv ((l.getD i yE).2.2.1.2)),(iv ((l.getD i yE).2.2.2.1.1)),(iv ((l.getD i yE).2.2.2.1.2.1)),(iv ((l.getD i yE).2.2.2.1.2.2)),(sv (st ((l.getD i yE).2.2.2.2)))]) (oc (by omega:(0:Int)≤(i:Int)∧(i:Int)<(l.length:Int)) (oc (by omega:0+(((i:Nat):Int):Int).toNat*9=(i*9)) (oc (yG noC 9 (fun _=>rfl) yE l i 0 9 (by omega) (by decide):(i*9)+9≤((qj l)).length∧(((qj l)).drop (i*9)).take 9=[(iv ((l.getD i yE).1)),(iv ((l.getD i yE).2.1.1)),(iv ((l.getD i yE).2.1.2)),(iv ((l.getD i yE).2.2.1.1)),(iv ((l.getD i yE).2.2.1.2)),(iv ((l.getD i yE).2.2.2.1.1)),(iv ((l.getD i yE).2.2.2.1.2.1)),(iv ((l.getD i yE).2.2.2.1.2.2)),(sv (st ((l.getD i yE).2.2.2.2)))]) oz)))))) ?_
  have h3:((decide (((l.getD i yE).1)=((l.getD i yE).1))) && (((decide (((l.getD i yE).2.1.1)=((l.getD i yE).2.1.1))) && (decide (((l.getD i yE).2.1.2)=((l.getD i yE).2.1.2)))) && (((decide (((l.getD i yE).2.2.1.1)=((l.getD i yE).2.2.1.1))) && (decide (((l.getD i yE).2.2.1.2)=((l.getD i yE).2.2.1.2)))) && (((decide (((l.getD i yE).2.2.2.1.1)=((l.getD i yE).2.2.2.1.1))) && ((decide (((l.getD i yE).2.2.2.1.2.1)=((l.getD i yE).2.2.2.1.2.1))) && (decide (((l.getD i yE).2.2.2.1.2.2)=((l.getD i yE).2.2.2.1.2.2))))) && ((st ((l.getD i yE).2.2.2.2)).toList == (st ((l.getD i yE).2.2.2.2)).toList)))))=true:=(by simp)
  refine qU (congrArg Bool.not h3)<|qF<|zF<|zY qC [] [.k3,.d,.n,.d] [ps 13 (iv (((i:Nat):Int)+1))] (oi (((i:Nat):Int)+1) (by omega) oz) ?_
  exact zR ⟨i+1,by show i+1≤l.length;omega⟩ (Wk.trans (Wk.eq (show _=[ps 0 (.ssl (qj l) 0 l.length),ps 1 (.ssl (qj l) 0 l.length),ps 12 (nv l.length),ps 13 (nv (i+1))] from by rfl)) (Wk.ren2 _ 0 hc0 [] rfl rfl (by kernel_rfl) (by kernel_rfl))) (show l.length-(i+1)<l.length-i from by show l.length-(i+1)<l.length-i;omega)
 refine qU (zN h2)<|zS rfl rfl<|qA<|qk qC [] [ps 4 (bv true)] (oz) ?_
 exact yA hc0 [4] []
theorem law_notes (l:List Vo) (hf:qca l) (hwd:wdVs l):PC Tryz.prog 3 [(.ssl (yJ l) 0 l.length)] [] (bv true) []:=by
 refine zI Tryz.func3 rfl (by kernel_rfl) (Nat.le_of_ble_eq_true rfl) (by kernel_rfl) (l0:=[ps 0 (.ssl (yJ l) 0 l.length)]) rfl (fun c0 Bor hc0=>?_)
 refine qA<|qL qC [.r] []<|qA<|qA<|zY qC [(1,.call [] [(.ssl (yJ l) 0 l.length)] [] (iv (qw l)) []),(3,.call [] [(.ssl (yJ l) 0 l.length)] [] (iv (qw l)) [])] [.k1,.n] [ps 13 (bv (!(decide ((qw l)=(qw l)))))] (yD 16 (wX l hf) (yD 32 (qcs l hf hwd) oz)) ?_
 have h1:(qw l)=(qw l):=rfl
 refine qU (bt h1)<|qF<|qA<|vK qC 1 [.k1,.n,.n,.d] [ps 3 (sv (st ((yx l).1))),ps 4 (iv ((yx l).2))] (yD 56 (qjk l hf) oz)<|qA<|vK qC 1 [.k3,.n,.n] [ps 5 (sv (st ((yx l).1))),ps 6 (iv ((yx l).2))] (yD 112 (nprint_pc l hf hwd) oz)<|qA<|qA ?_
 have h2:((yx l).1)=((yx l).1):=rfl
 refine zY qC ([(2,.val (.av (.bool (!decide (((yx l).1)=((yx l).1))))))]++gn 4 3++[(7,.yes false)]) [.k1,.d,.d,.d,.d,.n] [ps 31 (bv (!(decide (((yx l).2)=((yx l).2)))))] (oc (jB _ _:(!((st ((yx l).1)).toList == (st ((yx l).1)).toList)) = !decide (((yx l).1)=((yx l).1))) (on 4 (bt h2) oz)) ?_
 have h3:((yx l).2)=((yx l).2):=rfl
 refine qU (bt h3)<|qF<|qA ?_
 by_cases h4:(zT l).1=0
 ·refine vK qC 1 [.k1,.n,.n,.d,.n] [ps 4 (iv 0),ps 7 (.osl 232 0 ((zT l).2.length)),pb 232 58 (qN (yI [] 232) (qj ((zT l).2)))] (yD 232 (qbn l hf h4) oz)<|qY (Wk.eq (show _=[ps 0 (.ssl (yJ l) 0 l.length),ps 4 (iv 0),ps 7 (.osl 232 0 ((zT l).2.length)),pb 232 58 (qj ((zT l).2))] from by simp only [qH (qv _)])) ?_
  refine qA<|vK qC 1 [.d,.k1,.n,.k1,.n,.k1,.n] [ps 6 (iv 0),ps 8 (.osl 288 0 ((zT l).2.length)),pb 288 58 (qN (yI [] 288) (qj ((zT l).2)))] (yD 288 (pc_yes (qhl l hf hwd) h4) oz)<|qY (Wk.eq (show _=[ps 4 (iv 0),ps 6 (iv 0),ps 7 (.osl 232 0 ((zT l).2.length)),ps 8 (.osl 288 0 ((zT l).2.length)),pb 232 58 (qj ((zT l).2)),pb 288 58 (qj ((zT l).2))] from by simp only [qH (qv _)])) ?_
  refine qA<|qk qC ([(2,.lay [232,288] (.call [] [(.ssl (qj ((zT l).2)) 0 ((zT l).2.length)),(.ssl (qj ((zT l).2)) 0 ((zT l).2.length))] [] (bv true) []))]++gy 4 3) [ps 2 (bv true)] (oc (qv _:jW (qj ((zT l).2))) (oc (qv _:jW (qj ((zT l).2))) (yD 352 (qfk (zT l).2 (notes_len h4)) (on 3 tt oz)))) ?_
  exact yA hc0 [2] []
 refine vK qC 1 [.k1,.n,.n,.d] [ps 4 (iv ((zT l).1)),ps 7 (.ssl [] 0 0)] (yD 232 (qbo l hf h4) oz)<|qA<|vK qC 1 [.d,.k1,.n,.k1,.n] [ps 6 (iv ((zT l).1)),ps 8 (.ssl [] 0 0)] (yD 288 (pc_no (qhl l hf hwd) h4) oz)<|qA<|qk qC ([(2,.call [] [(.ssl (qj ([]:List Nt)) 0 (([]:List Nt).length)),(.ssl (qj ([]:List Nt)) 0 (([]:List Nt).length))] [] (bv true) [])]++gy 4 3) [ps 2 (bv (decide (((zT l).1)=((zT l).1))))] (yD 352 (qfk [] (Nat.zero_le _):PC Tryz.prog 14 [(.ssl (qj ([]:List Nt)) 0 (([]:List Nt).length)),(.ssl (qj ([]:List Nt)) 0 (([]:List Nt).length))] [] (bv true) []) (on 3 tt oz))<|qY (Wk.eq (show _=[ps 2 (bv true)] from by rw [show decide ((zT l).1=(zT l).1)=true from zP rfl])) ?_
 exact yA hc0 [2] []
end Go.Proofs.YtmlnilkbolcknaaGreatDoor.Pm
namespace Go.Proofs.YtmlnilkbolcknaaGreatDoor.Pm
open Go Go.Deep Go.ChangeShapes Go.WideShapes Go.ChangeAt Go.RowKit
def ShF (r:TypeId→List PV→Prop):List Field→List PV→Prop
 | [],ps=>ps=[]
 | f :: fs,ps=>∃ a b,ps=a++b∧r f.type a∧ShF r fs b
def Sh (P:Program):Nat→TypeId→List PV→Prop
 | 0,_,_=>False
 | n+1,t,ps=>match P.underlying t with
  | some .bool=>∃ b,ps=[.av (.bool b)]
  | some (.int k)=>∃ m,ps=[.av (.int k m)]∧(Lit.int k m).wf=true
  | some (.float k)=>∃ b,ps=[.av (.float k b)]∧(Lit.float k b).wf=true
  | some .string=>∃ s:ByteArray,ps=[.av (.string s)]∧s.size≤maxLen∧s.data.toList.length≤reachBytes
  | some (.slice e)=>∃ ess:List (List PV),ps=[.ssl ess.flatten 0 ess.length]∧ess.length≤maxLen∧ess.length*P.bytesOf e≤reachBytes∧∀ es∈ess,Sh P n e es
  | some (.struct fs)=>ShF (Sh P n) fs.toList ps
  | _=>False
mutual
def vT {H:Type}:DataW H→Nat
 | .lit (.string bytes)=>bytes.length+1
 | .lit _=>1
 | .nil=>1
 | .ptr d=>vT d+1
 | .slice elems spare=>wW elems+wW spare+1
 | .agg parts=>wW parts+1
 | .iface _ d=>vT d+1
 | .map entries=>QJ entries+1
 | .held _=>1
def wW {H:Type}:List (DataW H)→Nat
 | []=>0
 | d :: r=>vT d+wW r
def QJ {H:Type}:List (Lit × DataW H)→Nat
 | []=>0
 | x :: r=>jx x+QJ r
def jx {H:Type}:Lit × DataW H→Nat
 | (.string bytes,d)=>bytes.length+vT d+1
 | (_,d)=>vT d+1
end
mutual
def pvw:PV→Nat
 | .av (.string s)=>s.size+1
 | .ssl cs _ _=>wE cs+1
 | .agg cs=>wE cs+1
 | _=>1
def wE:List PV→Nat
 | []=>0
 | p :: l=>pvw p+wE l
end
theorem VS:∀ a b:List PV,wE (a++b)=wE a+wE b
 | [],b=>by simp [wE]
 | p :: a,b=>by rw [List.cons_append,wE,wE,VS a b];omega
theorem qbi:∀ l:List (List PV),wE l.flatten=(l.map wE).sum
 | []=>rfl
 | a :: l=>by rw [List.flatten_cons,VS,qbi l,List.map_cons,List.sum_cons]
theorem sum_le {H:Type}:∀ (n:Nat) (f:Nat→Nat) (ds:List (DataW H)),ds.length=n→(∀ i (h:i<ds.length),f i≤vT ds[i])→((List.range n).map f).sum≤wW ds
 | 0,f,ds,hl,h=>by simp
 | n+1,f,[],hl,h=>by simp at hl
 | n+1,f,d :: ds,hl,h=>by
  rw [List.range_succ_eq_map,List.map_cons,List.sum_cons,List.map_map,wW]
  have h0:=h 0 (by simp)
  have h1:=sum_le n (f ∘ Nat.succ) ds (by simpa using hl) fun i hi=>by have:=h (i+1) (by simpa using hi);simpa using this
  simp only [List.getElem_cons_zero] at h0
  omega
def qgc (P:Program):List Field→Nat→Option Nat
 | [],o=>some o
 | f :: fs,o=>if f.offset=o then qgc P fs (o+P.cellsOf f.type) else none
def openB (P:Program) (Ts:List TypeId):Bool:=Ts.all fun t=>match P.underlying t with
 | some .bool | some (.int _) | some (.float _) | some .string=>Nat.beq (P.cellsOf t) 1
 | some (.slice e)=>Nat.beq (P.cellsOf t) 1 && Nat.ble 1 (P.cellsOf e) && Ts.contains e
 | some (.struct fs)=>qgc P fs.toList 0 == some (P.cellsOf t) && fs.toList.all fun f=>Ts.contains f.type
 | _=>false
theorem List.getD_app {α:Type} {l m:List α} {i:Nat} {d:α} (h:i<l.length):(l++m).getD i d=l.getD i d:=by
 rw [List.getD_eq_getElem?_getD,List.getD_eq_getElem?_getD,List.getElem?_append_left h]
theorem List.getD_app_r {α:Type} {l m:List α} {i:Nat} {d:α} (h:l.length≤i):(l++m).getD i d=m.getD (i-l.length) d:=by
 rw [List.getD_eq_getElem?_getD,List.getD_eq_getElem?_getD,List.getElem?_append_right h]
theorem qdk {k:Nat}:∀ {ess:List (List PV)},(∀ es∈ess,es.length=k)→ess.flatten.length=ess.length*k∧∀ i j,j<k→i<ess.length→ess.flatten.getD (i*k+j) P0=(ess.getD i []).getD j P0
 | [],_=>⟨by simp,fun i j _ h=>absurd h (Nat.not_lt_zero _)⟩
 | es :: ess,h=>by
  have h0:=h es (by simp)
  obtain ⟨h1,h2⟩:=qdk (ess:=ess) fun x hx=>h x (by simp [hx])
  refine ⟨by rw [List.flatten_cons,List.length_append,h0,h1,List.length_cons,Nat.succ_mul];omega,fun i j hj hi=>?_⟩
  rw [List.flatten_cons]
  cases i with
  | zero=>rw [Nat.zero_mul,Nat.zero_add,List.getD_app (by omega)];rfl
  | succ i =>
   rw [List.getD_app_r (by rw [h0,Nat.succ_mul];omega),h0,show (i+1)*k+j-k=i*k+j from by rw [Nat.succ_mul];omega,h2 i j hj (by simpa using hi)]
   rfl
section
variable {H:Type} {enc:TypeId × Value→H} {P:Program} {w:World} {base:Nat} {held:Bool}
abbrev qda (w:World) (ps:List PV) (cs:List Value):Prop:=wM ps∧ps.length=cs.length∧∀ i,i<ps.length→SRep w (fun b=>b<w.heap.size) (ps.getD i P0) (cs.getD i undef)
theorem jj {p:PV} {v:Value} (h:p.one=true) (hr:SRep w (fun b=>b<w.heap.size) p v):qda w [p] [v] :=
 ⟨fun q hq=>by simp only [List.mem_singleton] at hq;rw [hq];exact h,rfl,fun i hi=>by
  have:i=0:=by simp at hi;omega
  subst this;exact hr⟩
theorem open_fs {Ts:List TypeId} {n:Nat} (ih:∀ (t:TypeId) (cs:List Value) (x:DataW H × List MemPlace),t∈Ts→DataW.trod enc P w base (fun _=>true) held n t cs=some x→(x.1.weights P t).all (· ≤ reachBytes)=true →
  ∃ ps,Sh P n t ps∧qda w ps cs∧cs.length=P.cellsOf t∧wE ps≤vT x.1) (cs:List Value) :
  ∀ (fs:List Field) (xs:List (DataW H × List MemPlace)) (o e:Nat),qgc P fs o=some e→e≤cs.length→(∀ f∈fs,f.type∈Ts)→xs.length=fs.length →
   (∀ (i:Nat) (f:Field),fs[i]? = some f→DataW.trod enc P w base (fun _=>true) held n f.type ((cs.drop f.offset).take (P.cellsOf f.type))=xs[i]?) →
   (DataW.weightsEach P (fs.map (·.type)) (xs.map (·.1))).all (· ≤ reachBytes)=true→∃ ps,ShF (Sh P n) fs ps∧qda w ps ((cs.drop o).take (e-o))∧o≤e∧wE ps≤wW (xs.map (·.1))
 | [],xs,o,e,hc,he,_,_,_,_=>by
  simp only [qgc,Option.some.injEq] at hc
  subst hc
  exact ⟨[],rfl,⟨fun p hp=>(by cases hp),by simp,fun i hi=>by simp at hi⟩,Nat.le_refl _,Nat.zero_le _⟩
 | f :: fs,[],o,e,hc,he,hT,hx,hf,hw=>by simp at hx
 | f :: fs,x :: xs,o,e,hc,he,hT,hx,hf,hw=>by
  simp only [qgc] at hc
  split at hc
  case isFalse=>cases hc
  rename_i ho
  simp only [List.map_cons,DataW.weightsEach,List.all_append,Bool.and_eq_true] at hw
  obtain ⟨b,hb1,hb2,hb3,hb4⟩:=open_fs ih cs fs xs _ e hc he (fun g hg=>hT g (by simp [hg])) (by simpa using hx) (fun i g hg=>by have:=hf (i+1) g (by simpa using hg);simpa using this) hw.2
  obtain ⟨a,ha1,ha2,ha3,ha4⟩:=ih f.type _ x (hT f (by simp)) (by have:=hf 0 f (by simp);simpa using this) hw.1
  rw [ho] at ha2 ha3
  have hla:(List.take (P.cellsOf f.type) (List.drop o cs)).length=P.cellsOf f.type:=ha3
  have e1:(cs.drop o).take (e-o)=(cs.drop o).take (P.cellsOf f.type)++(cs.drop (o+P.cellsOf f.type)).take (e-(o+P.cellsOf f.type)):=by
   rw [← List.drop_drop,show e-o=P.cellsOf f.type+(e-(o+P.cellsOf f.type)) from by omega,List.take_add]
  refine ⟨a++b,⟨a,b,rfl,ha1,hb1⟩,?_,by omega,by rw [VS,List.map_cons,wW];omega⟩
  rw [e1]
  refine ⟨fun p hp=>?_,by rw [List.length_append,List.length_append,ha2.2.1,hb2.2.1],fun i hi=>?_⟩
  ·rcases List.mem_append.1 hp with h|h
   ·exact ha2.1 p h
   ·exact hb2.1 p h
  ·have hl:=ha2.2.1
   rw [List.length_append] at hi
   by_cases h:i<a.length
   ·rw [List.getD_app h,List.getD_app (by omega)]
    exact ha2.2.2 i h
   ·rw [List.getD_app_r (by omega),List.getD_app_r (by omega),← hl]
    exact hb2.2.2 _ (by omega)
theorem qfi {Ts:List TypeId} (hT:openB P Ts=true):∀ (n:Nat) (t:TypeId) (cs:List Value) (x:DataW H × List MemPlace),t∈Ts→DataW.trod enc P w base (fun _=>true) held n t cs=some x→(x.1.weights P t).all (· ≤ reachBytes)=true →
  ∃ ps,Sh P n t ps∧qda w ps cs∧cs.length=P.cellsOf t∧wE ps≤vT x.1
 | 0,_,_,_,_,h,_=>by simp [DataW.trod] at h
 | n+1,t,cs,x,ht,h,hw=>by
  have hB:=List.all_eq_true.1 hT t ht
  split at hB
  ·rename_i hu
   obtain ⟨b,rfl,rfl⟩:=DataW.trod_bool hu h
   exact ⟨[.av (.bool b)],by simp only [Sh,hu];exact ⟨b,rfl⟩,jj rfl (.av _),(Nat.eq_of_beq_eq_true hB).symm,by simp [wE,pvw,vT]⟩
  ·rename_i k hu
   obtain ⟨b,rfl,rfl,hwf⟩:=DataW.trod_int hu h
   exact ⟨[.av (.int k b)],by simp only [Sh,hu];exact ⟨b,rfl,hwf⟩,jj rfl (.av _),(Nat.eq_of_beq_eq_true hB).symm,by simp [wE,pvw,vT]⟩
  ·rename_i k hu
   have:∃ b,cs=[.float k b]∧(Lit.float k b).wf=true∧x=(.lit (.float k b),[]):=by
    unfold DataW.trod at h
    rw [hu] at h
    split at h <;> simp_all
   obtain ⟨b,rfl,hwf,rfl⟩:=this
   exact ⟨[.av (.float k b)],by simp only [Sh,hu];exact ⟨b,rfl,hwf⟩,jj rfl (.av _),(Nat.eq_of_beq_eq_true hB).symm,by simp [wE,pvw,vT]⟩
  ·rename_i hu
   obtain ⟨s,rfl,rfl,hs⟩:=DataW.trod_string hu h
   have hw9:([s.data.toList.length].all (· ≤ reachBytes))=true:=hw
   have hw8:s.data.toList.length≤reachBytes:=of_decide_eq_true (List.all_eq_true.1 hw9 s.data.toList.length (List.mem_singleton.2 rfl))
   exact ⟨[.av (.string s)],by simp only [Sh,hu];exact ⟨s,rfl,hs,hw8⟩,jj rfl (.av _),(Nat.eq_of_beq_eq_true hB).symm,by simp [wE,pvw,vT]⟩
  ·rename_i e hu
   simp only [Bool.and_eq_true] at hB
   obtain ⟨⟨hB1,hB2⟩,hB3⟩:=hB
   have hB1:=Nat.eq_of_beq_eq_true hB1
   have hk:=Nat.le_of_ble_eq_true hB2
   have he:e∈Ts:=by simpa using hB3
   rcases DataW.trod_slice hu h with ⟨rfl,rfl⟩|⟨a,len,cap,elems,rest,m,hm,rfl,rfl,hb,hl,hcap,hel,hE,_,_⟩
   ·refine ⟨[.ssl [] 0 0],?_,jj rfl .emp,hB1.symm,by simp [wE,pvw,vT]⟩
    simp only [Sh,hu]
    exact ⟨[],rfl,Nat.zero_le _,by simp,by simp⟩
   ·obtain rfl:m=n:=by omega
    simp only [DataW.weights,hu,List.length_map,List.all_cons,List.all_append,Bool.and_eq_true,decide_eq_true_eq] at hw
    have hwl:∀ i (hi:i<elems.length),((elems[i].1).weights P e).all (· ≤ reachBytes)=true:=by
     intro i hi
     refine List.all_eq_true.2 fun z hz=>?_
     exact List.all_eq_true.1 hw.2.1 z (YV (List.mem_map.2 ⟨elems[i],List.getElem_mem hi,rfl⟩) z hz)
    have each:∀ i,i<len→∃ q:List PV × List Value,Sh P m e q.1∧qda w q.1 q.2∧q.2.length=P.cellsOf e∧(∀ j,j<P.cellsOf e→w.cell? (a.add (i*P.cellsOf e+j))=some (q.2.getD j undef))∧∀ h:i<elems.length,wE q.1≤vT (elems[i]).1:=by
     intro i hi
     have h1:=hE i hi
     rw [List.getElem?_eq_getElem (by omega),Option.bind_eq_some_iff] at h1
     obtain ⟨cs',h2,h3⟩:=h1
     obtain ⟨ps,h4,h5,h6,h7⟩:=qfi hT m e cs' _ he h3 (hwl i (by omega))
     refine ⟨(ps,cs'),h4,h5,h6,fun j hj=>?_,fun _=>h7⟩
     rw [← Addr.add_add,(World.cells?_some h2).2.2 j hj]
     have:j<cs'.length:=by omega
     simp [List.getD_eq_getElem?_getD,this]
    let Q:Nat→List PV × List Value:=fun i=>if hi:i<len then (each i hi).choose else ([],[])
    have hQ:∀ i,i<len→Sh P m e (Q i).1∧qda w (Q i).1 (Q i).2∧(Q i).2.length=P.cellsOf e∧(∀ j,j<P.cellsOf e→w.cell? (a.add (i*P.cellsOf e+j))=some ((Q i).2.getD j undef))∧∀ h:i<elems.length,wE (Q i).1≤vT (elems[i]).1:=by
     intro i hi
     have e1:Q i=(each i hi).choose:=dif_pos hi
     rw [e1]
     exact (each i hi).choose_spec
    have hlen:((List.range len).map fun i=>(Q i).1).length=len:=by simp
    refine ⟨[.ssl ((List.range len).map fun i=>(Q i).1).flatten 0 ((List.range len).map fun i=>(Q i).1).length],?_,jj rfl ?_,hB1.symm,?_⟩
    ·simp only [Sh,hu]
     refine ⟨_,rfl,by rw [hlen];omega,by rw [hlen];exact Nat.le_trans (Nat.mul_le_mul_right _ (by omega)) hw.1,fun es hes=>?_⟩
     obtain ⟨i,hi,rfl⟩:=List.mem_map.1 hes
     exact (hQ i (List.mem_range.1 hi)).1
    ·rw [hlen]
     rcases Nat.eq_zero_or_pos len with h0|h0
     ·subst h0;exact .emp
     ·have hes:∀ es∈(List.range len).map fun i=>(Q i).1,es.length=P.cellsOf e:=fun es hes=>by
       obtain ⟨i,hi,rfl⟩:=List.mem_map.1 hes
       obtain ⟨_,h2,h3,_⟩:=hQ i (List.mem_range.1 hi)
       exact h2.2.1.trans h3
      obtain ⟨hf1,hf2⟩:=qdk hes
      rw [hlen] at hf1 hf2
      have hg:∀ i,i<len→((List.range len).map fun i=>(Q i).1).getD i []=(Q i).1:=fun i hi=>by simp [List.getD_eq_getElem?_getD,hi]
      obtain ⟨b,o,rfl,hbs,hcell⟩:=cells_from (w:=w) (a:=a) (n:=len*P.cellsOf e) (f:=fun c=>(Q (c / P.cellsOf e)).2.getD (c % P.cellsOf e) undef) (fun c hc=>by
       have hd:c / P.cellsOf e<len:=Nat.div_lt_of_lt_mul (by rw [Nat.mul_comm];exact hc)
       have:=(hQ _ hd).2.2.2.1 (c % P.cellsOf e) (Nat.mod_lt _ hk)
       rw [Nat.mul_comm,Nat.div_add_mod] at this
       exact this) (Nat.mul_pos h0 hk)
      refine SRep.ssl (a:=o) (off:=0) (vf:=fun c=>(Q (c / P.cellsOf e)).2.getD (c % P.cellsOf e) undef) hbs (fun j hj=>hcell j (by omega)) (fun j hj=>?_) (fun p hp=>?_) hl
      ·rw [hf1] at hj
       have hd:j / P.cellsOf e<len:=Nat.div_lt_of_lt_mul (by rw [Nat.mul_comm];exact hj)
       have hm:=Nat.mod_lt j hk
       have e1:=hf2 (j / P.cellsOf e) (j % P.cellsOf e) hm hd
       rw [Nat.mul_comm,Nat.div_add_mod,hg _ hd] at e1
       rw [e1]
       obtain ⟨_,h2,h3,_⟩:=hQ _ hd
       exact h2.2.2 _ (by rw [h2.2.1,h3];exact hm)
      ·obtain ⟨es,hes',hp'⟩:=List.mem_flatten.1 hp
       obtain ⟨i,hi,rfl⟩:=List.mem_map.1 hes'
       exact (hQ i (List.mem_range.1 hi)).2.1.1 p hp'
    ·simp only [wE,pvw,vT,qbi,List.map_map]
     have:=sum_le len (wE ∘ fun i=>(Q i).1) (elems.map (·.1)) (by simpa using hel) fun i hi=>by
      have hi':i<elems.length:=by simpa using hi
      have:=(hQ i (by omega)).2.2.2.2 hi'
      simpa using this
     omega
  ·rename_i fs hu
   simp only [Bool.and_eq_true,beq_iff_eq,List.all_eq_true] at hB
   obtain ⟨xs,m,hm,rfl,hl,hxl,hf⟩:=DataW.trod_struct hu h
   obtain rfl:m=n:=by omega
   simp only [DataW.weights,hu] at hw
   obtain ⟨ps,h1,h2,_,h4⟩:=open_fs (qfi hT m) cs fs.toList xs 0 _ hB.1 (by omega) (fun f hf=>by simpa using hB.2 f hf) (by simpa using hxl) (fun i f hif=>hf i f (by simpa using hif)) hw
   rw [List.drop_zero,Nat.sub_zero,← hl,List.take_length] at h2
   exact ⟨ps,by simp only [Sh,hu];exact h1,h2,hl,by simp only [vT];omega⟩
  ·cases hB
end
theorem weights_at {H:Type} {P:Program} {ts:List TypeId} {ds:List (DataW H)} (h:(DataW.weightsEach P ts ds).all (· ≤ reachBytes)=true) {j:Nat} {t:TypeId} {d:DataW H} (ht:ts[j]? = some t) (hd:ds[j]? = some d):(d.weights P t).all (· ≤ reachBytes)=true :=
 List.all_eq_true.2 fun n hn=>List.all_eq_true.1 h n (DataW.weights_mem_each ht hd n hn)
theorem arg_any {H:Type} {enc:TypeId × Value→H} {P:Program} {w:World} {base:Nat} {t:TypeId} {v:Value} {d:DataW H} {pl:List MemPlace} {r:Reach} {b0:Nat} {held:Bool} {Ts:List TypeId}
  (hT:openB P Ts=true) (ht:t∈Ts) (hv:Value.okWide P w r b0 t v) (h:DataW.Trod enc P w base (fun _=>true) held t v d pl)
  {ts:List TypeId} {ds:List (DataW H)} (hs:(DataW.weightsEach P ts ds).all (· ≤ reachBytes)=true) {j:Nat} (hj:ts[j]? = some t) (hd:ds[j]? = some d) :
  ∃ n ps,Sh P n t ps∧wE ps≤vT d∧match wO (P.underlying t) with
   | some true=>SRep w (fun b=>b<w.heap.size) (.agg ps) v
   | _=>∃ p,ps=[p]∧SRep w (fun b=>b<w.heap.size) p v:=by
 obtain ⟨n,hf⟩:=h
 obtain ⟨ps,h1,⟨h2,h3,h4⟩,h5,h6⟩:=qfi hT n t _ _ ht hf (weights_at hs hj hd)
 refine ⟨n,ps,h1,h6,?_⟩
 have hB:=List.all_eq_true.1 hT t ht
 have one:v.cells = #[v]→∃ p,ps=[p]∧SRep w (fun b=>b<w.heap.size) p v:=fun hc=>by
  rw [hc] at h3 h4
  simp only [List.length_cons,List.length_nil] at h3
  obtain ⟨p,rfl⟩:=List.length_eq_one_iff.1 h3
  exact ⟨p,rfl,h4 0 (by simp)⟩
 split at hB
 ·rename_i hu
  obtain ⟨b,rfl⟩:=okWide_bool hu hv
  simp only [hu,wO]
  exact one rfl
 ·rename_i k hu
  obtain ⟨b,rfl⟩:=okWide_int hu hv
  simp only [hu,wO]
  exact one rfl
 ·rename_i k hu
  have:∃ b,v = .float k b:=by
   simp only [Value.okWide,hu,Cell.okWide] at hv
   cases v <;> simp_all [Cell.ok]
  obtain ⟨b,rfl⟩:=this
  simp only [hu,wO]
  exact one rfl
 ·rename_i hu
  obtain ⟨b,rfl⟩:=okWide_string hu hv
  simp only [hu,wO]
  exact one rfl
 ·rename_i e hu
  obtain ⟨a,l,c,rfl⟩:=okWide_slice hu hv
  simp only [hu,wO]
  exact one rfl
 ·rename_i fs hu
  obtain ⟨cs,rfl,hsz⟩:=okWide_struct hu hv
  simp only [hu,wO]
  simp only [Value.cells] at h3 h4
  refine .agg (by simpa using h3.symm) fun i hi=>?_
  have:=h4 i hi
  rwa [show cs.toList.getD i undef=cs.getD i undef from by rw [List.getD_eq_getElem?_getD,Array.getElem?_toList,Array.getD_eq_getD_getElem?]] at this
 ·cases hB
mutual
theorem ZO {H:Type}:∀ d:DataW H,Rows.uptoBulk d=vT d
 | .lit (.string b)=>by simp [Rows.uptoBulk,vT]
 | .lit (.bool _)=>by simp [Rows.uptoBulk,vT]
 | .lit (.int _ _)=>by simp [Rows.uptoBulk,vT]
 | .lit (.float _ _)=>by simp [Rows.uptoBulk,vT]
 | .lit .nil=>by simp [Rows.uptoBulk,vT]
 | .nil=>by simp [Rows.uptoBulk,vT]
 | .ptr d=>by simp [Rows.uptoBulk,vT,ZO d]
 | .slice e s=>by simp [Rows.uptoBulk,vT,Vk e,Vk s]
 | .agg ps=>by simp [Rows.uptoBulk,vT,Vk ps]
 | .iface _ d=>by simp [Rows.uptoBulk,vT,ZO d]
 | .map es=>by simp [Rows.uptoBulk,vT,qcc es]
 | .held _=>by simp [Rows.uptoBulk,vT]
theorem Vk {H:Type}:∀ l:List (DataW H),Rows.uptoBulkAll l=wW l
 | []=>by simp [Rows.uptoBulkAll,wW]
 | d :: l=>by simp [Rows.uptoBulkAll,wW,ZO d,Vk l]
theorem qcc {H:Type}:∀ l:List (Lit × DataW H),Rows.uptoBulkEntries l=QJ l
 | []=>by simp [Rows.uptoBulkEntries,QJ]
 | x :: l=>by simp [Rows.uptoBulkEntries,QJ,bulk_entry x,qcc l]
theorem bulk_entry {H:Type}:∀ x:Lit × DataW H,Rows.uptoBulkEntry x=jx x
 | (.string b,d)=>by simp [Rows.uptoBulkEntry,jx,ZO d]
 | (.bool _,d)=>by simp [Rows.uptoBulkEntry,jx,ZO d]
 | (.int _ _,d)=>by simp [Rows.uptoBulkEntry,jx,ZO d]
 | (.float _ _,d)=>by simp [Rows.uptoBulkEntry,jx,ZO d]
 | (.nil,d)=>by simp [Rows.uptoBulkEntry,jx,ZO d]
end
theorem small_bulk {H:Type} {l:List (DataW H)} (hk:Rows.uptoSmall H l=true):wW l≤1048576:=by
 have h:Rows.uptoBulkAll l≤1048576:=of_decide_eq_true hk
 rwa [Vk] at h
theorem bulk_mem {H:Type} {d:DataW H}:∀ {l:List (DataW H)},d∈l→vT d≤wW l
 | x :: l,h=>by
  rw [wW]
  rcases List.mem_cons.1 h with rfl|h
  ·omega
  ·have:=bulk_mem h;omega
theorem list_of {α:Type} {g:α→List PV} {q:α→Prop}:∀ {ess:List (List PV)},(∀ es∈ess,∃ x,es=g x∧q x)→∃ l:List α,ess=l.map g∧∀ x∈l,q x
 | [],_=>⟨[],rfl,by simp⟩
 | es :: ess,h=>by
  obtain ⟨x,rfl,hx⟩:=h es (by simp)
  obtain ⟨l,rfl,hl⟩:=list_of (ess:=ess) fun e he=>h e (by simp [he])
  exact ⟨x :: l,rfl,fun y hy=>by
   rcases List.mem_cons.1 hy with rfl|hy
   ·exact hx
   ·exact hl y hy⟩
theorem flat_of {α:Type} (g:α→List PV) (l:List α):(l.map g).flatten=l.flatMap g:=List.flatMap_def.symm
theorem sh_num {P:Program} {t:TypeId} {k:IntKind} (ht:P.underlying t=some (.int k)) {n:Nat} {ps:List PV} (h:Sh P n t ps):∃ m,ps=[.av (.int k m)]∧(Lit.int k m).wf=true:=by
 cases n with
 | zero=>exact h.elim
 | succ n=>simpa only [Sh,ht] using h
theorem sh_str' {P:Program} {t:TypeId} (ht:P.underlying t=some .string) {n:Nat} {ps:List PV} (h:Sh P n t ps):∃ s:ByteArray,ps=[.av (.string s)]∧s.size≤maxLen∧s.data.toList.length≤reachBytes:=by
 cases n with
 | zero=>exact h.elim
 | succ n=>simpa only [Sh,ht] using h
theorem qbe {P:Program} {t e:TypeId} (ht:P.underlying t=some (.slice e)) {α:Type} {g:α→List PV} {q:α→Prop} {n:Nat} {ps:List PV} (h:Sh P n t ps) (hg:∀ m es,m<n→Sh P m e es→∃ x,es=g x∧q x) :
  ∃ l:List α,ps=[.ssl (l.flatMap g) 0 l.length]∧(∀ x∈l,q x)∧l.length≤maxLen∧l.length*P.bytesOf e≤reachBytes:=by
 cases n with
 | zero=>exact h.elim
 | succ n =>
  simp only [Sh,ht] at h
  obtain ⟨ess,rfl,h1,h2,h3⟩:=h
  obtain ⟨l,rfl,hl⟩:=list_of fun es hes=>hg n es (Nat.lt_succ_self _) (h3 es hes)
  rw [List.length_map] at h1 h2
  refine ⟨l,by rw [flat_of,List.length_map],hl,h1,h2⟩
theorem wf_of {m:Int} (h:(Lit.int .i64 m).wf=true):ZT m:=by
 simp [Lit.wf,IntKind.min,IntKind.max,IntKind.signed,IntKind.bits] at h;unfold ZT;omega
theorem Zy {n:Nat} {ps:List PV} (h:Sh Tryz.prog n 3 ps):∃ m,ps=[iv m]∧ZT m:=by
 obtain ⟨m,h1,h2⟩:=sh_num Tryz.underlying3 h
 exact ⟨m,h1,wf_of h2⟩
theorem sc_str {n:Nat} {ps:List PV} (h:Sh Tryz.prog n 9 ps):∃ s:qQ,ps=[sv (st s)]∧s.length≤140737488351232:=by
 obtain ⟨s,h1,_,h2⟩:=sh_str' Tryz.underlying9 h
 exact ⟨s.data.toList,h1,h2⟩
theorem sc_iv {n:Nat} {ps:List PV} (h:Sh Tryz.prog n 41 ps):∃ i:Int × Int,ps=[iv i.1,iv i.2]∧ZT i.1∧ZT i.2:=by
 cases n with
 | zero=>exact h.elim
 | succ n =>
  simp only [Sh,Tryz.underlying41,ShF] at h
  obtain ⟨a,b,rfl,h1,c,d,rfl,h2,rfl⟩:=h
  obtain ⟨x,rfl,hx⟩:=Zy h1
  obtain ⟨y,rfl,hy⟩:=Zy h2
  exact ⟨(x,y),rfl,hx,hy⟩
theorem qke:∀ {l:List It},(∀ x∈l,QP x)→wy l
 | [],_=>trivial
 | x :: l,h=>⟨h x (by simp),qke fun y hy=>h y (by simp [hy])⟩
theorem sc_pitW {n:Nat} {ps:List PV} (h:Sh Tryz.prog n 52 ps):∃ p:Pt,ps=ptC p∧ZT p.2.1:=by
 cases n with
 | zero=>exact h.elim
 | succ n =>
  simp only [Sh,Tryz.underlying52,ShF] at h
  obtain ⟨a,b,rfl,h1,c,d,rfl,h2,e,f,rfl,h3,rfl⟩:=h
  obtain ⟨x,rfl,_⟩:=Zy h1
  obtain ⟨y,rfl,hy⟩:=Zy h2
  obtain ⟨z,rfl,_⟩:=Zy h3
  exact ⟨(x,y,z),rfl,hy⟩
theorem sc_ptsW {n:Nat} {ps:List PV} (h:Sh Tryz.prog n 48 ps):∃ l:List Pt,ps=[.ssl (zG l) 0 l.length]∧l.length≤5864062014634∧∀ i,i<l.length→Pi.I64 (l.getD i zU).2.1:=by
 obtain ⟨l,h1,h2,_,h4⟩:=qbe (g:=ptC) (q:=fun p=>ZT p.2.1) Tryz.underlying48 h fun m es _ hs=>sc_pitW hs
 rw [show Tryz.prog.bytesOf 52=24 from by kernel_rfl] at h4
 have h5:l.length*24≤140737488351232:=h4
 refine ⟨l,h1,by omega,fun i hi=>?_⟩
 rw [List.getD_eq_getElem?_getD,List.getElem?_eq_getElem hi]
 exact h2 _ (List.getElem_mem hi)
theorem wdL_of:∀ {l:List It},(∀ x∈l,wdI x)→wdL l
 | [],_=>by rw [wdL];trivial
 | x :: l,h=>by rw [wdL];exact ⟨h x (by simp),wdL_of fun y hy=>h y (by simp [hy])⟩
theorem item_ofW:∀ (n:Nat) (ps:List PV),Sh Tryz.prog n 50 ps→∃ x,ps=gI x∧(QP x∧wdI x):=by
 intro n
 induction n using Nat.strongRecOn with
 | ind n ih =>
  intro ps h
  cases n with
  | zero=>exact h.elim
  | succ n =>
   simp only [Sh,Tryz.underlying50,ShF] at h
   obtain ⟨_,_,rfl,h1,_,_,rfl,h2,_,_,rfl,h3,_,_,rfl,h4,_,_,rfl,h5,_,_,rfl,h6,rfl⟩:=h
   obtain ⟨k,rfl,_⟩:=Zy h1
   obtain ⟨s,rfl,_⟩:=Zy h2
   obtain ⟨P,rfl,hP,hPs⟩:=sc_ptsW h3
   obtain ⟨i,rfl,hi1,hi2⟩:=sc_iv h4
   obtain ⟨y,rfl,hy⟩:=sc_str h5
   obtain ⟨l,rfl,hl,_,hb⟩:=qbe (g:=gI) (q:=fun x=>QP x∧wdI x) Tryz.underlying45 h6 fun m es hm hs=>ih m (by omega) es hs
   rw [show Tryz.prog.bytesOf 50=96 from by kernel_rfl] at hb
   have hb':l.length*96≤140737488351232:=hb
   refine ⟨.mk k s P i y l,?_,⟨⟨hi1,hi2⟩,hP,hy,by omega,qke fun x hx=>(hl x hx).1⟩,by rw [wdI];exact ⟨hPs,wdL_of fun x hx=>(hl x hx).2⟩⟩
   simp only [gI,iK,iS,iP,iB,iL,iC,Zz]
   rfl
theorem sc_itemsW {n:Nat} {ps:List PV} (h:Sh Tryz.prog n 45 ps):∃ l:List It,ps=[.ssl (qO l) 0 l.length]∧l.length≤1466015503658∧wy l∧wdL l:=by
 obtain ⟨l,h1,hl,_,hb⟩:=qbe (g:=gI) (q:=fun x=>QP x∧wdI x) Tryz.underlying45 h fun m es _ hs=>item_ofW m es hs
 rw [show Tryz.prog.bytesOf 50=96 from by kernel_rfl] at hb
 have hb':l.length*96≤140737488351232:=hb
 exact ⟨l,by rw [Zz];exact h1,by omega,qke fun x hx=>(hl x hx).1,wdL_of fun x hx=>(hl x hx).2⟩
theorem bar_ofW (n:Nat) (ps:List PV) (h:Sh Tryz.prog n 47 ps):∃ b:Br,ps=brC b∧(qaw b∧wdL b.2.2):=by
 cases n with
 | zero=>exact h.elim
 | succ n =>
  simp only [Sh,Tryz.underlying47,ShF] at h
  obtain ⟨_,_,rfl,h1,_,_,rfl,h2,_,_,rfl,h3,rfl⟩:=h
  obtain ⟨u,rfl,hu⟩:=Zy h1
  obtain ⟨d,rfl,hd⟩:=Zy h2
  obtain ⟨l,rfl,hl,hf,hw⟩:=sc_itemsW h3
  exact ⟨(u,d,l),rfl,⟨hu,hd,hl,hf⟩,hw⟩
theorem vo_ofW (n:Nat) (ps:List PV) (h:Sh Tryz.prog n 44 ps):∃ v:Vo,ps=voC v∧(fitVo v∧∀ i,i<v.2.length→wdL (v.2.getD i zB).2.2):=by
 cases n with
 | zero=>exact h.elim
 | succ n =>
  simp only [Sh,Tryz.underlying44,ShF] at h
  obtain ⟨_,_,rfl,h1,_,_,rfl,h2,rfl⟩:=h
  obtain ⟨nm,rfl,hn⟩:=sc_str h1
  obtain ⟨B,rfl,hB,_,hb⟩:=qbe (g:=brC) (q:=fun b=>qaw b∧wdL b.2.2) Tryz.underlying42 h2 fun m es _ hs=>bar_ofW m es hs
  rw [show Tryz.prog.bytesOf 47=40 from by kernel_rfl] at hb
  have hb':B.length*40≤140737488351232:=hb
  have hat:∀ i,i<B.length→qaw (B.getD i zB)∧wdL (B.getD i zB).2.2:=fun i hi=>by
   rw [List.getD_eq_getElem?_getD,List.getElem?_eq_getElem hi]
   exact hB _ (List.getElem_mem hi)
  exact ⟨(nm,B),rfl,⟨hn,by show B.length≤_;omega,fun i hi=>(hat i hi).1⟩,fun i hi=>(hat i hi).2⟩
/-! ### how many items -/
theorem pvws_mem {p:PV}:∀ {l:List PV},p∈l→pvw p≤wE l
 | [],h=>by cases h
 | q :: l,h=>by
  rw [wE]
  rcases List.mem_cons.1 h with rfl|h
  ·exact Nat.le_add_right _ _
  ·have:=pvws_mem h
   omega
theorem qjj {α:Type} {g:α→List PV} {x:α}:∀ {l:List α},x∈l→wE (g x)≤wE (l.flatMap g)
 | [],h=>by cases h
 | y :: l,h=>by
  rw [List.flatMap_cons,VS]
  rcases List.mem_cons.1 h with rfl|h
  ·exact Nat.le_add_right _ _
  ·have:=qjj (g:=g) h
   omega
theorem qbh {cs l:List PV} {o n:Nat} (h:PV.ssl cs o n∈l):wE cs+1≤wE l:=by
 have:=pvws_mem h
 rwa [pvw] at this
mutual
theorem cnI_pv:∀ x:It,cnI x≤wE (gI x)
 | .mk k s ps b ly ks=>by
  have h1:=cnL_pv ks
  have h2:wE (qO ks)+1≤wE (gI (.mk k s ps b ly ks)):=qbh (o:=0) (n:=ks.length) (by unfold gI;simp [iC])
  rw [cnI]
  omega
theorem cnL_pv:∀ l:List It,jT l≤wE (qO l)
 | []=>Nat.zero_le _
 | x :: l=>by
  have h1:=cnI_pv x
  have h2:=cnL_pv l
  rw [jT,Zz,List.flatMap_cons,VS,← Zz]
  omega
end
theorem vos_ofW (n:Nat) (p:PV) (h:Sh Tryz.prog n 22 [p]):∃ l:List Vo,p = .ssl (yJ l) 0 l.length∧qca l∧(wE [p]≤1048576→wdVs l):=by
 obtain ⟨l,h1,hl,_,hb⟩:=qbe (g:=voC) (q:=fun v=>fitVo v∧∀ i,i<v.2.length→wdL (v.2.getD i zB).2.2) Tryz.underlying22 h fun m es _ hs=>vo_ofW m es hs
 simp only [List.cons.injEq,and_true] at h1
 rw [show Tryz.prog.bytesOf 44=40 from by kernel_rfl] at hb
 have hb':l.length*40≤140737488351232:=hb
 have hm:∀ i,i<l.length→l.getD i qD∈l:=fun i hi=>by
  rw [List.getD_eq_getElem?_getD,List.getElem?_eq_getElem hi]
  exact List.getElem_mem hi
 refine ⟨l,h1,⟨by omega,fun i hi=>(hl _ (hm i hi)).1⟩,fun hp i hi j hj=>⟨(hl _ (hm i hi)).2 j hj,?_⟩⟩
 rw [h1] at hp
 have e1:wE (l.flatMap voC)+1≤wE [PV.ssl (l.flatMap voC) 0 l.length]:=qbh (List.mem_cons_self ..)
 have e2:=qjj (g:=voC) (hm i hi)
 have e3:wE (vF (l.getD i qD).2)+1≤wE (voC (l.getD i qD)):=qbh (o:=0) (n:=(l.getD i qD).2.length) (List.mem_cons_of_mem _ (List.mem_cons_self ..))
 have hm2:(l.getD i qD).2.getD j zB∈(l.getD i qD).2:=by
  generalize (l.getD i qD).2=B at hj
  rw [List.getD_eq_getElem?_getD,List.getElem?_eq_getElem hj]
  exact List.getElem_mem hj
 have e4:wE (brC ((l.getD i qD).2.getD j zB))≤wE (vF (l.getD i qD).2):=qjj (g:=brC) hm2
 have e5:wE (qO ((l.getD i qD).2.getD j zB).2.2)+1≤wE (brC ((l.getD i qD).2.getD j zB)):=qbh (o:=0) (n:=((l.getD i qD).2.getD j zB).2.2.length) (List.mem_cons_of_mem _ (List.mem_cons_of_mem _ (List.mem_cons_self ..)))
 have e6:=cnL_pv ((l.getD i qD).2.getD j zB).2.2
 omega
section
variable {H:Type} {enc:TypeId × Value→H}
theorem QZ {a:Assume} {C:Checked} {os:Os} {f:FuncId} {fn:Func} {s:OpenSpec} {k:(H:Type)→List (DataW H)→Bool} (hk:s.cond=some k) {F:Stop.Interp} {conds:List PathCond} {apart fresh handsOn again:Bool} {X:World→Array Value→Prop}
  (hX:∀ (w w':World) (args:Array Value),w.heap=w'.heap→X w args→X w' args)
  (own:ownKnob C.prog.godebug=none) (started:os.Started) (noInit:C.prog.inits.idxOf? f=none) (hfn:C.prog.funcs[f]? = some fn)
  (witness:∃ (w:World) (tape:Tape) (i:Input),w.os=os∧(w.forCall tape i).Shaped C.prog∧i.vars=[]∧Input.okWide C.prog (w.forCall tape i) .any w.heap.size f i ∧
   ((s.pre enc C.prog fn conds apart (w.forCall tape i).memory i.args∧X (w.forCall tape i).memory i.args)∧sizedMet enc C.prog fn s apart (w.forCall tape i).memory i.args)∧a.holds C.prog (lone (Frame.enter C.prog f i.args .normal) [] (w.forCall tape i)))
  (contract:∀ (W:World) (base:Nat) (args:Array Value) (ds gs:List (DataW H)) (before:List MemPlace),
   (∀ (j:Nat) t v,fn.params[j]? = some t→args[j]? = some v→Value.okWide C.prog W .any base t v) →
   DataW.Whole enc C.prog fn.params.toList s.vars apart W args.toList ds gs before →
   conds.all (PathCond.test C.prog ⟨fn.params.toList,ds,s.bare.plain.varTypes C.prog,gs⟩)=true→k H (ds++gs)=true →
   (DataW.weightsEach C.prog (fn.params.toList++s.bare.plain.varTypes C.prog) (ds++gs)).all (· ≤ reachBytes)=true→X W args →
   a.holds C.prog (lone (Frame.enter C.prog f args .normal) [] W) →
   Calls C.prog f args W fun e W'=>∃ v,e = .returned v∧(s.at F).post enc C.prog fn apart fresh handsOn again W args v W') :
  ReturnsInHanded a C os f .any (fun w args=>(s.pre enc C.prog fn conds apart w args∧X w args)∧sizedMet enc C.prog fn s apart w args) ((s.at F).post enc C.prog fn apart fresh handsOn again):=by
 refine returnsInHanded_of_calls own started noInit witness ?_
 intro w tape i _ _ _ hok hpre hholds
 obtain ⟨_,_,_,fn',hfn',_,_,_,_,hval⟩:=hok
 have e:fn'=fn:=Option.some.inj (hfn'.symm.trans hfn)
 subst e
 obtain ⟨⟨hp0,hx⟩,hz⟩:=hpre
 obtain ⟨ds,gs,before,hw,hc,hkk⟩:=(OpenSpec.pre_some hk conds apart _ _).1 hp0
 have hw':=DataW.Whole.of_heap (w':=w.forCall tape i) (by rfl) hw
 refine (contract (w.forCall tape i) w.heap.size i.args ds gs before hval hw' hc hkk (hz.weights hw) (hX _ _ _ (by rfl) hx) hholds).mono fun e W' ⟨v,he,hp⟩=>?_
 subst he
 exact ChangeSpec.post_blind hp
theorem WV {C:Checked} {os:Os} {f:FuncId} {fn:Func} {s:OpenSpec} {k:(H:Type)→List (DataW H)→Bool} (hk:s.cond=some k) {conds:List PathCond} {apart:Bool} {X:World→Array Value→Prop} (modest:Bool) (w0:World) (args:Array Value) (fuel:Nat) (hos:w0.os=os)
  (hsh:(w0.forCall (fun _ _=>0) ⟨#[],args,[]⟩).Shaped C.prog)
  (hok:Input.okWideB C.prog (w0.forCall (fun _ _=>0) ⟨#[],args,[]⟩) f ⟨#[],args,[]⟩=true)
  {x:List (DataW H) × List (DataW H) × List MemPlace} (hw:DataW.whole enc C.prog (w0.forCall (fun _ _=>0) ⟨#[],args,[]⟩).memory fn.params.toList s.vars apart args.toList fuel=some x)
  (hconds:conds.all (PathCond.test C.prog ⟨fn.params.toList,x.1,s.bare.plain.varTypes C.prog,x.2.1⟩)=true) (hkk:k H (x.1++x.2.1)=true)
  (hsz:s.bare.sizedB enc C.prog fn apart (w0.forCall (fun _ _=>0) ⟨#[],args,[]⟩).memory args fuel=true)
  (hx:X (w0.forCall (fun _ _=>0) ⟨#[],args,[]⟩).memory args) :
  ∃ (w:World) (tape:Tape) (i:Input),w.os=os∧(w.forCall tape i).Shaped C.prog∧i.vars=[]∧Input.okWide C.prog (w.forCall tape i) .any w.heap.size f i ∧
   ((s.pre enc C.prog fn conds apart (w.forCall tape i).memory i.args∧X (w.forCall tape i).memory i.args)∧sizedMet enc C.prog fn s apart (w.forCall tape i).memory i.args)∧({ modest:=modest }:Assume).holds C.prog (lone (Frame.enter C.prog f i.args .normal) [] (w.forCall tape i)) :=
 ⟨w0,fun _ _=>0,⟨#[],args,[]⟩,hos,hsh,(Input.okWide_of_okWideB (base:=0) hok).1,(Input.okWide_of_okWideB hok).2,⟨⟨(OpenSpec.pre_some hk conds apart _ _).2 ⟨x.1,x.2.1,x.2.2,DataW.Whole_of_whole hw,hconds,hkk⟩,hx⟩,sizedMet_of_sizedB hsz⟩,by
  simp only [Assume.holds]
  exact ⟨by simp,by simp,fun _=>Modest.zero,by simp,by simp⟩⟩
end
end Go.Proofs.YtmlnilkbolcknaaGreatDoor.Pm
