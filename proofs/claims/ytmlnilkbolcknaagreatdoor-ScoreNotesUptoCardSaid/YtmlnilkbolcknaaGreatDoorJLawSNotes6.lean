/-
  A piece written: items: walk. (Printed by wip/pm.) | A piece written: walk. (Printed by wip/pm.) | SCORE: plain: how many notes there can be. No program in sight. | ScoreNotes: walk. (Printed by wip/pm.) | THE VALUE MACHINE (Open): whatever came in,by its type: numbers,truth values,floats,strings,slices and structs of such,as deep as they are. | What came in,at its types: lists of numbers,lists of such;how much they hold. | SCORE: items,bars,voices that came in. | SCORE: items,bars,voices that came in: the signs of their pitches;how many items there can be. | THE WRAP for a row whose specification bears a condition of its own AND lists variables.
-/
import Derived.Test.YtmlnilkbolcknaaGreatDoorJLawSNotes5
import Derived.Test.YtmlnilkbolcknaaGreatDoorJLawSNotes4
import Derived.Test.YtmlnilkbolcknaaGreatDoorJLawSNotes2
import Derived.Test.YtmlnilkbolcknaaGreatDoorJLawSNotes3
import Derived.Deep.CondSized
import Derived.Handed
import Derived.LaidLaws
import Derived.LaidOnce
set_option linter.unusedVariables false
set_option linter.unusedSimpArgs false
set_option linter.deprecated false
set_option maxRecDepth 100000
set_option maxHeartbeats 4000000
namespace Go.Proofs.YtmlnilkbolcknaaGreatDoor.Pm
open Go Go.Proofs.YtmlnilkbolcknaaGreatDoor.Pi
theorem pitem_step (y:It) (t:qP) (ihL:∀ (l:List It) (t:qP),SizeOf.sizeOf l<SizeOf.sizeOf y→t.length+(qZ l).length≤140737488355328→wx l→l.length≤1466015503658→prL l→PC Tryz.prog 29 [.opt 0 0,.ssl (qN l) 0 l.length] [some (77,[(.opn 0 0),(.osl 1 0 t.length)]),some (5,(qS t))] (.tup []) [some (77,[(.opn 0 0),(.osl 2 0 ((t++qZ l:qP).length))]),none,some (5,(qS (t++qZ l)))]) (hb:t.length+(zP y).length≤140737488355328) (hfx:QO y) (hpr0:prI y):PC Tryz.prog 62 [(.opt 0 0),(.agg [(iv (iK y)),(iv (iS y)),(.ssl (zF (iP y)) 0 ((iP y).length)),(iv ((iB y).1)),(iv ((iB y).2)),(sv (st (iL y))),(.ssl (qN (iC y)) 0 ((iC y).length))])] [some (77,[(.opn 0 0),(.osl 1 0 t.length)]),some (5,(qS t))] (.tup []) [some (77,[(.opn 0 0),(.osl 2 0 ((t++zP y:qP).length))]),none,some (5,(qS (t++zP y)))]:=by
 obtain ⟨hx1,hx2,hx3,hx4,hx5⟩:=(jH y).1 hfx
 have hpr:=pr_item hpr0
 have hL1:=it_len y
 refine zH Tryz.func62 rfl (by kernel_rfl) (Nat.le_of_ble_eq_true rfl) (by kernel_rfl) (l0:=[ps 0 (.opt 0 0),ps 1 (.agg [(iv (iK y)),(iv (iS y)),(.ssl (zF (iP y)) 0 ((iP y).length)),(iv ((iB y).1)),(iv ((iB y).2)),(sv (st (iL y))),(.ssl (qN (iC y)) 0 ((iC y).length))]),pb 0 77 [(.opn 0 0),(.osl 1 0 t.length)],pb 1 5 (qS t)]) rfl (fun c0 Bor hc0=>?_)
 refine qA<|qK mxd [.k1,.d,.n,.k2,.n] [ps 3 (.opt 2 0),pb 2 50 [(iv (iK y)),(iv (iS y)),(.ssl (zF (iP y)) 0 ((iP y).length)),(iv ((iB y).1)),(iv ((iB y).2)),(sv (st (iL y))),(.ssl (qN (iC y)) 0 ((iC y).length))]]<|qA<|qA<|qK mxd [.k2,.n,.r] [ps 7 (iv (iK y))]<|qU<|qA<|qK mxd [.k3,.n,.r] [ps 36 (bv (decide ((iK y)=2)))] ?_
 by_cases h1:(iK y)=2
 ·refine qQ (zO h1) ?_
  have hM:qD y=[45]:=by unfold qD;rw [if_pos (by omega)]
  have hM2:=congrArg List.length hM
  try simp only [List.length_append,List.length_cons,List.length_nil] at hM2
  refine zX mxd [(3,.call [0,1] [(.opt 0 0),(.av (.int .u8 45))] [some (77,[(.opn 0 0),(.osl 1 0 t.length)]),some (5,(qS t))] (.av .nilIface) [some (77,[(.opn 0 0),(.osl 2 0 ((t++[45]:qP).length))]),none,some (5,(qS (t++[45])))])] [.k2,.d,.d,.d,.n,.d,.k1,.n] [pb 0 77 [(.opn 0 0),(.osl 66 0 ((t++[45]:qP).length))],pb 66 5 (qM (yH [0,1] 66) (qS (t++[45])))] (oc (YV t 45 (by (first|omega|(simp only [List.length_append,List.length_cons,List.length_nil];omega)))) (oc (rfl:[(.opt 0 0),(.av (.int .u8 45))]=qM (qY [0,1] 66) [(.opt 0 0),(.av (.int .u8 45))]) (oc (rfl:[(.opn 0 0),(.osl 1 0 t.length)]=qM (qY [0,1] 66) [(.opn 0 0),(.osl 1 0 t.length)]) (oc ((qG (qI _)).symm:(qS t)=qM (qY [0,1] 66) (qS t)) oz))))<|zE<|qX (Wk.eq (show _=[ps 0 (.opt 0 0),ps 3 (.opt 2 0),pb 0 77 [(.opn 0 0),(.osl 66 0 ((t++[45]:qP).length))],pb 2 50 [(iv (iK y)),(iv (iS y)),(.ssl (zF (iP y)) 0 ((iP y).length)),(iv ((iB y).1)),(iv ((iB y).2)),(sv (st (iL y))),(.ssl (qN (iC y)) 0 ((iC y).length))],pb 66 5 (qS (t++[45]))] from by simp only [qG (qI _)])) ?_
  refine qA<|qA<|qX (Wk.eq (show _=[ps 0 (.opt 0 0),ps 3 (.opt 2 0),pb 0 77 [(.opn 0 0),(.osl 66 0 ((t++qD y:qP).length))],pb 2 50 [(iv (iK y)),(iv (iS y)),(.ssl (zF (iP y)) 0 ((iP y).length)),(iv ((iB y).1)),(iv ((iB y).2)),(sv (st (iL y))),(.ssl (qN (iC y)) 0 ((iC y).length))],pb 66 5 (qS (t++qD y))] from by rw [hM];try simp only [List.append_assoc,List.cons_append,List.nil_append])) ?_
  refine qK mxd [.k2,.n,.r] [ps 56 (bv (!(decide ((iS y)=1))))] ?_
  by_cases h2:(iS y)=1
  ·refine qT (bt h2)<|qE<|qA ?_
   have hS:qH (iS y)=[]:=if_pos (by omega)
   refine qX (Wk.eq (show _=[ps 0 (.opt 0 0),ps 3 (.opt 2 0),ps 56 (bv (!(decide ((iS y)=1)))),pb 0 77 [(.opn 0 0),(.osl 66 0 ((t++qD y++qH (iS y):qP).length))],pb 2 50 [(iv (iK y)),(iv (iS y)),(.ssl (zF (iP y)) 0 ((iP y).length)),(iv ((iB y).1)),(iv ((iB y).2)),(sv (st (iL y))),(.ssl (qN (iC y)) 0 ((iC y).length))],pb 66 5 (qS (t++qD y++qH (iS y)))] from by rw [hS];rw [List.append_nil])) ?_
   refine zX mxd [(2,.val (.av (.bool (!decide ((iL y)=([]:TX))))))] [.k2,.d,.n,.r] [ps 67 (bv (!(decide ((iL y)=([]:TX)))))] (oc (jA _ _:(!((st (iL y)).toList == (st ([]:TX)).toList)) = !decide ((iL y)=([]:TX))) oz) ?_
   by_cases h3:(iL y)=([]:TX)
   ·refine qT (bt h3)<|qE ?_
    have hT:t++zP y=t++qD y++qH (iS y):=by rw [yU,show lyT (iL y)=[] from if_pos (by assumption),List.append_nil,List.append_assoc]
    exact fun cx_ a_ hI_=>zU (H':=[some (77,[(.opn 0 0),(.osl 2 0 ((t++zP y:qP).length))]),none,some (5,(qS (t++zP y)))]) (.inl rfl) (Wk.trans (Wk.eq (show _=[ps 0 (.opt 0 0),ps 3 (.opt 2 0),ps 67 (bv (!(decide ((iL y)=([]:TX))))),pb 0 77 [(.opn 0 0),(.osl 66 0 ((t++zP y:qP).length))],pb 2 50 [(iv (iK y)),(iv (iS y)),(.ssl (zF (iP y)) 0 ((iP y).length)),(iv ((iB y).1)),(iv ((iB y).2)),(sv (st (iL y))),(.ssl (qN (iC y)) 0 ((iC y).length))],pb 66 5 (qS (t++zP y))] from by rw [hT])) (Wk.ren3 [pb 0 77 [(.opn 0 0),(.osl 2 0 ((t++zP y:qP).length))],pb 2 5 (qS (t++zP y))] 2 hc0 [0,1,66] [(kb 2,(qS (t++zP y)))] (oc (qI _) (oz)) (by kernel_rfl) rfl rfl (by kernel_rfl) (by kernel_rfl))) rfl (oc rfl (oc rfl (oz))) (fun cx_ a_ hI_=>zK (l':=[pb 0 77 [(.opn 0 0),(.osl 2 0 ((t++zP y:qP).length))],pb 2 5 (qS (t++zP y))]) (by kernel_rfl) cx_ a_ hI_) hI_
   refine qQ (bf h3) ?_
   have hY:lyT (iL y)=[32,34]++iL y++[34]:=if_neg (by assumption)
   have hY2:=congrArg List.length hY
   simp only [List.length_append,List.length_cons,List.length_nil] at hY2
   refine wQ mxd [(5,.val (.av (.string (st (([32,34]:TX)++(iL y)))))),(6,.val (.av (.string (st ((([32,34]:TX)++(iL y))++([34]:TX)))))),(7,.call [0,66] [(.opt 0 0),(sv (st ((([32,34]:TX)++(iL y))++([34]:TX))))] [some (77,[(.opn 0 0),(.osl 1 0 ((t++qD y++qH (iS y):qP).length))]),some (5,(qS (t++qD y++qH (iS y))))] (.tup [(nv ((((([32,34]:TX)++(iL y))++([34]:TX))).length)),(.av .nilIface)]) [some (77,[(.opn 0 0),(.osl 2 0 (((t++qD y++qH (iS y))++((([32,34]:TX)++(iL y))++([34]:TX)):qP).length))]),none,some (5,(qS ((t++qD y++qH (iS y))++((([32,34]:TX)++(iL y))++([34]:TX)))))])] [[],[0],[0,1],[],[3],[3,4],[3,4,5],[0,1,2,3,4,5,6]] [([136],[0]),([138],[136]),([140],[138]),([142],[6]),([144],[5,142]),([146],[144]),([148],[146]),([150,1,133,357],[1,133,140,148])] [pb 0 77 [(.opn 0 0),(.osl 178 0 (((t++qD y++qH (iS y))++((([32,34]:TX)++(iL y))++([34]:TX)):qP).length))],pb 178 5 (qM (yH [0,66] 178) (qS ((t++qD y++qH (iS y))++((([32,34]:TX)++(iL y))++([34]:TX)))))] (oc (by first|omega|(simp <;> omega):((([32,34]:TX).length+(iL y).length:Nat):Int)≤9223372036854775807) (oc (qJ _ _:st ([32,34]:TX)++st (iL y)=st (([32,34]:TX)++(iL y))) (oc (by first|omega|(simp <;> omega):(((([32,34]:TX)++(iL y)).length+([34]:TX).length:Nat):Int)≤9223372036854775807) (oc (qJ _ _:st (([32,34]:TX)++(iL y))++st ([34]:TX)=st ((([32,34]:TX)++(iL y))++([34]:TX))) (oc (wv (t++qD y++qH (iS y)) ((([32,34]:TX)++(iL y))++([34]:TX)) (by (first|omega|(simp only [List.length_append,List.length_cons,List.length_nil];omega)))) (oc (rfl:[(.opt 0 0),(sv (st ((([32,34]:TX)++(iL y))++([34]:TX))))]=qM (qY [0,66] 178) [(.opt 0 0),(sv (st ((([32,34]:TX)++(iL y))++([34]:TX))))]) (oc (rfl:[(.opn 0 0),(.osl 66 0 ((t++qD y++qH (iS y):qP).length))]=qM (qY [0,66] 178) [(.opn 0 0),(.osl 1 0 ((t++qD y++qH (iS y):qP).length))]) (oc ((qG (qI _)).symm:(qS (t++qD y++qH (iS y)))=qM (qY [0,66] 178) (qS (t++qD y++qH (iS y)))) oz)))))))) ?_
   have hT:t++zP y=t++qD y++qH (iS y)++([32,34]++iL y++[34]):=by rw [yU,hY];simp only [List.append_assoc]
   exact fun cx_ a_ hI_=>zU (H':=[some (77,[(.opn 0 0),(.osl 2 0 ((t++zP y:qP).length))]),none,some (5,(qS (t++zP y)))]) (.inl rfl) (Wk.trans (Wk.eq (show _=[pb 0 77 [(.opn 0 0),(.osl 178 0 (((t++qD y++qH (iS y))++((([32,34]:TX)++(iL y))++([34]:TX)):qP).length))],pb 178 5 (qS ((t++qD y++qH (iS y))++((([32,34]:TX)++(iL y))++([34]:TX))))] from by simp only [qG (qI _)])) (Wk.trans (Wk.eq (show _=[pb 0 77 [(.opn 0 0),(.osl 178 0 ((t++zP y:qP).length))],pb 178 5 (qS (t++zP y))] from by rw [hT])) (Wk.ren3 [pb 0 77 [(.opn 0 0),(.osl 2 0 ((t++zP y:qP).length))],pb 2 5 (qS (t++zP y))] 2 hc0 [0,1,178] [(kb 2,(qS (t++zP y)))] (oc (qI _) (oz)) (by kernel_rfl) rfl rfl (by kernel_rfl) (by kernel_rfl)))) rfl (oc rfl (oc rfl (oz))) (fun cx_ a_ hI_=>zK (l':=[pb 0 77 [(.opn 0 0),(.osl 2 0 ((t++zP y:qP).length))],pb 2 5 (qS (t++zP y))]) (by kernel_rfl) cx_ a_ hI_) hI_
  refine qQ (bf h2) ?_
  have hS:qH (iS y)=[42]++Lib.itoa (iS y):=if_neg (by omega)
  have hS2:=congrArg List.length hS
  simp only [List.length_append,List.length_cons,List.length_nil] at hS2
  have hIt:=Lib.itoa_length_le (iS y) (by omega) (by omega)
  refine QJ mxd [(5,.call [] [(iv (iS y))] [] (sv (st (Lib.itoa (iS y)))) []),(6,.val (.av (.string (st (([42]:TX)++(Lib.itoa (iS y))))))),(7,.call [0,66] [(.opt 0 0),(sv (st (([42]:TX)++(Lib.itoa (iS y)))))] [some (77,[(.opn 0 0),(.osl 1 0 ((t++qD y:qP).length))]),some (5,(qS (t++qD y)))] (.tup [(nv (((([42]:TX)++(Lib.itoa (iS y)))).length)),(.av .nilIface)]) [some (77,[(.opn 0 0),(.osl 2 0 (((t++qD y)++(([42]:TX)++(Lib.itoa (iS y))):qP).length))]),none,some (5,(qS ((t++qD y)++(([42]:TX)++(Lib.itoa (iS y))))))])] [[],[0],[0,1],[],[3],[3,4],[3,4,5],[0,1,2,3,4,5,6]] [([114],[0]),([116],[114]),([118],[116]),([120],[6]),([122],[5,120]),([124],[122]),([126],[124]),([128,1,133,309],[1,118,126,133])] [.k2,.d,.d,.n,.k1,.d,.n] [pb 0 77 [(.opn 0 0),(.osl 154 0 (((t++qD y)++(([42]:TX)++(Lib.itoa (iS y))):qP).length))],pb 154 5 (qM (yH [0,66] 154) (qS ((t++qD y)++(([42]:TX)++(Lib.itoa (iS y))))))] (yC 138 (zx (iS y) (by omega) (by omega)) (oc (by first|omega|(simp <;> omega):((([42]:TX).length+(Lib.itoa (iS y)).length:Nat):Int)≤9223372036854775807) (oc (qJ _ _:st ([42]:TX)++st (Lib.itoa (iS y))=st (([42]:TX)++(Lib.itoa (iS y)))) (oc (wv (t++qD y) (([42]:TX)++(Lib.itoa (iS y))) (by (first|omega|(simp only [List.length_append,List.length_cons,List.length_nil];omega)))) (oc (rfl:[(.opt 0 0),(sv (st (([42]:TX)++(Lib.itoa (iS y)))))]=qM (qY [0,66] 154) [(.opt 0 0),(sv (st (([42]:TX)++(Lib.itoa (iS y)))))]) (oc (rfl:[(.opn 0 0),(.osl 66 0 ((t++qD y:qP).length))]=qM (qY [0,66] 154) [(.opn 0 0),(.osl 1 0 ((t++qD y:qP).length))]) (oc ((qG (qI _)).symm:(qS (t++qD y))=qM (qY [0,66] 154) (qS (t++qD y))) oz)))))))<|qX (Wk.eq (show _=[ps 0 (.opt 0 0),ps 3 (.opt 2 0),pb 0 77 [(.opn 0 0),(.osl 154 0 (((t++qD y)++(([42]:TX)++(Lib.itoa (iS y))):qP).length))],pb 2 50 [(iv (iK y)),(iv (iS y)),(.ssl (zF (iP y)) 0 ((iP y).length)),(iv ((iB y).1)),(iv ((iB y).2)),(sv (st (iL y))),(.ssl (qN (iC y)) 0 ((iC y).length))],pb 154 5 (qS ((t++qD y)++(([42]:TX)++(Lib.itoa (iS y)))))] from by simp only [qG (qI _)])) ?_
  refine qA<|qX (Wk.eq (show _=[ps 0 (.opt 0 0),ps 3 (.opt 2 0),pb 0 77 [(.opn 0 0),(.osl 154 0 ((t++qD y++qH (iS y):qP).length))],pb 2 50 [(iv (iK y)),(iv (iS y)),(.ssl (zF (iP y)) 0 ((iP y).length)),(iv ((iB y).1)),(iv ((iB y).2)),(sv (st (iL y))),(.ssl (qN (iC y)) 0 ((iC y).length))],pb 154 5 (qS (t++qD y++qH (iS y)))] from by rw [hS])) ?_
  refine zX mxd [(2,.val (.av (.bool (!decide ((iL y)=([]:TX))))))] [.k2,.n,.r] [ps 67 (bv (!(decide ((iL y)=([]:TX)))))] (oc (jA _ _:(!((st (iL y)).toList == (st ([]:TX)).toList)) = !decide ((iL y)=([]:TX))) oz) ?_
  by_cases h4:(iL y)=([]:TX)
  ·refine qT (bt h4)<|qE ?_
   have hT:t++zP y=t++qD y++qH (iS y):=by rw [yU,show lyT (iL y)=[] from if_pos (by assumption),List.append_nil,List.append_assoc]
   exact fun cx_ a_ hI_=>zU (H':=[some (77,[(.opn 0 0),(.osl 2 0 ((t++zP y:qP).length))]),none,some (5,(qS (t++zP y)))]) (.inl rfl) (Wk.trans (Wk.eq (show _=[ps 0 (.opt 0 0),ps 3 (.opt 2 0),ps 67 (bv (!(decide ((iL y)=([]:TX))))),pb 0 77 [(.opn 0 0),(.osl 154 0 ((t++zP y:qP).length))],pb 2 50 [(iv (iK y)),(iv (iS y)),(.ssl (zF (iP y)) 0 ((iP y).length)),(iv ((iB y).1)),(iv ((iB y).2)),(sv (st (iL y))),(.ssl (qN (iC y)) 0 ((iC y).length))],pb 154 5 (qS (t++zP y))] from by rw [hT])) (Wk.ren3 [pb 0 77 [(.opn 0 0),(.osl 2 0 ((t++zP y:qP).length))],pb 2 5 (qS (t++zP y))] 2 hc0 [0,1,154] [(kb 2,(qS (t++zP y)))] (oc (qI _) (oz)) (by kernel_rfl) rfl rfl (by kernel_rfl) (by kernel_rfl))) rfl (oc rfl (oc rfl (oz))) (fun cx_ a_ hI_=>zK (l':=[pb 0 77 [(.opn 0 0),(.osl 2 0 ((t++zP y:qP).length))],pb 2 5 (qS (t++zP y))]) (by kernel_rfl) cx_ a_ hI_) hI_
  refine qQ (bf h4) ?_
  have hY:lyT (iL y)=[32,34]++iL y++[34]:=if_neg (by assumption)
  have hY2:=congrArg List.length hY
  simp only [List.length_append,List.length_cons,List.length_nil] at hY2
  refine wQ mxd [(5,.val (.av (.string (st (([32,34]:TX)++(iL y)))))),(6,.val (.av (.string (st ((([32,34]:TX)++(iL y))++([34]:TX)))))),(7,.call [0,154] [(.opt 0 0),(sv (st ((([32,34]:TX)++(iL y))++([34]:TX))))] [some (77,[(.opn 0 0),(.osl 1 0 ((t++qD y++qH (iS y):qP).length))]),some (5,(qS (t++qD y++qH (iS y))))] (.tup [(nv ((((([32,34]:TX)++(iL y))++([34]:TX))).length)),(.av .nilIface)]) [some (77,[(.opn 0 0),(.osl 2 0 (((t++qD y++qH (iS y))++((([32,34]:TX)++(iL y))++([34]:TX)):qP).length))]),none,some (5,(qS ((t++qD y++qH (iS y))++((([32,34]:TX)++(iL y))++([34]:TX)))))])] [[],[0],[0,1],[],[3],[3,4],[3,4,5],[0,1,2,3,4,5,6]] [([136],[0]),([138],[136]),([140],[138]),([142],[6]),([144],[5,142]),([146],[144]),([148],[146]),([150,1,309,485],[1,140,148,309])] [pb 0 77 [(.opn 0 0),(.osl 242 0 (((t++qD y++qH (iS y))++((([32,34]:TX)++(iL y))++([34]:TX)):qP).length))],pb 242 5 (qM (yH [0,154] 242) (qS ((t++qD y++qH (iS y))++((([32,34]:TX)++(iL y))++([34]:TX)))))] (oc (by first|omega|(simp <;> omega):((([32,34]:TX).length+(iL y).length:Nat):Int)≤9223372036854775807) (oc (qJ _ _:st ([32,34]:TX)++st (iL y)=st (([32,34]:TX)++(iL y))) (oc (by first|omega|(simp <;> omega):(((([32,34]:TX)++(iL y)).length+([34]:TX).length:Nat):Int)≤9223372036854775807) (oc (qJ _ _:st (([32,34]:TX)++(iL y))++st ([34]:TX)=st ((([32,34]:TX)++(iL y))++([34]:TX))) (oc (wv (t++qD y++qH (iS y)) ((([32,34]:TX)++(iL y))++([34]:TX)) (by (first|omega|(simp only [List.length_append,List.length_cons,List.length_nil];omega)))) (oc (rfl:[(.opt 0 0),(sv (st ((([32,34]:TX)++(iL y))++([34]:TX))))]=qM (qY [0,154] 242) [(.opt 0 0),(sv (st ((([32,34]:TX)++(iL y))++([34]:TX))))]) (oc (rfl:[(.opn 0 0),(.osl 154 0 ((t++qD y++qH (iS y):qP).length))]=qM (qY [0,154] 242) [(.opn 0 0),(.osl 1 0 ((t++qD y++qH (iS y):qP).length))]) (oc ((qG (qI _)).symm:(qS (t++qD y++qH (iS y)))=qM (qY [0,154] 242) (qS (t++qD y++qH (iS y)))) oz)))))))) ?_
  have hT:t++zP y=t++qD y++qH (iS y)++([32,34]++iL y++[34]):=by rw [yU,hY];simp only [List.append_assoc]
  exact fun cx_ a_ hI_=>zU (H':=[some (77,[(.opn 0 0),(.osl 2 0 ((t++zP y:qP).length))]),none,some (5,(qS (t++zP y)))]) (.inl rfl) (Wk.trans (Wk.eq (show _=[pb 0 77 [(.opn 0 0),(.osl 242 0 (((t++qD y++qH (iS y))++((([32,34]:TX)++(iL y))++([34]:TX)):qP).length))],pb 242 5 (qS ((t++qD y++qH (iS y))++((([32,34]:TX)++(iL y))++([34]:TX))))] from by simp only [qG (qI _)])) (Wk.trans (Wk.eq (show _=[pb 0 77 [(.opn 0 0),(.osl 242 0 ((t++zP y:qP).length))],pb 242 5 (qS (t++zP y))] from by rw [hT])) (Wk.ren3 [pb 0 77 [(.opn 0 0),(.osl 2 0 ((t++zP y:qP).length))],pb 2 5 (qS (t++zP y))] 2 hc0 [0,1,242] [(kb 2,(qS (t++zP y)))] (oc (qI _) (oz)) (by kernel_rfl) rfl rfl (by kernel_rfl) (by kernel_rfl)))) rfl (oc rfl (oc rfl (oz))) (fun cx_ a_ hI_=>zK (l':=[pb 0 77 [(.opn 0 0),(.osl 2 0 ((t++zP y:qP).length))],pb 2 5 (qS (t++zP y))]) (by kernel_rfl) cx_ a_ hI_) hI_
 refine qT (zM h1)<|qA<|qK mxd [.k3,.d,.n,.r] [ps 42 (bv (decide ((iK y)=3)))] ?_
 by_cases h5:(iK y)=3
 ·refine qQ (zO h5) ?_
  have hM:qD y=[126]:=by unfold qD;rw [if_neg (by omega),if_pos (by omega)]
  have hM2:=congrArg List.length hM
  try simp only [List.length_append,List.length_cons,List.length_nil] at hM2
  refine zX mxd [(3,.call [0,1] [(.opt 0 0),(.av (.int .u8 126))] [some (77,[(.opn 0 0),(.osl 1 0 t.length)]),some (5,(qS t))] (.av .nilIface) [some (77,[(.opn 0 0),(.osl 2 0 ((t++[126]:qP).length))]),none,some (5,(qS (t++[126])))])] [.k2,.d,.d,.d,.n,.d,.k1,.n] [pb 0 77 [(.opn 0 0),(.osl 82 0 ((t++[126]:qP).length))],pb 82 5 (qM (yH [0,1] 82) (qS (t++[126])))] (oc (YV t 126 (by (first|omega|(simp only [List.length_append,List.length_cons,List.length_nil];omega)))) (oc (rfl:[(.opt 0 0),(.av (.int .u8 126))]=qM (qY [0,1] 82) [(.opt 0 0),(.av (.int .u8 126))]) (oc (rfl:[(.opn 0 0),(.osl 1 0 t.length)]=qM (qY [0,1] 82) [(.opn 0 0),(.osl 1 0 t.length)]) (oc ((qG (qI _)).symm:(qS t)=qM (qY [0,1] 82) (qS t)) oz))))<|zE<|qX (Wk.eq (show _=[ps 0 (.opt 0 0),ps 3 (.opt 2 0),pb 0 77 [(.opn 0 0),(.osl 82 0 ((t++[126]:qP).length))],pb 2 50 [(iv (iK y)),(iv (iS y)),(.ssl (zF (iP y)) 0 ((iP y).length)),(iv ((iB y).1)),(iv ((iB y).2)),(sv (st (iL y))),(.ssl (qN (iC y)) 0 ((iC y).length))],pb 82 5 (qS (t++[126]))] from by simp only [qG (qI _)])) ?_
  refine qA<|qA<|qX (Wk.eq (show _=[ps 0 (.opt 0 0),ps 3 (.opt 2 0),pb 0 77 [(.opn 0 0),(.osl 82 0 ((t++qD y:qP).length))],pb 2 50 [(iv (iK y)),(iv (iS y)),(.ssl (zF (iP y)) 0 ((iP y).length)),(iv ((iB y).1)),(iv ((iB y).2)),(sv (st (iL y))),(.ssl (qN (iC y)) 0 ((iC y).length))],pb 82 5 (qS (t++qD y))] from by rw [hM];try simp only [List.append_assoc,List.cons_append,List.nil_append])) ?_
  refine qK mxd [.k2,.n,.r] [ps 56 (bv (!(decide ((iS y)=1))))] ?_
  by_cases h6:(iS y)=1
  ·refine qT (bt h6)<|qE<|qA ?_
   have hS:qH (iS y)=[]:=if_pos (by omega)
   refine qX (Wk.eq (show _=[ps 0 (.opt 0 0),ps 3 (.opt 2 0),ps 56 (bv (!(decide ((iS y)=1)))),pb 0 77 [(.opn 0 0),(.osl 82 0 ((t++qD y++qH (iS y):qP).length))],pb 2 50 [(iv (iK y)),(iv (iS y)),(.ssl (zF (iP y)) 0 ((iP y).length)),(iv ((iB y).1)),(iv ((iB y).2)),(sv (st (iL y))),(.ssl (qN (iC y)) 0 ((iC y).length))],pb 82 5 (qS (t++qD y++qH (iS y)))] from by rw [hS];rw [List.append_nil])) ?_
   refine zX mxd [(2,.val (.av (.bool (!decide ((iL y)=([]:TX))))))] [.k2,.d,.n,.r] [ps 67 (bv (!(decide ((iL y)=([]:TX)))))] (oc (jA _ _:(!((st (iL y)).toList == (st ([]:TX)).toList)) = !decide ((iL y)=([]:TX))) oz) ?_
   by_cases h7:(iL y)=([]:TX)
   ·refine qT (bt h7)<|qE ?_
    have hT:t++zP y=t++qD y++qH (iS y):=by rw [yU,show lyT (iL y)=[] from if_pos (by assumption),List.append_nil,List.append_assoc]
    exact fun cx_ a_ hI_=>zU (H':=[some (77,[(.opn 0 0),(.osl 2 0 ((t++zP y:qP).length))]),none,some (5,(qS (t++zP y)))]) (.inl rfl) (Wk.trans (Wk.eq (show _=[ps 0 (.opt 0 0),ps 3 (.opt 2 0),ps 67 (bv (!(decide ((iL y)=([]:TX))))),pb 0 77 [(.opn 0 0),(.osl 82 0 ((t++zP y:qP).length))],pb 2 50 [(iv (iK y)),(iv (iS y)),(.ssl (zF (iP y)) 0 ((iP y).length)),(iv ((iB y).1)),(iv ((iB y).2)),(sv (st (iL y))),(.ssl (qN (iC y)) 0 ((iC y).length))],pb 82 5 (qS (t++zP y))] from by rw [hT])) (Wk.ren3 [pb 0 77 [(.opn 0 0),(.osl 2 0 ((t++zP y:qP).length))],pb 2 5 (qS (t++zP y))] 2 hc0 [0,1,82] [(kb 2,(qS (t++zP y)))] (oc (qI _) (oz)) (by kernel_rfl) rfl rfl (by kernel_rfl) (by kernel_rfl))) rfl (oc rfl (oc rfl (oz))) (fun cx_ a_ hI_=>zK (l':=[pb 0 77 [(.opn 0 0),(.osl 2 0 ((t++zP y:qP).length))],pb 2 5 (qS (t++zP y))]) (by kernel_rfl) cx_ a_ hI_) hI_
   refine qQ (bf h7) ?_
   have hY:lyT (iL y)=[32,34]++iL y++[34]:=if_neg (by assumption)
   have hY2:=congrArg List.length hY
   simp only [List.length_append,List.length_cons,List.length_nil] at hY2
   refine wQ mxd [(5,.val (.av (.string (st (([32,34]:TX)++(iL y)))))),(6,.val (.av (.string (st ((([32,34]:TX)++(iL y))++([34]:TX)))))),(7,.call [0,82] [(.opt 0 0),(sv (st ((([32,34]:TX)++(iL y))++([34]:TX))))] [some (77,[(.opn 0 0),(.osl 1 0 ((t++qD y++qH (iS y):qP).length))]),some (5,(qS (t++qD y++qH (iS y))))] (.tup [(nv ((((([32,34]:TX)++(iL y))++([34]:TX))).length)),(.av .nilIface)]) [some (77,[(.opn 0 0),(.osl 2 0 (((t++qD y++qH (iS y))++((([32,34]:TX)++(iL y))++([34]:TX)):qP).length))]),none,some (5,(qS ((t++qD y++qH (iS y))++((([32,34]:TX)++(iL y))++([34]:TX)))))])] [[],[0],[0,1],[],[3],[3,4],[3,4,5],[0,1,2,3,4,5,6]] [([136],[0]),([138],[136]),([140],[138]),([142],[6]),([144],[5,142]),([146],[144]),([148],[146]),([150,1,165,389],[1,140,148,165])] [pb 0 77 [(.opn 0 0),(.osl 194 0 (((t++qD y++qH (iS y))++((([32,34]:TX)++(iL y))++([34]:TX)):qP).length))],pb 194 5 (qM (yH [0,82] 194) (qS ((t++qD y++qH (iS y))++((([32,34]:TX)++(iL y))++([34]:TX)))))] (oc (by first|omega|(simp <;> omega):((([32,34]:TX).length+(iL y).length:Nat):Int)≤9223372036854775807) (oc (qJ _ _:st ([32,34]:TX)++st (iL y)=st (([32,34]:TX)++(iL y))) (oc (by first|omega|(simp <;> omega):(((([32,34]:TX)++(iL y)).length+([34]:TX).length:Nat):Int)≤9223372036854775807) (oc (qJ _ _:st (([32,34]:TX)++(iL y))++st ([34]:TX)=st ((([32,34]:TX)++(iL y))++([34]:TX))) (oc (wv (t++qD y++qH (iS y)) ((([32,34]:TX)++(iL y))++([34]:TX)) (by (first|omega|(simp only [List.length_append,List.length_cons,List.length_nil];omega)))) (oc (rfl:[(.opt 0 0),(sv (st ((([32,34]:TX)++(iL y))++([34]:TX))))]=qM (qY [0,82] 194) [(.opt 0 0),(sv (st ((([32,34]:TX)++(iL y))++([34]:TX))))]) (oc (rfl:[(.opn 0 0),(.osl 82 0 ((t++qD y++qH (iS y):qP).length))]=qM (qY [0,82] 194) [(.opn 0 0),(.osl 1 0 ((t++qD y++qH (iS y):qP).length))]) (oc ((qG (qI _)).symm:(qS (t++qD y++qH (iS y)))=qM (qY [0,82] 194) (qS (t++qD y++qH (iS y)))) oz)))))))) ?_
   have hT:t++zP y=t++qD y++qH (iS y)++([32,34]++iL y++[34]):=by rw [yU,hY];simp only [List.append_assoc]
   exact fun cx_ a_ hI_=>zU (H':=[some (77,[(.opn 0 0),(.osl 2 0 ((t++zP y:qP).length))]),none,some (5,(qS (t++zP y)))]) (.inl rfl) (Wk.trans (Wk.eq (show _=[pb 0 77 [(.opn 0 0),(.osl 194 0 (((t++qD y++qH (iS y))++((([32,34]:TX)++(iL y))++([34]:TX)):qP).length))],pb 194 5 (qS ((t++qD y++qH (iS y))++((([32,34]:TX)++(iL y))++([34]:TX))))] from by simp only [qG (qI _)])) (Wk.trans (Wk.eq (show _=[pb 0 77 [(.opn 0 0),(.osl 194 0 ((t++zP y:qP).length))],pb 194 5 (qS (t++zP y))] from by rw [hT])) (Wk.ren3 [pb 0 77 [(.opn 0 0),(.osl 2 0 ((t++zP y:qP).length))],pb 2 5 (qS (t++zP y))] 2 hc0 [0,1,194] [(kb 2,(qS (t++zP y)))] (oc (qI _) (oz)) (by kernel_rfl) rfl rfl (by kernel_rfl) (by kernel_rfl)))) rfl (oc rfl (oc rfl (oz))) (fun cx_ a_ hI_=>zK (l':=[pb 0 77 [(.opn 0 0),(.osl 2 0 ((t++zP y:qP).length))],pb 2 5 (qS (t++zP y))]) (by kernel_rfl) cx_ a_ hI_) hI_
  refine qQ (bf h6) ?_
  have hS:qH (iS y)=[42]++Lib.itoa (iS y):=if_neg (by omega)
  have hS2:=congrArg List.length hS
  simp only [List.length_append,List.length_cons,List.length_nil] at hS2
  have hIt:=Lib.itoa_length_le (iS y) (by omega) (by omega)
  refine QJ mxd [(5,.call [] [(iv (iS y))] [] (sv (st (Lib.itoa (iS y)))) []),(6,.val (.av (.string (st (([42]:TX)++(Lib.itoa (iS y))))))),(7,.call [0,82] [(.opt 0 0),(sv (st (([42]:TX)++(Lib.itoa (iS y)))))] [some (77,[(.opn 0 0),(.osl 1 0 ((t++qD y:qP).length))]),some (5,(qS (t++qD y)))] (.tup [(nv (((([42]:TX)++(Lib.itoa (iS y)))).length)),(.av .nilIface)]) [some (77,[(.opn 0 0),(.osl 2 0 (((t++qD y)++(([42]:TX)++(Lib.itoa (iS y))):qP).length))]),none,some (5,(qS ((t++qD y)++(([42]:TX)++(Lib.itoa (iS y))))))])] [[],[0],[0,1],[],[3],[3,4],[3,4,5],[0,1,2,3,4,5,6]] [([114],[0]),([116],[114]),([118],[116]),([120],[6]),([122],[5,120]),([124],[122]),([126],[124]),([128,1,165,341],[1,118,126,165])] [.k2,.d,.d,.n,.k1,.d,.n] [pb 0 77 [(.opn 0 0),(.osl 170 0 (((t++qD y)++(([42]:TX)++(Lib.itoa (iS y))):qP).length))],pb 170 5 (qM (yH [0,82] 170) (qS ((t++qD y)++(([42]:TX)++(Lib.itoa (iS y))))))] (yC 154 (zx (iS y) (by omega) (by omega)) (oc (by first|omega|(simp <;> omega):((([42]:TX).length+(Lib.itoa (iS y)).length:Nat):Int)≤9223372036854775807) (oc (qJ _ _:st ([42]:TX)++st (Lib.itoa (iS y))=st (([42]:TX)++(Lib.itoa (iS y)))) (oc (wv (t++qD y) (([42]:TX)++(Lib.itoa (iS y))) (by (first|omega|(simp only [List.length_append,List.length_cons,List.length_nil];omega)))) (oc (rfl:[(.opt 0 0),(sv (st (([42]:TX)++(Lib.itoa (iS y)))))]=qM (qY [0,82] 170) [(.opt 0 0),(sv (st (([42]:TX)++(Lib.itoa (iS y)))))]) (oc (rfl:[(.opn 0 0),(.osl 82 0 ((t++qD y:qP).length))]=qM (qY [0,82] 170) [(.opn 0 0),(.osl 1 0 ((t++qD y:qP).length))]) (oc ((qG (qI _)).symm:(qS (t++qD y))=qM (qY [0,82] 170) (qS (t++qD y))) oz)))))))<|qX (Wk.eq (show _=[ps 0 (.opt 0 0),ps 3 (.opt 2 0),pb 0 77 [(.opn 0 0),(.osl 170 0 (((t++qD y)++(([42]:TX)++(Lib.itoa (iS y))):qP).length))],pb 2 50 [(iv (iK y)),(iv (iS y)),(.ssl (zF (iP y)) 0 ((iP y).length)),(iv ((iB y).1)),(iv ((iB y).2)),(sv (st (iL y))),(.ssl (qN (iC y)) 0 ((iC y).length))],pb 170 5 (qS ((t++qD y)++(([42]:TX)++(Lib.itoa (iS y)))))] from by simp only [qG (qI _)])) ?_
  refine qA<|qX (Wk.eq (show _=[ps 0 (.opt 0 0),ps 3 (.opt 2 0),pb 0 77 [(.opn 0 0),(.osl 170 0 ((t++qD y++qH (iS y):qP).length))],pb 2 50 [(iv (iK y)),(iv (iS y)),(.ssl (zF (iP y)) 0 ((iP y).length)),(iv ((iB y).1)),(iv ((iB y).2)),(sv (st (iL y))),(.ssl (qN (iC y)) 0 ((iC y).length))],pb 170 5 (qS (t++qD y++qH (iS y)))] from by rw [hS])) ?_
  refine zX mxd [(2,.val (.av (.bool (!decide ((iL y)=([]:TX))))))] [.k2,.n,.r] [ps 67 (bv (!(decide ((iL y)=([]:TX)))))] (oc (jA _ _:(!((st (iL y)).toList == (st ([]:TX)).toList)) = !decide ((iL y)=([]:TX))) oz) ?_
  by_cases h8:(iL y)=([]:TX)
  ·refine qT (bt h8)<|qE ?_
   have hT:t++zP y=t++qD y++qH (iS y):=by rw [yU,show lyT (iL y)=[] from if_pos (by assumption),List.append_nil,List.append_assoc]
   exact fun cx_ a_ hI_=>zU (H':=[some (77,[(.opn 0 0),(.osl 2 0 ((t++zP y:qP).length))]),none,some (5,(qS (t++zP y)))]) (.inl rfl) (Wk.trans (Wk.eq (show _=[ps 0 (.opt 0 0),ps 3 (.opt 2 0),ps 67 (bv (!(decide ((iL y)=([]:TX))))),pb 0 77 [(.opn 0 0),(.osl 170 0 ((t++zP y:qP).length))],pb 2 50 [(iv (iK y)),(iv (iS y)),(.ssl (zF (iP y)) 0 ((iP y).length)),(iv ((iB y).1)),(iv ((iB y).2)),(sv (st (iL y))),(.ssl (qN (iC y)) 0 ((iC y).length))],pb 170 5 (qS (t++zP y))] from by rw [hT])) (Wk.ren3 [pb 0 77 [(.opn 0 0),(.osl 2 0 ((t++zP y:qP).length))],pb 2 5 (qS (t++zP y))] 2 hc0 [0,1,170] [(kb 2,(qS (t++zP y)))] (oc (qI _) (oz)) (by kernel_rfl) rfl rfl (by kernel_rfl) (by kernel_rfl))) rfl (oc rfl (oc rfl (oz))) (fun cx_ a_ hI_=>zK (l':=[pb 0 77 [(.opn 0 0),(.osl 2 0 ((t++zP y:qP).length))],pb 2 5 (qS (t++zP y))]) (by kernel_rfl) cx_ a_ hI_) hI_
  refine qQ (bf h8) ?_
  have hY:lyT (iL y)=[32,34]++iL y++[34]:=if_neg (by assumption)
  have hY2:=congrArg List.length hY
  simp only [List.length_append,List.length_cons,List.length_nil] at hY2
  refine wQ mxd [(5,.val (.av (.string (st (([32,34]:TX)++(iL y)))))),(6,.val (.av (.string (st ((([32,34]:TX)++(iL y))++([34]:TX)))))),(7,.call [0,170] [(.opt 0 0),(sv (st ((([32,34]:TX)++(iL y))++([34]:TX))))] [some (77,[(.opn 0 0),(.osl 1 0 ((t++qD y++qH (iS y):qP).length))]),some (5,(qS (t++qD y++qH (iS y))))] (.tup [(nv ((((([32,34]:TX)++(iL y))++([34]:TX))).length)),(.av .nilIface)]) [some (77,[(.opn 0 0),(.osl 2 0 (((t++qD y++qH (iS y))++((([32,34]:TX)++(iL y))++([34]:TX)):qP).length))]),none,some (5,(qS ((t++qD y++qH (iS y))++((([32,34]:TX)++(iL y))++([34]:TX)))))])] [[],[0],[0,1],[],[3],[3,4],[3,4,5],[0,1,2,3,4,5,6]] [([136],[0]),([138],[136]),([140],[138]),([142],[6]),([144],[5,142]),([146],[144]),([148],[146]),([150,1,341,517],[1,140,148,341])] [pb 0 77 [(.opn 0 0),(.osl 258 0 (((t++qD y++qH (iS y))++((([32,34]:TX)++(iL y))++([34]:TX)):qP).length))],pb 258 5 (qM (yH [0,170] 258) (qS ((t++qD y++qH (iS y))++((([32,34]:TX)++(iL y))++([34]:TX)))))] (oc (by first|omega|(simp <;> omega):((([32,34]:TX).length+(iL y).length:Nat):Int)≤9223372036854775807) (oc (qJ _ _:st ([32,34]:TX)++st (iL y)=st (([32,34]:TX)++(iL y))) (oc (by first|omega|(simp <;> omega):(((([32,34]:TX)++(iL y)).length+([34]:TX).length:Nat):Int)≤9223372036854775807) (oc (qJ _ _:st (([32,34]:TX)++(iL y))++st ([34]:TX)=st ((([32,34]:TX)++(iL y))++([34]:TX))) (oc (wv (t++qD y++qH (iS y)) ((([32,34]:TX)++(iL y))++([34]:TX)) (by (first|omega|(simp only [List.length_append,List.length_cons,List.length_nil];omega)))) (oc (rfl:[(.opt 0 0),(sv (st ((([32,34]:TX)++(iL y))++([34]:TX))))]=qM (qY [0,170] 258) [(.opt 0 0),(sv (st ((([32,34]:TX)++(iL y))++([34]:TX))))]) (oc (rfl:[(.opn 0 0),(.osl 170 0 ((t++qD y++qH (iS y):qP).length))]=qM (qY [0,170] 258) [(.opn 0 0),(.osl 1 0 ((t++qD y++qH (iS y):qP).length))]) (oc ((qG (qI _)).symm:(qS (t++qD y++qH (iS y)))=qM (qY [0,170] 258) (qS (t++qD y++qH (iS y)))) oz)))))))) ?_
  have hT:t++zP y=t++qD y++qH (iS y)++([32,34]++iL y++[34]):=by rw [yU,hY];simp only [List.append_assoc]
  exact fun cx_ a_ hI_=>zU (H':=[some (77,[(.opn 0 0),(.osl 2 0 ((t++zP y:qP).length))]),none,some (5,(qS (t++zP y)))]) (.inl rfl) (Wk.trans (Wk.eq (show _=[pb 0 77 [(.opn 0 0),(.osl 258 0 (((t++qD y++qH (iS y))++((([32,34]:TX)++(iL y))++([34]:TX)):qP).length))],pb 258 5 (qS ((t++qD y++qH (iS y))++((([32,34]:TX)++(iL y))++([34]:TX))))] from by simp only [qG (qI _)])) (Wk.trans (Wk.eq (show _=[pb 0 77 [(.opn 0 0),(.osl 258 0 ((t++zP y:qP).length))],pb 258 5 (qS (t++zP y))] from by rw [hT])) (Wk.ren3 [pb 0 77 [(.opn 0 0),(.osl 2 0 ((t++zP y:qP).length))],pb 2 5 (qS (t++zP y))] 2 hc0 [0,1,258] [(kb 2,(qS (t++zP y)))] (oc (qI _) (oz)) (by kernel_rfl) rfl rfl (by kernel_rfl) (by kernel_rfl)))) rfl (oc rfl (oc rfl (oz))) (fun cx_ a_ hI_=>zK (l':=[pb 0 77 [(.opn 0 0),(.osl 2 0 ((t++zP y:qP).length))],pb 2 5 (qS (t++zP y))]) (by kernel_rfl) cx_ a_ hI_) hI_
 refine qT (zM h5)<|qA<|qK mxd [.k2,.d,.d,.n,.r] [ps 48 (bv (decide ((iK y)=1)))] ?_
 by_cases h9:(iK y)=1
 ·refine qQ (zO h9) ?_
  have hM:qD y=Qv (iP y):=by unfold qD;rw [if_neg (by omega),if_neg (by omega),if_pos (by omega)]
  have hM2:=congrArg List.length hM
  try simp only [List.length_append,List.length_cons,List.length_nil] at hM2
  refine zX mxd [(3,.call [0,1] [(.opt 0 0),(.ssl (zF (iP y)) 0 ((iP y).length))] [some (77,[(.opn 0 0),(.osl 1 0 t.length)]),some (5,(qS t))] (.tup []) [some (77,[(.opn 0 0),(.osl 2 0 ((t++Qv (iP y):qP).length))]),none,some (5,(qS (t++Qv (iP y))))])] [.k2,.d,.d,.n,.d,.k1,.n] [pb 0 77 [(.opn 0 0),(.osl 98 0 ((t++Qv (iP y):qP).length))],pb 98 5 (qM (yH [0,1] 98) (qS (t++Qv (iP y))))] (oc (pitches_pc t (iP y) (by (first|omega|(simp only [List.length_append,List.length_cons,List.length_nil];omega))) hx2) (oc (rfl:[(.opt 0 0),(.ssl (zF (iP y)) 0 ((iP y).length))]=qM (qY [0,1] 98) [(.opt 0 0),(.ssl (zF (iP y)) 0 ((iP y).length))]) (oc (rfl:[(.opn 0 0),(.osl 1 0 t.length)]=qM (qY [0,1] 98) [(.opn 0 0),(.osl 1 0 t.length)]) (oc ((qG (qI _)).symm:(qS t)=qM (qY [0,1] 98) (qS t)) oz))))<|zE<|qX (Wk.eq (show _=[ps 0 (.opt 0 0),ps 3 (.opt 2 0),pb 0 77 [(.opn 0 0),(.osl 98 0 ((t++Qv (iP y):qP).length))],pb 2 50 [(iv (iK y)),(iv (iS y)),(.ssl (zF (iP y)) 0 ((iP y).length)),(iv ((iB y).1)),(iv ((iB y).2)),(sv (st (iL y))),(.ssl (qN (iC y)) 0 ((iC y).length))],pb 98 5 (qS (t++Qv (iP y)))] from by simp only [qG (qI _)])) ?_
  refine qA<|qA<|qX (Wk.eq (show _=[ps 0 (.opt 0 0),ps 3 (.opt 2 0),pb 0 77 [(.opn 0 0),(.osl 98 0 ((t++qD y:qP).length))],pb 2 50 [(iv (iK y)),(iv (iS y)),(.ssl (zF (iP y)) 0 ((iP y).length)),(iv ((iB y).1)),(iv ((iB y).2)),(sv (st (iL y))),(.ssl (qN (iC y)) 0 ((iC y).length))],pb 98 5 (qS (t++qD y))] from by rw [hM];try simp only [List.append_assoc,List.cons_append,List.nil_append])) ?_
  refine qK mxd [.k2,.n,.r] [ps 56 (bv (!(decide ((iS y)=1))))] ?_
  by_cases h10:(iS y)=1
  ·refine qT (bt h10)<|qE<|qA ?_
   have hS:qH (iS y)=[]:=if_pos (by omega)
   refine qX (Wk.eq (show _=[ps 0 (.opt 0 0),ps 3 (.opt 2 0),ps 56 (bv (!(decide ((iS y)=1)))),pb 0 77 [(.opn 0 0),(.osl 98 0 ((t++qD y++qH (iS y):qP).length))],pb 2 50 [(iv (iK y)),(iv (iS y)),(.ssl (zF (iP y)) 0 ((iP y).length)),(iv ((iB y).1)),(iv ((iB y).2)),(sv (st (iL y))),(.ssl (qN (iC y)) 0 ((iC y).length))],pb 98 5 (qS (t++qD y++qH (iS y)))] from by rw [hS];rw [List.append_nil])) ?_
   refine zX mxd [(2,.val (.av (.bool (!decide ((iL y)=([]:TX))))))] [.k2,.d,.n,.r] [ps 67 (bv (!(decide ((iL y)=([]:TX)))))] (oc (jA _ _:(!((st (iL y)).toList == (st ([]:TX)).toList)) = !decide ((iL y)=([]:TX))) oz) ?_
   by_cases h11:(iL y)=([]:TX)
   ·refine qT (bt h11)<|qE ?_
    have hT:t++zP y=t++qD y++qH (iS y):=by rw [yU,show lyT (iL y)=[] from if_pos (by assumption),List.append_nil,List.append_assoc]
    exact fun cx_ a_ hI_=>zU (H':=[some (77,[(.opn 0 0),(.osl 2 0 ((t++zP y:qP).length))]),none,some (5,(qS (t++zP y)))]) (.inl rfl) (Wk.trans (Wk.eq (show _=[ps 0 (.opt 0 0),ps 3 (.opt 2 0),ps 67 (bv (!(decide ((iL y)=([]:TX))))),pb 0 77 [(.opn 0 0),(.osl 98 0 ((t++zP y:qP).length))],pb 2 50 [(iv (iK y)),(iv (iS y)),(.ssl (zF (iP y)) 0 ((iP y).length)),(iv ((iB y).1)),(iv ((iB y).2)),(sv (st (iL y))),(.ssl (qN (iC y)) 0 ((iC y).length))],pb 98 5 (qS (t++zP y))] from by rw [hT])) (Wk.ren3 [pb 0 77 [(.opn 0 0),(.osl 2 0 ((t++zP y:qP).length))],pb 2 5 (qS (t++zP y))] 2 hc0 [0,1,98] [(kb 2,(qS (t++zP y)))] (oc (qI _) (oz)) (by kernel_rfl) rfl rfl (by kernel_rfl) (by kernel_rfl))) rfl (oc rfl (oc rfl (oz))) (fun cx_ a_ hI_=>zK (l':=[pb 0 77 [(.opn 0 0),(.osl 2 0 ((t++zP y:qP).length))],pb 2 5 (qS (t++zP y))]) (by kernel_rfl) cx_ a_ hI_) hI_
   refine qQ (bf h11) ?_
   have hY:lyT (iL y)=[32,34]++iL y++[34]:=if_neg (by assumption)
   have hY2:=congrArg List.length hY
   simp only [List.length_append,List.length_cons,List.length_nil] at hY2
   refine wQ mxd [(5,.val (.av (.string (st (([32,34]:TX)++(iL y)))))),(6,.val (.av (.string (st ((([32,34]:TX)++(iL y))++([34]:TX)))))),(7,.call [0,98] [(.opt 0 0),(sv (st ((([32,34]:TX)++(iL y))++([34]:TX))))] [some (77,[(.opn 0 0),(.osl 1 0 ((t++qD y++qH (iS y):qP).length))]),some (5,(qS (t++qD y++qH (iS y))))] (.tup [(nv ((((([32,34]:TX)++(iL y))++([34]:TX))).length)),(.av .nilIface)]) [some (77,[(.opn 0 0),(.osl 2 0 (((t++qD y++qH (iS y))++((([32,34]:TX)++(iL y))++([34]:TX)):qP).length))]),none,some (5,(qS ((t++qD y++qH (iS y))++((([32,34]:TX)++(iL y))++([34]:TX)))))])] [[],[0],[0,1],[],[3],[3,4],[3,4,5],[0,1,2,3,4,5,6]] [([136],[0]),([138],[136]),([140],[138]),([142],[6]),([144],[5,142]),([146],[144]),([148],[146]),([150,1,197,421],[1,140,148,197])] [pb 0 77 [(.opn 0 0),(.osl 210 0 (((t++qD y++qH (iS y))++((([32,34]:TX)++(iL y))++([34]:TX)):qP).length))],pb 210 5 (qM (yH [0,98] 210) (qS ((t++qD y++qH (iS y))++((([32,34]:TX)++(iL y))++([34]:TX)))))] (oc (by first|omega|(simp <;> omega):((([32,34]:TX).length+(iL y).length:Nat):Int)≤9223372036854775807) (oc (qJ _ _:st ([32,34]:TX)++st (iL y)=st (([32,34]:TX)++(iL y))) (oc (by first|omega|(simp <;> omega):(((([32,34]:TX)++(iL y)).length+([34]:TX).length:Nat):Int)≤9223372036854775807) (oc (qJ _ _:st (([32,34]:TX)++(iL y))++st ([34]:TX)=st ((([32,34]:TX)++(iL y))++([34]:TX))) (oc (wv (t++qD y++qH (iS y)) ((([32,34]:TX)++(iL y))++([34]:TX)) (by (first|omega|(simp only [List.length_append,List.length_cons,List.length_nil];omega)))) (oc (rfl:[(.opt 0 0),(sv (st ((([32,34]:TX)++(iL y))++([34]:TX))))]=qM (qY [0,98] 210) [(.opt 0 0),(sv (st ((([32,34]:TX)++(iL y))++([34]:TX))))]) (oc (rfl:[(.opn 0 0),(.osl 98 0 ((t++qD y++qH (iS y):qP).length))]=qM (qY [0,98] 210) [(.opn 0 0),(.osl 1 0 ((t++qD y++qH (iS y):qP).length))]) (oc ((qG (qI _)).symm:(qS (t++qD y++qH (iS y)))=qM (qY [0,98] 210) (qS (t++qD y++qH (iS y)))) oz)))))))) ?_
   have hT:t++zP y=t++qD y++qH (iS y)++([32,34]++iL y++[34]):=by rw [yU,hY];simp only [List.append_assoc]
   exact fun cx_ a_ hI_=>zU (H':=[some (77,[(.opn 0 0),(.osl 2 0 ((t++zP y:qP).length))]),none,some (5,(qS (t++zP y)))]) (.inl rfl) (Wk.trans (Wk.eq (show _=[pb 0 77 [(.opn 0 0),(.osl 210 0 (((t++qD y++qH (iS y))++((([32,34]:TX)++(iL y))++([34]:TX)):qP).length))],pb 210 5 (qS ((t++qD y++qH (iS y))++((([32,34]:TX)++(iL y))++([34]:TX))))] from by simp only [qG (qI _)])) (Wk.trans (Wk.eq (show _=[pb 0 77 [(.opn 0 0),(.osl 210 0 ((t++zP y:qP).length))],pb 210 5 (qS (t++zP y))] from by rw [hT])) (Wk.ren3 [pb 0 77 [(.opn 0 0),(.osl 2 0 ((t++zP y:qP).length))],pb 2 5 (qS (t++zP y))] 2 hc0 [0,1,210] [(kb 2,(qS (t++zP y)))] (oc (qI _) (oz)) (by kernel_rfl) rfl rfl (by kernel_rfl) (by kernel_rfl)))) rfl (oc rfl (oc rfl (oz))) (fun cx_ a_ hI_=>zK (l':=[pb 0 77 [(.opn 0 0),(.osl 2 0 ((t++zP y:qP).length))],pb 2 5 (qS (t++zP y))]) (by kernel_rfl) cx_ a_ hI_) hI_
  refine qQ (bf h10) ?_
  have hS:qH (iS y)=[42]++Lib.itoa (iS y):=if_neg (by omega)
  have hS2:=congrArg List.length hS
  simp only [List.length_append,List.length_cons,List.length_nil] at hS2
  have hIt:=Lib.itoa_length_le (iS y) (by omega) (by omega)
  refine QJ mxd [(5,.call [] [(iv (iS y))] [] (sv (st (Lib.itoa (iS y)))) []),(6,.val (.av (.string (st (([42]:TX)++(Lib.itoa (iS y))))))),(7,.call [0,98] [(.opt 0 0),(sv (st (([42]:TX)++(Lib.itoa (iS y)))))] [some (77,[(.opn 0 0),(.osl 1 0 ((t++qD y:qP).length))]),some (5,(qS (t++qD y)))] (.tup [(nv (((([42]:TX)++(Lib.itoa (iS y)))).length)),(.av .nilIface)]) [some (77,[(.opn 0 0),(.osl 2 0 (((t++qD y)++(([42]:TX)++(Lib.itoa (iS y))):qP).length))]),none,some (5,(qS ((t++qD y)++(([42]:TX)++(Lib.itoa (iS y))))))])] [[],[0],[0,1],[],[3],[3,4],[3,4,5],[0,1,2,3,4,5,6]] [([114],[0]),([116],[114]),([118],[116]),([120],[6]),([122],[5,120]),([124],[122]),([126],[124]),([128,1,197,373],[1,118,126,197])] [.k2,.d,.d,.n,.k1,.d,.n] [pb 0 77 [(.opn 0 0),(.osl 186 0 (((t++qD y)++(([42]:TX)++(Lib.itoa (iS y))):qP).length))],pb 186 5 (qM (yH [0,98] 186) (qS ((t++qD y)++(([42]:TX)++(Lib.itoa (iS y))))))] (yC 170 (zx (iS y) (by omega) (by omega)) (oc (by first|omega|(simp <;> omega):((([42]:TX).length+(Lib.itoa (iS y)).length:Nat):Int)≤9223372036854775807) (oc (qJ _ _:st ([42]:TX)++st (Lib.itoa (iS y))=st (([42]:TX)++(Lib.itoa (iS y)))) (oc (wv (t++qD y) (([42]:TX)++(Lib.itoa (iS y))) (by (first|omega|(simp only [List.length_append,List.length_cons,List.length_nil];omega)))) (oc (rfl:[(.opt 0 0),(sv (st (([42]:TX)++(Lib.itoa (iS y)))))]=qM (qY [0,98] 186) [(.opt 0 0),(sv (st (([42]:TX)++(Lib.itoa (iS y)))))]) (oc (rfl:[(.opn 0 0),(.osl 98 0 ((t++qD y:qP).length))]=qM (qY [0,98] 186) [(.opn 0 0),(.osl 1 0 ((t++qD y:qP).length))]) (oc ((qG (qI _)).symm:(qS (t++qD y))=qM (qY [0,98] 186) (qS (t++qD y))) oz)))))))<|qX (Wk.eq (show _=[ps 0 (.opt 0 0),ps 3 (.opt 2 0),pb 0 77 [(.opn 0 0),(.osl 186 0 (((t++qD y)++(([42]:TX)++(Lib.itoa (iS y))):qP).length))],pb 2 50 [(iv (iK y)),(iv (iS y)),(.ssl (zF (iP y)) 0 ((iP y).length)),(iv ((iB y).1)),(iv ((iB y).2)),(sv (st (iL y))),(.ssl (qN (iC y)) 0 ((iC y).length))],pb 186 5 (qS ((t++qD y)++(([42]:TX)++(Lib.itoa (iS y)))))] from by simp only [qG (qI _)])) ?_
  refine qA<|qX (Wk.eq (show _=[ps 0 (.opt 0 0),ps 3 (.opt 2 0),pb 0 77 [(.opn 0 0),(.osl 186 0 ((t++qD y++qH (iS y):qP).length))],pb 2 50 [(iv (iK y)),(iv (iS y)),(.ssl (zF (iP y)) 0 ((iP y).length)),(iv ((iB y).1)),(iv ((iB y).2)),(sv (st (iL y))),(.ssl (qN (iC y)) 0 ((iC y).length))],pb 186 5 (qS (t++qD y++qH (iS y)))] from by rw [hS])) ?_
  refine zX mxd [(2,.val (.av (.bool (!decide ((iL y)=([]:TX))))))] [.k2,.n,.r] [ps 67 (bv (!(decide ((iL y)=([]:TX)))))] (oc (jA _ _:(!((st (iL y)).toList == (st ([]:TX)).toList)) = !decide ((iL y)=([]:TX))) oz) ?_
  by_cases h12:(iL y)=([]:TX)
  ·refine qT (bt h12)<|qE ?_
   have hT:t++zP y=t++qD y++qH (iS y):=by rw [yU,show lyT (iL y)=[] from if_pos (by assumption),List.append_nil,List.append_assoc]
   exact fun cx_ a_ hI_=>zU (H':=[some (77,[(.opn 0 0),(.osl 2 0 ((t++zP y:qP).length))]),none,some (5,(qS (t++zP y)))]) (.inl rfl) (Wk.trans (Wk.eq (show _=[ps 0 (.opt 0 0),ps 3 (.opt 2 0),ps 67 (bv (!(decide ((iL y)=([]:TX))))),pb 0 77 [(.opn 0 0),(.osl 186 0 ((t++zP y:qP).length))],pb 2 50 [(iv (iK y)),(iv (iS y)),(.ssl (zF (iP y)) 0 ((iP y).length)),(iv ((iB y).1)),(iv ((iB y).2)),(sv (st (iL y))),(.ssl (qN (iC y)) 0 ((iC y).length))],pb 186 5 (qS (t++zP y))] from by rw [hT])) (Wk.ren3 [pb 0 77 [(.opn 0 0),(.osl 2 0 ((t++zP y:qP).length))],pb 2 5 (qS (t++zP y))] 2 hc0 [0,1,186] [(kb 2,(qS (t++zP y)))] (oc (qI _) (oz)) (by kernel_rfl) rfl rfl (by kernel_rfl) (by kernel_rfl))) rfl (oc rfl (oc rfl (oz))) (fun cx_ a_ hI_=>zK (l':=[pb 0 77 [(.opn 0 0),(.osl 2 0 ((t++zP y:qP).length))],pb 2 5 (qS (t++zP y))]) (by kernel_rfl) cx_ a_ hI_) hI_
  refine qQ (bf h12) ?_
  have hY:lyT (iL y)=[32,34]++iL y++[34]:=if_neg (by assumption)
  have hY2:=congrArg List.length hY
  simp only [List.length_append,List.length_cons,List.length_nil] at hY2
  refine wQ mxd [(5,.val (.av (.string (st (([32,34]:TX)++(iL y)))))),(6,.val (.av (.string (st ((([32,34]:TX)++(iL y))++([34]:TX)))))),(7,.call [0,186] [(.opt 0 0),(sv (st ((([32,34]:TX)++(iL y))++([34]:TX))))] [some (77,[(.opn 0 0),(.osl 1 0 ((t++qD y++qH (iS y):qP).length))]),some (5,(qS (t++qD y++qH (iS y))))] (.tup [(nv ((((([32,34]:TX)++(iL y))++([34]:TX))).length)),(.av .nilIface)]) [some (77,[(.opn 0 0),(.osl 2 0 (((t++qD y++qH (iS y))++((([32,34]:TX)++(iL y))++([34]:TX)):qP).length))]),none,some (5,(qS ((t++qD y++qH (iS y))++((([32,34]:TX)++(iL y))++([34]:TX)))))])] [[],[0],[0,1],[],[3],[3,4],[3,4,5],[0,1,2,3,4,5,6]] [([136],[0]),([138],[136]),([140],[138]),([142],[6]),([144],[5,142]),([146],[144]),([148],[146]),([150,1,373,549],[1,140,148,373])] [pb 0 77 [(.opn 0 0),(.osl 274 0 (((t++qD y++qH (iS y))++((([32,34]:TX)++(iL y))++([34]:TX)):qP).length))],pb 274 5 (qM (yH [0,186] 274) (qS ((t++qD y++qH (iS y))++((([32,34]:TX)++(iL y))++([34]:TX)))))] (oc (by first|omega|(simp <;> omega):((([32,34]:TX).length+(iL y).length:Nat):Int)≤9223372036854775807) (oc (qJ _ _:st ([32,34]:TX)++st (iL y)=st (([32,34]:TX)++(iL y))) (oc (by first|omega|(simp <;> omega):(((([32,34]:TX)++(iL y)).length+([34]:TX).length:Nat):Int)≤9223372036854775807) (oc (qJ _ _:st (([32,34]:TX)++(iL y))++st ([34]:TX)=st ((([32,34]:TX)++(iL y))++([34]:TX))) (oc (wv (t++qD y++qH (iS y)) ((([32,34]:TX)++(iL y))++([34]:TX)) (by (first|omega|(simp only [List.length_append,List.length_cons,List.length_nil];omega)))) (oc (rfl:[(.opt 0 0),(sv (st ((([32,34]:TX)++(iL y))++([34]:TX))))]=qM (qY [0,186] 274) [(.opt 0 0),(sv (st ((([32,34]:TX)++(iL y))++([34]:TX))))]) (oc (rfl:[(.opn 0 0),(.osl 186 0 ((t++qD y++qH (iS y):qP).length))]=qM (qY [0,186] 274) [(.opn 0 0),(.osl 1 0 ((t++qD y++qH (iS y):qP).length))]) (oc ((qG (qI _)).symm:(qS (t++qD y++qH (iS y)))=qM (qY [0,186] 274) (qS (t++qD y++qH (iS y)))) oz)))))))) ?_
  have hT:t++zP y=t++qD y++qH (iS y)++([32,34]++iL y++[34]):=by rw [yU,hY];simp only [List.append_assoc]
  exact fun cx_ a_ hI_=>zU (H':=[some (77,[(.opn 0 0),(.osl 2 0 ((t++zP y:qP).length))]),none,some (5,(qS (t++zP y)))]) (.inl rfl) (Wk.trans (Wk.eq (show _=[pb 0 77 [(.opn 0 0),(.osl 274 0 (((t++qD y++qH (iS y))++((([32,34]:TX)++(iL y))++([34]:TX)):qP).length))],pb 274 5 (qS ((t++qD y++qH (iS y))++((([32,34]:TX)++(iL y))++([34]:TX))))] from by simp only [qG (qI _)])) (Wk.trans (Wk.eq (show _=[pb 0 77 [(.opn 0 0),(.osl 274 0 ((t++zP y:qP).length))],pb 274 5 (qS (t++zP y))] from by rw [hT])) (Wk.ren3 [pb 0 77 [(.opn 0 0),(.osl 2 0 ((t++zP y:qP).length))],pb 2 5 (qS (t++zP y))] 2 hc0 [0,1,274] [(kb 2,(qS (t++zP y)))] (oc (qI _) (oz)) (by kernel_rfl) rfl rfl (by kernel_rfl) (by kernel_rfl)))) rfl (oc rfl (oc rfl (oz))) (fun cx_ a_ hI_=>zK (l':=[pb 0 77 [(.opn 0 0),(.osl 2 0 ((t++zP y:qP).length))],pb 2 5 (qS (t++zP y))]) (by kernel_rfl) cx_ a_ hI_) hI_
 refine qT (zM h9)<|qA<|qA<|qK mxd [.k2,.n,.d,.r] [ps 10 (bv (decide ((iK y)=5)))] ?_
 by_cases h13:(iK y)=5
 ·refine qQ (zO h13)<|qA ?_
  have hM:qD y=([117,112,32]++((qW (iB y).1 (iB y).2).1++[32]))++(91 :: (qZ (iC y)++[93])):=by unfold qD upT;rw [if_neg (show ¬ iK y=2 from by omega),if_neg (show ¬ iK y=3 from by omega),if_neg (show ¬ iK y=1 from by omega),if_pos (show iK y=5 from by omega)]
  have hM2:=congrArg List.length hM
  try simp only [List.length_append,List.length_cons,List.length_nil] at hM2
  refine vJ mxd 2 [.k2,.n,.d,.r] [ps 4 (sv (st ((qW ((iB y).1) ((iB y).2)).1)))] (yC 114 (qjp (iB y).1 (iB y).2 hx1.1 hx1.2) oz)<|zX mxd [(4,.val (.av (.string (st (([117,112,32]:TX)++((qW ((iB y).1) ((iB y).2)).1)))))),(5,.val (.av (.string (st ((([117,112,32]:TX)++((qW ((iB y).1) ((iB y).2)).1))++([32]:TX)))))),(6,.call [0,1] [(.opt 0 0),(sv (st ((([117,112,32]:TX)++((qW ((iB y).1) ((iB y).2)).1))++([32]:TX))))] [some (77,[(.opn 0 0),(.osl 1 0 t.length)]),some (5,(qS t))] (.tup [(nv ((((([117,112,32]:TX)++((qW ((iB y).1) ((iB y).2)).1))++([32]:TX))).length)),(.av .nilIface)]) [some (77,[(.opn 0 0),(.osl 2 0 ((t++((([117,112,32]:TX)++((qW ((iB y).1) ((iB y).2)).1))++([32]:TX)):qP).length))]),none,some (5,(qS (t++((([117,112,32]:TX)++((qW ((iB y).1) ((iB y).2)).1))++([32]:TX)))))])] [.k2,.d,.d,.n,.d,.k1,.n] [pb 0 77 [(.opn 0 0),(.osl 210 0 ((t++((([117,112,32]:TX)++((qW ((iB y).1) ((iB y).2)).1))++([32]:TX)):qP).length))],pb 210 5 (qM (yH [0,1] 210) (qS (t++((([117,112,32]:TX)++((qW ((iB y).1) ((iB y).2)).1))++([32]:TX)))))] (oc (by first|omega|(simp <;> omega):((([117,112,32]:TX).length+((qW ((iB y).1) ((iB y).2)).1).length:Nat):Int)≤9223372036854775807) (oc (qJ _ _:st ([117,112,32]:TX)++st ((qW ((iB y).1) ((iB y).2)).1)=st (([117,112,32]:TX)++((qW ((iB y).1) ((iB y).2)).1))) (oc (by first|omega|(simp <;> omega):(((([117,112,32]:TX)++((qW ((iB y).1) ((iB y).2)).1)).length+([32]:TX).length:Nat):Int)≤9223372036854775807) (oc (qJ _ _:st (([117,112,32]:TX)++((qW ((iB y).1) ((iB y).2)).1))++st ([32]:TX)=st ((([117,112,32]:TX)++((qW ((iB y).1) ((iB y).2)).1))++([32]:TX))) (oc (wv t ((([117,112,32]:TX)++((qW ((iB y).1) ((iB y).2)).1))++([32]:TX)) (by (first|omega|(simp only [List.length_append,List.length_cons,List.length_nil];omega)))) (oc (rfl:[(.opt 0 0),(sv (st ((([117,112,32]:TX)++((qW ((iB y).1) ((iB y).2)).1))++([32]:TX))))]=qM (qY [0,1] 210) [(.opt 0 0),(sv (st ((([117,112,32]:TX)++((qW ((iB y).1) ((iB y).2)).1))++([32]:TX))))]) (oc (rfl:[(.opn 0 0),(.osl 1 0 t.length)]=qM (qY [0,1] 210) [(.opn 0 0),(.osl 1 0 t.length)]) (oc ((qG (qI _)).symm:(qS t)=qM (qY [0,1] 210) (qS t)) oz))))))))<|qX (Wk.eq (show _=[ps 0 (.opt 0 0),ps 3 (.opt 2 0),pb 0 77 [(.opn 0 0),(.osl 210 0 ((t++((([117,112,32]:TX)++((qW ((iB y).1) ((iB y).2)).1))++([32]:TX)):qP).length))],pb 2 50 [(iv (iK y)),(iv (iS y)),(.ssl (zF (iP y)) 0 ((iP y).length)),(iv ((iB y).1)),(iv ((iB y).2)),(sv (st (iL y))),(.ssl (qN (iC y)) 0 ((iC y).length))],pb 210 5 (qS (t++((([117,112,32]:TX)++((qW ((iB y).1) ((iB y).2)).1))++([32]:TX))))] from by simp only [qG (qI _)])) ?_
  refine qA<|zX mxd [(3,.call [0,210] [(.opt 0 0),(.av (.int .u8 91))] [some (77,[(.opn 0 0),(.osl 1 0 ((t++((([117,112,32]:TX)++((qW ((iB y).1) ((iB y).2)).1))++([32]:TX)):qP).length))]),some (5,(qS (t++((([117,112,32]:TX)++((qW ((iB y).1) ((iB y).2)).1))++([32]:TX)))))] (.av .nilIface) [some (77,[(.opn 0 0),(.osl 2 0 (((t++((([117,112,32]:TX)++((qW ((iB y).1) ((iB y).2)).1))++([32]:TX)))++[91]:qP).length))]),none,some (5,(qS ((t++((([117,112,32]:TX)++((qW ((iB y).1) ((iB y).2)).1))++([32]:TX)))++[91])))])] [.k2,.d,.n,.k1,.d,.n] [pb 0 77 [(.opn 0 0),(.osl 242 0 (((t++((([117,112,32]:TX)++((qW ((iB y).1) ((iB y).2)).1))++([32]:TX)))++[91]:qP).length))],pb 242 5 (qM (yH [0,210] 242) (qS ((t++((([117,112,32]:TX)++((qW ((iB y).1) ((iB y).2)).1))++([32]:TX)))++[91])))] (oc (YV (t++((([117,112,32]:TX)++((qW ((iB y).1) ((iB y).2)).1))++([32]:TX))) 91 (by (first|omega|(simp only [List.length_append,List.length_cons,List.length_nil];omega)))) (oc (rfl:[(.opt 0 0),(.av (.int .u8 91))]=qM (qY [0,210] 242) [(.opt 0 0),(.av (.int .u8 91))]) (oc (rfl:[(.opn 0 0),(.osl 210 0 ((t++((([117,112,32]:TX)++((qW ((iB y).1) ((iB y).2)).1))++([32]:TX)):qP).length))]=qM (qY [0,210] 242) [(.opn 0 0),(.osl 1 0 ((t++((([117,112,32]:TX)++((qW ((iB y).1) ((iB y).2)).1))++([32]:TX)):qP).length))]) (oc ((qG (qI _)).symm:(qS (t++((([117,112,32]:TX)++((qW ((iB y).1) ((iB y).2)).1))++([32]:TX))))=qM (qY [0,210] 242) (qS (t++((([117,112,32]:TX)++((qW ((iB y).1) ((iB y).2)).1))++([32]:TX))))) oz))))<|qX (Wk.eq (show _=[ps 0 (.opt 0 0),ps 3 (.opt 2 0),pb 0 77 [(.opn 0 0),(.osl 242 0 (((t++((([117,112,32]:TX)++((qW ((iB y).1) ((iB y).2)).1))++([32]:TX)))++[91]:qP).length))],pb 2 50 [(iv (iK y)),(iv (iS y)),(.ssl (zF (iP y)) 0 ((iP y).length)),(iv ((iB y).1)),(iv ((iB y).2)),(sv (st (iL y))),(.ssl (qN (iC y)) 0 ((iC y).length))],pb 242 5 (qS ((t++((([117,112,32]:TX)++((qW ((iB y).1) ((iB y).2)).1))++([32]:TX)))++[91]))] from by simp only [qG (qI _)])) ?_
  refine qA<|zX mxd [(3,.call [0,242] [(.opt 0 0),(.ssl (qN (iC y)) 0 ((iC y).length))] [some (77,[(.opn 0 0),(.osl 1 0 (((t++((([117,112,32]:TX)++((qW ((iB y).1) ((iB y).2)).1))++([32]:TX)))++[91]:qP).length))]),some (5,(qS ((t++((([117,112,32]:TX)++((qW ((iB y).1) ((iB y).2)).1))++([32]:TX)))++[91])))] (.tup []) [some (77,[(.opn 0 0),(.osl 2 0 ((((t++((([117,112,32]:TX)++((qW ((iB y).1) ((iB y).2)).1))++([32]:TX)))++[91])++qZ (iC y):qP).length))]),none,some (5,(qS (((t++((([117,112,32]:TX)++((qW ((iB y).1) ((iB y).2)).1))++([32]:TX)))++[91])++qZ (iC y))))])] [.k2,.d,.n,.k1,.d,.n] [pb 0 77 [(.opn 0 0),(.osl 274 0 ((((t++((([117,112,32]:TX)++((qW ((iB y).1) ((iB y).2)).1))++([32]:TX)))++[91])++qZ (iC y):qP).length))],pb 274 5 (qM (yH [0,242] 274) (qS (((t++((([117,112,32]:TX)++((qW ((iB y).1) ((iB y).2)).1))++([32]:TX)))++[91])++qZ (iC y))))] (oc (ihL (iC y) ((t++((([117,112,32]:TX)++((qW ((iB y).1) ((iB y).2)).1))++([32]:TX)))++[91]) (wZ y) (by (first|omega|(simp only [List.length_append,List.length_cons,List.length_nil];omega))) hx5 hx4 hpr.2.1) (oc (rfl:[(.opt 0 0),(.ssl (qN (iC y)) 0 ((iC y).length))]=qM (qY [0,242] 274) [(.opt 0 0),(.ssl (qN (iC y)) 0 ((iC y).length))]) (oc (rfl:[(.opn 0 0),(.osl 242 0 (((t++((([117,112,32]:TX)++((qW ((iB y).1) ((iB y).2)).1))++([32]:TX)))++[91]:qP).length))]=qM (qY [0,242] 274) [(.opn 0 0),(.osl 1 0 (((t++((([117,112,32]:TX)++((qW ((iB y).1) ((iB y).2)).1))++([32]:TX)))++[91]:qP).length))]) (oc ((qG (qI _)).symm:(qS ((t++((([117,112,32]:TX)++((qW ((iB y).1) ((iB y).2)).1))++([32]:TX)))++[91]))=qM (qY [0,242] 274) (qS ((t++((([117,112,32]:TX)++((qW ((iB y).1) ((iB y).2)).1))++([32]:TX)))++[91]))) oz))))<|qX (Wk.eq (show _=[ps 0 (.opt 0 0),ps 3 (.opt 2 0),pb 0 77 [(.opn 0 0),(.osl 274 0 ((((t++((([117,112,32]:TX)++((qW ((iB y).1) ((iB y).2)).1))++([32]:TX)))++[91])++qZ (iC y):qP).length))],pb 2 50 [(iv (iK y)),(iv (iS y)),(.ssl (zF (iP y)) 0 ((iP y).length)),(iv ((iB y).1)),(iv ((iB y).2)),(sv (st (iL y))),(.ssl (qN (iC y)) 0 ((iC y).length))],pb 274 5 (qS (((t++((([117,112,32]:TX)++((qW ((iB y).1) ((iB y).2)).1))++([32]:TX)))++[91])++qZ (iC y)))] from by simp only [qG (qI _)])) ?_
  refine zX mxd [(3,.call [0,274] [(.opt 0 0),(.av (.int .u8 93))] [some (77,[(.opn 0 0),(.osl 1 0 ((((t++((([117,112,32]:TX)++((qW ((iB y).1) ((iB y).2)).1))++([32]:TX)))++[91])++qZ (iC y):qP).length))]),some (5,(qS (((t++((([117,112,32]:TX)++((qW ((iB y).1) ((iB y).2)).1))++([32]:TX)))++[91])++qZ (iC y))))] (.av .nilIface) [some (77,[(.opn 0 0),(.osl 2 0 (((((t++((([117,112,32]:TX)++((qW ((iB y).1) ((iB y).2)).1))++([32]:TX)))++[91])++qZ (iC y))++[93]:qP).length))]),none,some (5,(qS ((((t++((([117,112,32]:TX)++((qW ((iB y).1) ((iB y).2)).1))++([32]:TX)))++[91])++qZ (iC y))++[93])))])] [.k2,.d,.n,.k1,.d,.n] [pb 0 77 [(.opn 0 0),(.osl 306 0 (((((t++((([117,112,32]:TX)++((qW ((iB y).1) ((iB y).2)).1))++([32]:TX)))++[91])++qZ (iC y))++[93]:qP).length))],pb 306 5 (qM (yH [0,274] 306) (qS ((((t++((([117,112,32]:TX)++((qW ((iB y).1) ((iB y).2)).1))++([32]:TX)))++[91])++qZ (iC y))++[93])))] (oc (YV (((t++((([117,112,32]:TX)++((qW ((iB y).1) ((iB y).2)).1))++([32]:TX)))++[91])++qZ (iC y)) 93 (by (first|omega|(simp only [List.length_append,List.length_cons,List.length_nil];omega)))) (oc (rfl:[(.opt 0 0),(.av (.int .u8 93))]=qM (qY [0,274] 306) [(.opt 0 0),(.av (.int .u8 93))]) (oc (rfl:[(.opn 0 0),(.osl 274 0 ((((t++((([117,112,32]:TX)++((qW ((iB y).1) ((iB y).2)).1))++([32]:TX)))++[91])++qZ (iC y):qP).length))]=qM (qY [0,274] 306) [(.opn 0 0),(.osl 1 0 ((((t++((([117,112,32]:TX)++((qW ((iB y).1) ((iB y).2)).1))++([32]:TX)))++[91])++qZ (iC y):qP).length))]) (oc ((qG (qI _)).symm:(qS (((t++((([117,112,32]:TX)++((qW ((iB y).1) ((iB y).2)).1))++([32]:TX)))++[91])++qZ (iC y)))=qM (qY [0,274] 306) (qS (((t++((([117,112,32]:TX)++((qW ((iB y).1) ((iB y).2)).1))++([32]:TX)))++[91])++qZ (iC y)))) oz))))<|zE<|qX (Wk.eq (show _=[ps 0 (.opt 0 0),ps 3 (.opt 2 0),pb 0 77 [(.opn 0 0),(.osl 306 0 (((((t++((([117,112,32]:TX)++((qW ((iB y).1) ((iB y).2)).1))++([32]:TX)))++[91])++qZ (iC y))++[93]:qP).length))],pb 2 50 [(iv (iK y)),(iv (iS y)),(.ssl (zF (iP y)) 0 ((iP y).length)),(iv ((iB y).1)),(iv ((iB y).2)),(sv (st (iL y))),(.ssl (qN (iC y)) 0 ((iC y).length))],pb 306 5 (qS ((((t++((([117,112,32]:TX)++((qW ((iB y).1) ((iB y).2)).1))++([32]:TX)))++[91])++qZ (iC y))++[93]))] from by simp only [qG (qI _)])) ?_
  refine qA<|qA<|qX (Wk.eq (show _=[ps 0 (.opt 0 0),ps 3 (.opt 2 0),pb 0 77 [(.opn 0 0),(.osl 306 0 ((t++qD y:qP).length))],pb 2 50 [(iv (iK y)),(iv (iS y)),(.ssl (zF (iP y)) 0 ((iP y).length)),(iv ((iB y).1)),(iv ((iB y).2)),(sv (st (iL y))),(.ssl (qN (iC y)) 0 ((iC y).length))],pb 306 5 (qS (t++qD y))] from by rw [hM];try simp only [List.append_assoc,List.cons_append,List.nil_append])) ?_
  refine qK mxd [.k2,.n,.r] [ps 56 (bv (!(decide ((iS y)=1))))] ?_
  by_cases h14:(iS y)=1
  ·refine qT (bt h14)<|qE<|qA ?_
   have hS:qH (iS y)=[]:=if_pos (by omega)
   refine qX (Wk.eq (show _=[ps 0 (.opt 0 0),ps 3 (.opt 2 0),ps 56 (bv (!(decide ((iS y)=1)))),pb 0 77 [(.opn 0 0),(.osl 306 0 ((t++qD y++qH (iS y):qP).length))],pb 2 50 [(iv (iK y)),(iv (iS y)),(.ssl (zF (iP y)) 0 ((iP y).length)),(iv ((iB y).1)),(iv ((iB y).2)),(sv (st (iL y))),(.ssl (qN (iC y)) 0 ((iC y).length))],pb 306 5 (qS (t++qD y++qH (iS y)))] from by rw [hS];rw [List.append_nil])) ?_
   refine zX mxd [(2,.val (.av (.bool (!decide ((iL y)=([]:TX))))))] [.k2,.d,.n,.r] [ps 67 (bv (!(decide ((iL y)=([]:TX)))))] (oc (jA _ _:(!((st (iL y)).toList == (st ([]:TX)).toList)) = !decide ((iL y)=([]:TX))) oz) ?_
   by_cases h15:(iL y)=([]:TX)
   ·refine qT (bt h15)<|qE ?_
    have hT:t++zP y=t++qD y++qH (iS y):=by rw [yU,show lyT (iL y)=[] from if_pos (by assumption),List.append_nil,List.append_assoc]
    exact fun cx_ a_ hI_=>zU (H':=[some (77,[(.opn 0 0),(.osl 2 0 ((t++zP y:qP).length))]),none,some (5,(qS (t++zP y)))]) (.inl rfl) (Wk.trans (Wk.eq (show _=[ps 0 (.opt 0 0),ps 3 (.opt 2 0),ps 67 (bv (!(decide ((iL y)=([]:TX))))),pb 0 77 [(.opn 0 0),(.osl 306 0 ((t++zP y:qP).length))],pb 2 50 [(iv (iK y)),(iv (iS y)),(.ssl (zF (iP y)) 0 ((iP y).length)),(iv ((iB y).1)),(iv ((iB y).2)),(sv (st (iL y))),(.ssl (qN (iC y)) 0 ((iC y).length))],pb 306 5 (qS (t++zP y))] from by rw [hT])) (Wk.ren3 [pb 0 77 [(.opn 0 0),(.osl 2 0 ((t++zP y:qP).length))],pb 2 5 (qS (t++zP y))] 2 hc0 [0,1,306] [(kb 2,(qS (t++zP y)))] (oc (qI _) (oz)) (by kernel_rfl) rfl rfl (by kernel_rfl) (by kernel_rfl))) rfl (oc rfl (oc rfl (oz))) (fun cx_ a_ hI_=>zK (l':=[pb 0 77 [(.opn 0 0),(.osl 2 0 ((t++zP y:qP).length))],pb 2 5 (qS (t++zP y))]) (by kernel_rfl) cx_ a_ hI_) hI_
   refine qQ (bf h15) ?_
   have hY:lyT (iL y)=[32,34]++iL y++[34]:=if_neg (by assumption)
   have hY2:=congrArg List.length hY
   simp only [List.length_append,List.length_cons,List.length_nil] at hY2
   refine wQ mxd [(5,.val (.av (.string (st (([32,34]:TX)++(iL y)))))),(6,.val (.av (.string (st ((([32,34]:TX)++(iL y))++([34]:TX)))))),(7,.call [0,306] [(.opt 0 0),(sv (st ((([32,34]:TX)++(iL y))++([34]:TX))))] [some (77,[(.opn 0 0),(.osl 1 0 ((t++qD y++qH (iS y):qP).length))]),some (5,(qS (t++qD y++qH (iS y))))] (.tup [(nv ((((([32,34]:TX)++(iL y))++([34]:TX))).length)),(.av .nilIface)]) [some (77,[(.opn 0 0),(.osl 2 0 (((t++qD y++qH (iS y))++((([32,34]:TX)++(iL y))++([34]:TX)):qP).length))]),none,some (5,(qS ((t++qD y++qH (iS y))++((([32,34]:TX)++(iL y))++([34]:TX)))))])] [[],[0],[0,1],[],[3],[3,4],[3,4,5],[0,1,2,3,4,5,6]] [([136],[0]),([138],[136]),([140],[138]),([142],[6]),([144],[5,142]),([146],[144]),([148],[146]),([150,1,613,837],[1,140,148,613])] [pb 0 77 [(.opn 0 0),(.osl 418 0 (((t++qD y++qH (iS y))++((([32,34]:TX)++(iL y))++([34]:TX)):qP).length))],pb 418 5 (qM (yH [0,306] 418) (qS ((t++qD y++qH (iS y))++((([32,34]:TX)++(iL y))++([34]:TX)))))] (oc (by first|omega|(simp <;> omega):((([32,34]:TX).length+(iL y).length:Nat):Int)≤9223372036854775807) (oc (qJ _ _:st ([32,34]:TX)++st (iL y)=st (([32,34]:TX)++(iL y))) (oc (by first|omega|(simp <;> omega):(((([32,34]:TX)++(iL y)).length+([34]:TX).length:Nat):Int)≤9223372036854775807) (oc (qJ _ _:st (([32,34]:TX)++(iL y))++st ([34]:TX)=st ((([32,34]:TX)++(iL y))++([34]:TX))) (oc (wv (t++qD y++qH (iS y)) ((([32,34]:TX)++(iL y))++([34]:TX)) (by (first|omega|(simp only [List.length_append,List.length_cons,List.length_nil];omega)))) (oc (rfl:[(.opt 0 0),(sv (st ((([32,34]:TX)++(iL y))++([34]:TX))))]=qM (qY [0,306] 418) [(.opt 0 0),(sv (st ((([32,34]:TX)++(iL y))++([34]:TX))))]) (oc (rfl:[(.opn 0 0),(.osl 306 0 ((t++qD y++qH (iS y):qP).length))]=qM (qY [0,306] 418) [(.opn 0 0),(.osl 1 0 ((t++qD y++qH (iS y):qP).length))]) (oc ((qG (qI _)).symm:(qS (t++qD y++qH (iS y)))=qM (qY [0,306] 418) (qS (t++qD y++qH (iS y)))) oz)))))))) ?_
   have hT:t++zP y=t++qD y++qH (iS y)++([32,34]++iL y++[34]):=by rw [yU,hY];simp only [List.append_assoc]
   exact fun cx_ a_ hI_=>zU (H':=[some (77,[(.opn 0 0),(.osl 2 0 ((t++zP y:qP).length))]),none,some (5,(qS (t++zP y)))]) (.inl rfl) (Wk.trans (Wk.eq (show _=[pb 0 77 [(.opn 0 0),(.osl 418 0 (((t++qD y++qH (iS y))++((([32,34]:TX)++(iL y))++([34]:TX)):qP).length))],pb 418 5 (qS ((t++qD y++qH (iS y))++((([32,34]:TX)++(iL y))++([34]:TX))))] from by simp only [qG (qI _)])) (Wk.trans (Wk.eq (show _=[pb 0 77 [(.opn 0 0),(.osl 418 0 ((t++zP y:qP).length))],pb 418 5 (qS (t++zP y))] from by rw [hT])) (Wk.ren3 [pb 0 77 [(.opn 0 0),(.osl 2 0 ((t++zP y:qP).length))],pb 2 5 (qS (t++zP y))] 2 hc0 [0,1,418] [(kb 2,(qS (t++zP y)))] (oc (qI _) (oz)) (by kernel_rfl) rfl rfl (by kernel_rfl) (by kernel_rfl)))) rfl (oc rfl (oc rfl (oz))) (fun cx_ a_ hI_=>zK (l':=[pb 0 77 [(.opn 0 0),(.osl 2 0 ((t++zP y:qP).length))],pb 2 5 (qS (t++zP y))]) (by kernel_rfl) cx_ a_ hI_) hI_
  refine qQ (bf h14) ?_
  have hS:qH (iS y)=[42]++Lib.itoa (iS y):=if_neg (by omega)
  have hS2:=congrArg List.length hS
  simp only [List.length_append,List.length_cons,List.length_nil] at hS2
  have hIt:=Lib.itoa_length_le (iS y) (by omega) (by omega)
  refine QJ mxd [(5,.call [] [(iv (iS y))] [] (sv (st (Lib.itoa (iS y)))) []),(6,.val (.av (.string (st (([42]:TX)++(Lib.itoa (iS y))))))),(7,.call [0,306] [(.opt 0 0),(sv (st (([42]:TX)++(Lib.itoa (iS y)))))] [some (77,[(.opn 0 0),(.osl 1 0 ((t++qD y:qP).length))]),some (5,(qS (t++qD y)))] (.tup [(nv (((([42]:TX)++(Lib.itoa (iS y)))).length)),(.av .nilIface)]) [some (77,[(.opn 0 0),(.osl 2 0 (((t++qD y)++(([42]:TX)++(Lib.itoa (iS y))):qP).length))]),none,some (5,(qS ((t++qD y)++(([42]:TX)++(Lib.itoa (iS y))))))])] [[],[0],[0,1],[],[3],[3,4],[3,4,5],[0,1,2,3,4,5,6]] [([114],[0]),([116],[114]),([118],[116]),([120],[6]),([122],[5,120]),([124],[122]),([126],[124]),([128,1,613,789],[1,118,126,613])] [.k2,.d,.d,.n,.k1,.d,.n] [pb 0 77 [(.opn 0 0),(.osl 394 0 (((t++qD y)++(([42]:TX)++(Lib.itoa (iS y))):qP).length))],pb 394 5 (qM (yH [0,306] 394) (qS ((t++qD y)++(([42]:TX)++(Lib.itoa (iS y))))))] (yC 378 (zx (iS y) (by omega) (by omega)) (oc (by first|omega|(simp <;> omega):((([42]:TX).length+(Lib.itoa (iS y)).length:Nat):Int)≤9223372036854775807) (oc (qJ _ _:st ([42]:TX)++st (Lib.itoa (iS y))=st (([42]:TX)++(Lib.itoa (iS y)))) (oc (wv (t++qD y) (([42]:TX)++(Lib.itoa (iS y))) (by (first|omega|(simp only [List.length_append,List.length_cons,List.length_nil];omega)))) (oc (rfl:[(.opt 0 0),(sv (st (([42]:TX)++(Lib.itoa (iS y)))))]=qM (qY [0,306] 394) [(.opt 0 0),(sv (st (([42]:TX)++(Lib.itoa (iS y)))))]) (oc (rfl:[(.opn 0 0),(.osl 306 0 ((t++qD y:qP).length))]=qM (qY [0,306] 394) [(.opn 0 0),(.osl 1 0 ((t++qD y:qP).length))]) (oc ((qG (qI _)).symm:(qS (t++qD y))=qM (qY [0,306] 394) (qS (t++qD y))) oz)))))))<|qX (Wk.eq (show _=[ps 0 (.opt 0 0),ps 3 (.opt 2 0),pb 0 77 [(.opn 0 0),(.osl 394 0 (((t++qD y)++(([42]:TX)++(Lib.itoa (iS y))):qP).length))],pb 2 50 [(iv (iK y)),(iv (iS y)),(.ssl (zF (iP y)) 0 ((iP y).length)),(iv ((iB y).1)),(iv ((iB y).2)),(sv (st (iL y))),(.ssl (qN (iC y)) 0 ((iC y).length))],pb 394 5 (qS ((t++qD y)++(([42]:TX)++(Lib.itoa (iS y)))))] from by simp only [qG (qI _)])) ?_
  refine qA<|qX (Wk.eq (show _=[ps 0 (.opt 0 0),ps 3 (.opt 2 0),pb 0 77 [(.opn 0 0),(.osl 394 0 ((t++qD y++qH (iS y):qP).length))],pb 2 50 [(iv (iK y)),(iv (iS y)),(.ssl (zF (iP y)) 0 ((iP y).length)),(iv ((iB y).1)),(iv ((iB y).2)),(sv (st (iL y))),(.ssl (qN (iC y)) 0 ((iC y).length))],pb 394 5 (qS (t++qD y++qH (iS y)))] from by rw [hS])) ?_
  refine zX mxd [(2,.val (.av (.bool (!decide ((iL y)=([]:TX))))))] [.k2,.n,.r] [ps 67 (bv (!(decide ((iL y)=([]:TX)))))] (oc (jA _ _:(!((st (iL y)).toList == (st ([]:TX)).toList)) = !decide ((iL y)=([]:TX))) oz) ?_
  by_cases h16:(iL y)=([]:TX)
  ·refine qT (bt h16)<|qE ?_
   have hT:t++zP y=t++qD y++qH (iS y):=by rw [yU,show lyT (iL y)=[] from if_pos (by assumption),List.append_nil,List.append_assoc]
   exact fun cx_ a_ hI_=>zU (H':=[some (77,[(.opn 0 0),(.osl 2 0 ((t++zP y:qP).length))]),none,some (5,(qS (t++zP y)))]) (.inl rfl) (Wk.trans (Wk.eq (show _=[ps 0 (.opt 0 0),ps 3 (.opt 2 0),ps 67 (bv (!(decide ((iL y)=([]:TX))))),pb 0 77 [(.opn 0 0),(.osl 394 0 ((t++zP y:qP).length))],pb 2 50 [(iv (iK y)),(iv (iS y)),(.ssl (zF (iP y)) 0 ((iP y).length)),(iv ((iB y).1)),(iv ((iB y).2)),(sv (st (iL y))),(.ssl (qN (iC y)) 0 ((iC y).length))],pb 394 5 (qS (t++zP y))] from by rw [hT])) (Wk.ren3 [pb 0 77 [(.opn 0 0),(.osl 2 0 ((t++zP y:qP).length))],pb 2 5 (qS (t++zP y))] 2 hc0 [0,1,394] [(kb 2,(qS (t++zP y)))] (oc (qI _) (oz)) (by kernel_rfl) rfl rfl (by kernel_rfl) (by kernel_rfl))) rfl (oc rfl (oc rfl (oz))) (fun cx_ a_ hI_=>zK (l':=[pb 0 77 [(.opn 0 0),(.osl 2 0 ((t++zP y:qP).length))],pb 2 5 (qS (t++zP y))]) (by kernel_rfl) cx_ a_ hI_) hI_
  refine qQ (bf h16) ?_
  have hY:lyT (iL y)=[32,34]++iL y++[34]:=if_neg (by assumption)
  have hY2:=congrArg List.length hY
  simp only [List.length_append,List.length_cons,List.length_nil] at hY2
  refine wQ mxd [(5,.val (.av (.string (st (([32,34]:TX)++(iL y)))))),(6,.val (.av (.string (st ((([32,34]:TX)++(iL y))++([34]:TX)))))),(7,.call [0,394] [(.opt 0 0),(sv (st ((([32,34]:TX)++(iL y))++([34]:TX))))] [some (77,[(.opn 0 0),(.osl 1 0 ((t++qD y++qH (iS y):qP).length))]),some (5,(qS (t++qD y++qH (iS y))))] (.tup [(nv ((((([32,34]:TX)++(iL y))++([34]:TX))).length)),(.av .nilIface)]) [some (77,[(.opn 0 0),(.osl 2 0 (((t++qD y++qH (iS y))++((([32,34]:TX)++(iL y))++([34]:TX)):qP).length))]),none,some (5,(qS ((t++qD y++qH (iS y))++((([32,34]:TX)++(iL y))++([34]:TX)))))])] [[],[0],[0,1],[],[3],[3,4],[3,4,5],[0,1,2,3,4,5,6]] [([136],[0]),([138],[136]),([140],[138]),([142],[6]),([144],[5,142]),([146],[144]),([148],[146]),([150,1,789,965],[1,140,148,789])] [pb 0 77 [(.opn 0 0),(.osl 482 0 (((t++qD y++qH (iS y))++((([32,34]:TX)++(iL y))++([34]:TX)):qP).length))],pb 482 5 (qM (yH [0,394] 482) (qS ((t++qD y++qH (iS y))++((([32,34]:TX)++(iL y))++([34]:TX)))))] (oc (by first|omega|(simp <;> omega):((([32,34]:TX).length+(iL y).length:Nat):Int)≤9223372036854775807) (oc (qJ _ _:st ([32,34]:TX)++st (iL y)=st (([32,34]:TX)++(iL y))) (oc (by first|omega|(simp <;> omega):(((([32,34]:TX)++(iL y)).length+([34]:TX).length:Nat):Int)≤9223372036854775807) (oc (qJ _ _:st (([32,34]:TX)++(iL y))++st ([34]:TX)=st ((([32,34]:TX)++(iL y))++([34]:TX))) (oc (wv (t++qD y++qH (iS y)) ((([32,34]:TX)++(iL y))++([34]:TX)) (by (first|omega|(simp only [List.length_append,List.length_cons,List.length_nil];omega)))) (oc (rfl:[(.opt 0 0),(sv (st ((([32,34]:TX)++(iL y))++([34]:TX))))]=qM (qY [0,394] 482) [(.opt 0 0),(sv (st ((([32,34]:TX)++(iL y))++([34]:TX))))]) (oc (rfl:[(.opn 0 0),(.osl 394 0 ((t++qD y++qH (iS y):qP).length))]=qM (qY [0,394] 482) [(.opn 0 0),(.osl 1 0 ((t++qD y++qH (iS y):qP).length))]) (oc ((qG (qI _)).symm:(qS (t++qD y++qH (iS y)))=qM (qY [0,394] 482) (qS (t++qD y++qH (iS y)))) oz)))))))) ?_
  have hT:t++zP y=t++qD y++qH (iS y)++([32,34]++iL y++[34]):=by rw [yU,hY];simp only [List.append_assoc]
  exact fun cx_ a_ hI_=>zU (H':=[some (77,[(.opn 0 0),(.osl 2 0 ((t++zP y:qP).length))]),none,some (5,(qS (t++zP y)))]) (.inl rfl) (Wk.trans (Wk.eq (show _=[pb 0 77 [(.opn 0 0),(.osl 482 0 (((t++qD y++qH (iS y))++((([32,34]:TX)++(iL y))++([34]:TX)):qP).length))],pb 482 5 (qS ((t++qD y++qH (iS y))++((([32,34]:TX)++(iL y))++([34]:TX))))] from by simp only [qG (qI _)])) (Wk.trans (Wk.eq (show _=[pb 0 77 [(.opn 0 0),(.osl 482 0 ((t++zP y:qP).length))],pb 482 5 (qS (t++zP y))] from by rw [hT])) (Wk.ren3 [pb 0 77 [(.opn 0 0),(.osl 2 0 ((t++zP y:qP).length))],pb 2 5 (qS (t++zP y))] 2 hc0 [0,1,482] [(kb 2,(qS (t++zP y)))] (oc (qI _) (oz)) (by kernel_rfl) rfl rfl (by kernel_rfl) (by kernel_rfl)))) rfl (oc rfl (oc rfl (oz))) (fun cx_ a_ hI_=>zK (l':=[pb 0 77 [(.opn 0 0),(.osl 2 0 ((t++zP y:qP).length))],pb 2 5 (qS (t++zP y))]) (by kernel_rfl) cx_ a_ hI_) hI_
 refine qT (zM h13)<|qE<|qA ?_
 have hM:qD y=(91 :: (qZ (iC y)++[93])):=by unfold qD upT;rw [if_neg (show ¬ iK y=2 from by omega),if_neg (show ¬ iK y=3 from by omega),if_neg (show ¬ iK y=1 from by omega),if_neg (show ¬ iK y=5 from by omega)];rfl
 have hM2:=congrArg List.length hM
 try simp only [List.length_append,List.length_cons,List.length_nil] at hM2
 refine zX mxd [(3,.call [0,1] [(.opt 0 0),(.av (.int .u8 91))] [some (77,[(.opn 0 0),(.osl 1 0 t.length)]),some (5,(qS t))] (.av .nilIface) [some (77,[(.opn 0 0),(.osl 2 0 ((t++[91]:qP).length))]),none,some (5,(qS (t++[91])))])] [.k2,.d,.d,.n,.d,.k1,.n] [pb 0 77 [(.opn 0 0),(.osl 122 0 ((t++[91]:qP).length))],pb 122 5 (qM (yH [0,1] 122) (qS (t++[91])))] (oc (YV t 91 (by (first|omega|(simp only [List.length_append,List.length_cons,List.length_nil];omega)))) (oc (rfl:[(.opt 0 0),(.av (.int .u8 91))]=qM (qY [0,1] 122) [(.opt 0 0),(.av (.int .u8 91))]) (oc (rfl:[(.opn 0 0),(.osl 1 0 t.length)]=qM (qY [0,1] 122) [(.opn 0 0),(.osl 1 0 t.length)]) (oc ((qG (qI _)).symm:(qS t)=qM (qY [0,1] 122) (qS t)) oz))))<|qX (Wk.eq (show _=[ps 0 (.opt 0 0),ps 3 (.opt 2 0),pb 0 77 [(.opn 0 0),(.osl 122 0 ((t++[91]:qP).length))],pb 2 50 [(iv (iK y)),(iv (iS y)),(.ssl (zF (iP y)) 0 ((iP y).length)),(iv ((iB y).1)),(iv ((iB y).2)),(sv (st (iL y))),(.ssl (qN (iC y)) 0 ((iC y).length))],pb 122 5 (qS (t++[91]))] from by simp only [qG (qI _)])) ?_
 refine qA<|zX mxd [(3,.call [0,122] [(.opt 0 0),(.ssl (qN (iC y)) 0 ((iC y).length))] [some (77,[(.opn 0 0),(.osl 1 0 ((t++[91]:qP).length))]),some (5,(qS (t++[91])))] (.tup []) [some (77,[(.opn 0 0),(.osl 2 0 (((t++[91])++qZ (iC y):qP).length))]),none,some (5,(qS ((t++[91])++qZ (iC y))))])] [.k2,.d,.n,.k1,.d,.n] [pb 0 77 [(.opn 0 0),(.osl 154 0 (((t++[91])++qZ (iC y):qP).length))],pb 154 5 (qM (yH [0,122] 154) (qS ((t++[91])++qZ (iC y))))] (oc (ihL (iC y) (t++[91]) (wZ y) (by (first|omega|(simp only [List.length_append,List.length_cons,List.length_nil];omega))) hx5 hx4 hpr.2.1) (oc (rfl:[(.opt 0 0),(.ssl (qN (iC y)) 0 ((iC y).length))]=qM (qY [0,122] 154) [(.opt 0 0),(.ssl (qN (iC y)) 0 ((iC y).length))]) (oc (rfl:[(.opn 0 0),(.osl 122 0 ((t++[91]:qP).length))]=qM (qY [0,122] 154) [(.opn 0 0),(.osl 1 0 ((t++[91]:qP).length))]) (oc ((qG (qI _)).symm:(qS (t++[91]))=qM (qY [0,122] 154) (qS (t++[91]))) oz))))<|qX (Wk.eq (show _=[ps 0 (.opt 0 0),ps 3 (.opt 2 0),pb 0 77 [(.opn 0 0),(.osl 154 0 (((t++[91])++qZ (iC y):qP).length))],pb 2 50 [(iv (iK y)),(iv (iS y)),(.ssl (zF (iP y)) 0 ((iP y).length)),(iv ((iB y).1)),(iv ((iB y).2)),(sv (st (iL y))),(.ssl (qN (iC y)) 0 ((iC y).length))],pb 154 5 (qS ((t++[91])++qZ (iC y)))] from by simp only [qG (qI _)])) ?_
 refine zX mxd [(3,.call [0,154] [(.opt 0 0),(.av (.int .u8 93))] [some (77,[(.opn 0 0),(.osl 1 0 (((t++[91])++qZ (iC y):qP).length))]),some (5,(qS ((t++[91])++qZ (iC y))))] (.av .nilIface) [some (77,[(.opn 0 0),(.osl 2 0 ((((t++[91])++qZ (iC y))++[93]:qP).length))]),none,some (5,(qS (((t++[91])++qZ (iC y))++[93])))])] [.k2,.d,.n,.k1,.d,.n] [pb 0 77 [(.opn 0 0),(.osl 186 0 ((((t++[91])++qZ (iC y))++[93]:qP).length))],pb 186 5 (qM (yH [0,154] 186) (qS (((t++[91])++qZ (iC y))++[93])))] (oc (YV ((t++[91])++qZ (iC y)) 93 (by (first|omega|(simp only [List.length_append,List.length_cons,List.length_nil];omega)))) (oc (rfl:[(.opt 0 0),(.av (.int .u8 93))]=qM (qY [0,154] 186) [(.opt 0 0),(.av (.int .u8 93))]) (oc (rfl:[(.opn 0 0),(.osl 154 0 (((t++[91])++qZ (iC y):qP).length))]=qM (qY [0,154] 186) [(.opn 0 0),(.osl 1 0 (((t++[91])++qZ (iC y):qP).length))]) (oc ((qG (qI _)).symm:(qS ((t++[91])++qZ (iC y)))=qM (qY [0,154] 186) (qS ((t++[91])++qZ (iC y)))) oz))))<|zE<|qX (Wk.eq (show _=[ps 0 (.opt 0 0),ps 3 (.opt 2 0),pb 0 77 [(.opn 0 0),(.osl 186 0 ((((t++[91])++qZ (iC y))++[93]:qP).length))],pb 2 50 [(iv (iK y)),(iv (iS y)),(.ssl (zF (iP y)) 0 ((iP y).length)),(iv ((iB y).1)),(iv ((iB y).2)),(sv (st (iL y))),(.ssl (qN (iC y)) 0 ((iC y).length))],pb 186 5 (qS (((t++[91])++qZ (iC y))++[93]))] from by simp only [qG (qI _)])) ?_
 refine qA<|qA<|qX (Wk.eq (show _=[ps 0 (.opt 0 0),ps 3 (.opt 2 0),pb 0 77 [(.opn 0 0),(.osl 186 0 ((t++qD y:qP).length))],pb 2 50 [(iv (iK y)),(iv (iS y)),(.ssl (zF (iP y)) 0 ((iP y).length)),(iv ((iB y).1)),(iv ((iB y).2)),(sv (st (iL y))),(.ssl (qN (iC y)) 0 ((iC y).length))],pb 186 5 (qS (t++qD y))] from by rw [hM];try simp only [List.append_assoc,List.cons_append,List.nil_append])) ?_
 refine qK mxd [.k2,.n,.r] [ps 56 (bv (!(decide ((iS y)=1))))] ?_
 by_cases h17:(iS y)=1
 ·refine qT (bt h17)<|qE<|qA ?_
  have hS:qH (iS y)=[]:=if_pos (by omega)
  refine qX (Wk.eq (show _=[ps 0 (.opt 0 0),ps 3 (.opt 2 0),ps 56 (bv (!(decide ((iS y)=1)))),pb 0 77 [(.opn 0 0),(.osl 186 0 ((t++qD y++qH (iS y):qP).length))],pb 2 50 [(iv (iK y)),(iv (iS y)),(.ssl (zF (iP y)) 0 ((iP y).length)),(iv ((iB y).1)),(iv ((iB y).2)),(sv (st (iL y))),(.ssl (qN (iC y)) 0 ((iC y).length))],pb 186 5 (qS (t++qD y++qH (iS y)))] from by rw [hS];rw [List.append_nil])) ?_
  refine zX mxd [(2,.val (.av (.bool (!decide ((iL y)=([]:TX))))))] [.k2,.d,.n,.r] [ps 67 (bv (!(decide ((iL y)=([]:TX)))))] (oc (jA _ _:(!((st (iL y)).toList == (st ([]:TX)).toList)) = !decide ((iL y)=([]:TX))) oz) ?_
  by_cases h18:(iL y)=([]:TX)
  ·refine qT (bt h18)<|qE ?_
   have hT:t++zP y=t++qD y++qH (iS y):=by rw [yU,show lyT (iL y)=[] from if_pos (by assumption),List.append_nil,List.append_assoc]
   exact fun cx_ a_ hI_=>zU (H':=[some (77,[(.opn 0 0),(.osl 2 0 ((t++zP y:qP).length))]),none,some (5,(qS (t++zP y)))]) (.inl rfl) (Wk.trans (Wk.eq (show _=[ps 0 (.opt 0 0),ps 3 (.opt 2 0),ps 67 (bv (!(decide ((iL y)=([]:TX))))),pb 0 77 [(.opn 0 0),(.osl 186 0 ((t++zP y:qP).length))],pb 2 50 [(iv (iK y)),(iv (iS y)),(.ssl (zF (iP y)) 0 ((iP y).length)),(iv ((iB y).1)),(iv ((iB y).2)),(sv (st (iL y))),(.ssl (qN (iC y)) 0 ((iC y).length))],pb 186 5 (qS (t++zP y))] from by rw [hT])) (Wk.ren3 [pb 0 77 [(.opn 0 0),(.osl 2 0 ((t++zP y:qP).length))],pb 2 5 (qS (t++zP y))] 2 hc0 [0,1,186] [(kb 2,(qS (t++zP y)))] (oc (qI _) (oz)) (by kernel_rfl) rfl rfl (by kernel_rfl) (by kernel_rfl))) rfl (oc rfl (oc rfl (oz))) (fun cx_ a_ hI_=>zK (l':=[pb 0 77 [(.opn 0 0),(.osl 2 0 ((t++zP y:qP).length))],pb 2 5 (qS (t++zP y))]) (by kernel_rfl) cx_ a_ hI_) hI_
  refine qQ (bf h18) ?_
  have hY:lyT (iL y)=[32,34]++iL y++[34]:=if_neg (by assumption)
  have hY2:=congrArg List.length hY
  simp only [List.length_append,List.length_cons,List.length_nil] at hY2
  refine wQ mxd [(5,.val (.av (.string (st (([32,34]:TX)++(iL y)))))),(6,.val (.av (.string (st ((([32,34]:TX)++(iL y))++([34]:TX)))))),(7,.call [0,186] [(.opt 0 0),(sv (st ((([32,34]:TX)++(iL y))++([34]:TX))))] [some (77,[(.opn 0 0),(.osl 1 0 ((t++qD y++qH (iS y):qP).length))]),some (5,(qS (t++qD y++qH (iS y))))] (.tup [(nv ((((([32,34]:TX)++(iL y))++([34]:TX))).length)),(.av .nilIface)]) [some (77,[(.opn 0 0),(.osl 2 0 (((t++qD y++qH (iS y))++((([32,34]:TX)++(iL y))++([34]:TX)):qP).length))]),none,some (5,(qS ((t++qD y++qH (iS y))++((([32,34]:TX)++(iL y))++([34]:TX)))))])] [[],[0],[0,1],[],[3],[3,4],[3,4,5],[0,1,2,3,4,5,6]] [([136],[0]),([138],[136]),([140],[138]),([142],[6]),([144],[5,142]),([146],[144]),([148],[146]),([150,1,373,597],[1,140,148,373])] [pb 0 77 [(.opn 0 0),(.osl 298 0 (((t++qD y++qH (iS y))++((([32,34]:TX)++(iL y))++([34]:TX)):qP).length))],pb 298 5 (qM (yH [0,186] 298) (qS ((t++qD y++qH (iS y))++((([32,34]:TX)++(iL y))++([34]:TX)))))] (oc (by first|omega|(simp <;> omega):((([32,34]:TX).length+(iL y).length:Nat):Int)≤9223372036854775807) (oc (qJ _ _:st ([32,34]:TX)++st (iL y)=st (([32,34]:TX)++(iL y))) (oc (by first|omega|(simp <;> omega):(((([32,34]:TX)++(iL y)).length+([34]:TX).length:Nat):Int)≤9223372036854775807) (oc (qJ _ _:st (([32,34]:TX)++(iL y))++st ([34]:TX)=st ((([32,34]:TX)++(iL y))++([34]:TX))) (oc (wv (t++qD y++qH (iS y)) ((([32,34]:TX)++(iL y))++([34]:TX)) (by (first|omega|(simp only [List.length_append,List.length_cons,List.length_nil];omega)))) (oc (rfl:[(.opt 0 0),(sv (st ((([32,34]:TX)++(iL y))++([34]:TX))))]=qM (qY [0,186] 298) [(.opt 0 0),(sv (st ((([32,34]:TX)++(iL y))++([34]:TX))))]) (oc (rfl:[(.opn 0 0),(.osl 186 0 ((t++qD y++qH (iS y):qP).length))]=qM (qY [0,186] 298) [(.opn 0 0),(.osl 1 0 ((t++qD y++qH (iS y):qP).length))]) (oc ((qG (qI _)).symm:(qS (t++qD y++qH (iS y)))=qM (qY [0,186] 298) (qS (t++qD y++qH (iS y)))) oz)))))))) ?_
  have hT:t++zP y=t++qD y++qH (iS y)++([32,34]++iL y++[34]):=by rw [yU,hY];simp only [List.append_assoc]
  exact fun cx_ a_ hI_=>zU (H':=[some (77,[(.opn 0 0),(.osl 2 0 ((t++zP y:qP).length))]),none,some (5,(qS (t++zP y)))]) (.inl rfl) (Wk.trans (Wk.eq (show _=[pb 0 77 [(.opn 0 0),(.osl 298 0 (((t++qD y++qH (iS y))++((([32,34]:TX)++(iL y))++([34]:TX)):qP).length))],pb 298 5 (qS ((t++qD y++qH (iS y))++((([32,34]:TX)++(iL y))++([34]:TX))))] from by simp only [qG (qI _)])) (Wk.trans (Wk.eq (show _=[pb 0 77 [(.opn 0 0),(.osl 298 0 ((t++zP y:qP).length))],pb 298 5 (qS (t++zP y))] from by rw [hT])) (Wk.ren3 [pb 0 77 [(.opn 0 0),(.osl 2 0 ((t++zP y:qP).length))],pb 2 5 (qS (t++zP y))] 2 hc0 [0,1,298] [(kb 2,(qS (t++zP y)))] (oc (qI _) (oz)) (by kernel_rfl) rfl rfl (by kernel_rfl) (by kernel_rfl)))) rfl (oc rfl (oc rfl (oz))) (fun cx_ a_ hI_=>zK (l':=[pb 0 77 [(.opn 0 0),(.osl 2 0 ((t++zP y:qP).length))],pb 2 5 (qS (t++zP y))]) (by kernel_rfl) cx_ a_ hI_) hI_
 refine qQ (bf h17) ?_
 have hS:qH (iS y)=[42]++Lib.itoa (iS y):=if_neg (by omega)
 have hS2:=congrArg List.length hS
 simp only [List.length_append,List.length_cons,List.length_nil] at hS2
 have hIt:=Lib.itoa_length_le (iS y) (by omega) (by omega)
 refine QJ mxd [(5,.call [] [(iv (iS y))] [] (sv (st (Lib.itoa (iS y)))) []),(6,.val (.av (.string (st (([42]:TX)++(Lib.itoa (iS y))))))),(7,.call [0,186] [(.opt 0 0),(sv (st (([42]:TX)++(Lib.itoa (iS y)))))] [some (77,[(.opn 0 0),(.osl 1 0 ((t++qD y:qP).length))]),some (5,(qS (t++qD y)))] (.tup [(nv (((([42]:TX)++(Lib.itoa (iS y)))).length)),(.av .nilIface)]) [some (77,[(.opn 0 0),(.osl 2 0 (((t++qD y)++(([42]:TX)++(Lib.itoa (iS y))):qP).length))]),none,some (5,(qS ((t++qD y)++(([42]:TX)++(Lib.itoa (iS y))))))])] [[],[0],[0,1],[],[3],[3,4],[3,4,5],[0,1,2,3,4,5,6]] [([114],[0]),([116],[114]),([118],[116]),([120],[6]),([122],[5,120]),([124],[122]),([126],[124]),([128,1,373,549],[1,118,126,373])] [.k2,.d,.d,.n,.k1,.d,.n] [pb 0 77 [(.opn 0 0),(.osl 274 0 (((t++qD y)++(([42]:TX)++(Lib.itoa (iS y))):qP).length))],pb 274 5 (qM (yH [0,186] 274) (qS ((t++qD y)++(([42]:TX)++(Lib.itoa (iS y))))))] (yC 258 (zx (iS y) (by omega) (by omega)) (oc (by first|omega|(simp <;> omega):((([42]:TX).length+(Lib.itoa (iS y)).length:Nat):Int)≤9223372036854775807) (oc (qJ _ _:st ([42]:TX)++st (Lib.itoa (iS y))=st (([42]:TX)++(Lib.itoa (iS y)))) (oc (wv (t++qD y) (([42]:TX)++(Lib.itoa (iS y))) (by (first|omega|(simp only [List.length_append,List.length_cons,List.length_nil];omega)))) (oc (rfl:[(.opt 0 0),(sv (st (([42]:TX)++(Lib.itoa (iS y)))))]=qM (qY [0,186] 274) [(.opt 0 0),(sv (st (([42]:TX)++(Lib.itoa (iS y)))))]) (oc (rfl:[(.opn 0 0),(.osl 186 0 ((t++qD y:qP).length))]=qM (qY [0,186] 274) [(.opn 0 0),(.osl 1 0 ((t++qD y:qP).length))]) (oc ((qG (qI _)).symm:(qS (t++qD y))=qM (qY [0,186] 274) (qS (t++qD y))) oz)))))))<|qX (Wk.eq (show _=[ps 0 (.opt 0 0),ps 3 (.opt 2 0),pb 0 77 [(.opn 0 0),(.osl 274 0 (((t++qD y)++(([42]:TX)++(Lib.itoa (iS y))):qP).length))],pb 2 50 [(iv (iK y)),(iv (iS y)),(.ssl (zF (iP y)) 0 ((iP y).length)),(iv ((iB y).1)),(iv ((iB y).2)),(sv (st (iL y))),(.ssl (qN (iC y)) 0 ((iC y).length))],pb 274 5 (qS ((t++qD y)++(([42]:TX)++(Lib.itoa (iS y)))))] from by simp only [qG (qI _)])) ?_
 refine qA<|qX (Wk.eq (show _=[ps 0 (.opt 0 0),ps 3 (.opt 2 0),pb 0 77 [(.opn 0 0),(.osl 274 0 ((t++qD y++qH (iS y):qP).length))],pb 2 50 [(iv (iK y)),(iv (iS y)),(.ssl (zF (iP y)) 0 ((iP y).length)),(iv ((iB y).1)),(iv ((iB y).2)),(sv (st (iL y))),(.ssl (qN (iC y)) 0 ((iC y).length))],pb 274 5 (qS (t++qD y++qH (iS y)))] from by rw [hS])) ?_
 refine zX mxd [(2,.val (.av (.bool (!decide ((iL y)=([]:TX))))))] [.k2,.n,.r] [ps 67 (bv (!(decide ((iL y)=([]:TX)))))] (oc (jA _ _:(!((st (iL y)).toList == (st ([]:TX)).toList)) = !decide ((iL y)=([]:TX))) oz) ?_
 by_cases h19:(iL y)=([]:TX)
 ·refine qT (bt h19)<|qE ?_
  have hT:t++zP y=t++qD y++qH (iS y):=by rw [yU,show lyT (iL y)=[] from if_pos (by assumption),List.append_nil,List.append_assoc]
  exact fun cx_ a_ hI_=>zU (H':=[some (77,[(.opn 0 0),(.osl 2 0 ((t++zP y:qP).length))]),none,some (5,(qS (t++zP y)))]) (.inl rfl) (Wk.trans (Wk.eq (show _=[ps 0 (.opt 0 0),ps 3 (.opt 2 0),ps 67 (bv (!(decide ((iL y)=([]:TX))))),pb 0 77 [(.opn 0 0),(.osl 274 0 ((t++zP y:qP).length))],pb 2 50 [(iv (iK y)),(iv (iS y)),(.ssl (zF (iP y)) 0 ((iP y).length)),(iv ((iB y).1)),(iv ((iB y).2)),(sv (st (iL y))),(.ssl (qN (iC y)) 0 ((iC y).length))],pb 274 5 (qS (t++zP y))] from by rw [hT])) (Wk.ren3 [pb 0 77 [(.opn 0 0),(.osl 2 0 ((t++zP y:qP).length))],pb 2 5 (qS (t++zP y))] 2 hc0 [0,1,274] [(kb 2,(qS (t++zP y)))] (oc (qI _) (oz)) (by kernel_rfl) rfl rfl (by kernel_rfl) (by kernel_rfl))) rfl (oc rfl (oc rfl (oz))) (fun cx_ a_ hI_=>zK (l':=[pb 0 77 [(.opn 0 0),(.osl 2 0 ((t++zP y:qP).length))],pb 2 5 (qS (t++zP y))]) (by kernel_rfl) cx_ a_ hI_) hI_
 refine qQ (bf h19) ?_
 have hY:lyT (iL y)=[32,34]++iL y++[34]:=if_neg (by assumption)
 have hY2:=congrArg List.length hY
 simp only [List.length_append,List.length_cons,List.length_nil] at hY2
 refine wQ mxd [(5,.val (.av (.string (st (([32,34]:TX)++(iL y)))))),(6,.val (.av (.string (st ((([32,34]:TX)++(iL y))++([34]:TX)))))),(7,.call [0,274] [(.opt 0 0),(sv (st ((([32,34]:TX)++(iL y))++([34]:TX))))] [some (77,[(.opn 0 0),(.osl 1 0 ((t++qD y++qH (iS y):qP).length))]),some (5,(qS (t++qD y++qH (iS y))))] (.tup [(nv ((((([32,34]:TX)++(iL y))++([34]:TX))).length)),(.av .nilIface)]) [some (77,[(.opn 0 0),(.osl 2 0 (((t++qD y++qH (iS y))++((([32,34]:TX)++(iL y))++([34]:TX)):qP).length))]),none,some (5,(qS ((t++qD y++qH (iS y))++((([32,34]:TX)++(iL y))++([34]:TX)))))])] [[],[0],[0,1],[],[3],[3,4],[3,4,5],[0,1,2,3,4,5,6]] [([136],[0]),([138],[136]),([140],[138]),([142],[6]),([144],[5,142]),([146],[144]),([148],[146]),([150,1,549,725],[1,140,148,549])] [pb 0 77 [(.opn 0 0),(.osl 362 0 (((t++qD y++qH (iS y))++((([32,34]:TX)++(iL y))++([34]:TX)):qP).length))],pb 362 5 (qM (yH [0,274] 362) (qS ((t++qD y++qH (iS y))++((([32,34]:TX)++(iL y))++([34]:TX)))))] (oc (by first|omega|(simp <;> omega):((([32,34]:TX).length+(iL y).length:Nat):Int)≤9223372036854775807) (oc (qJ _ _:st ([32,34]:TX)++st (iL y)=st (([32,34]:TX)++(iL y))) (oc (by first|omega|(simp <;> omega):(((([32,34]:TX)++(iL y)).length+([34]:TX).length:Nat):Int)≤9223372036854775807) (oc (qJ _ _:st (([32,34]:TX)++(iL y))++st ([34]:TX)=st ((([32,34]:TX)++(iL y))++([34]:TX))) (oc (wv (t++qD y++qH (iS y)) ((([32,34]:TX)++(iL y))++([34]:TX)) (by (first|omega|(simp only [List.length_append,List.length_cons,List.length_nil];omega)))) (oc (rfl:[(.opt 0 0),(sv (st ((([32,34]:TX)++(iL y))++([34]:TX))))]=qM (qY [0,274] 362) [(.opt 0 0),(sv (st ((([32,34]:TX)++(iL y))++([34]:TX))))]) (oc (rfl:[(.opn 0 0),(.osl 274 0 ((t++qD y++qH (iS y):qP).length))]=qM (qY [0,274] 362) [(.opn 0 0),(.osl 1 0 ((t++qD y++qH (iS y):qP).length))]) (oc ((qG (qI _)).symm:(qS (t++qD y++qH (iS y)))=qM (qY [0,274] 362) (qS (t++qD y++qH (iS y)))) oz)))))))) ?_
 have hT:t++zP y=t++qD y++qH (iS y)++([32,34]++iL y++[34]):=by rw [yU,hY];simp only [List.append_assoc]
 exact fun cx_ a_ hI_=>zU (H':=[some (77,[(.opn 0 0),(.osl 2 0 ((t++zP y:qP).length))]),none,some (5,(qS (t++zP y)))]) (.inl rfl) (Wk.trans (Wk.eq (show _=[pb 0 77 [(.opn 0 0),(.osl 362 0 (((t++qD y++qH (iS y))++((([32,34]:TX)++(iL y))++([34]:TX)):qP).length))],pb 362 5 (qS ((t++qD y++qH (iS y))++((([32,34]:TX)++(iL y))++([34]:TX))))] from by simp only [qG (qI _)])) (Wk.trans (Wk.eq (show _=[pb 0 77 [(.opn 0 0),(.osl 362 0 ((t++zP y:qP).length))],pb 362 5 (qS (t++zP y))] from by rw [hT])) (Wk.ren3 [pb 0 77 [(.opn 0 0),(.osl 2 0 ((t++zP y:qP).length))],pb 2 5 (qS (t++zP y))] 2 hc0 [0,1,362] [(kb 2,(qS (t++zP y)))] (oc (qI _) (oz)) (by kernel_rfl) rfl rfl (by kernel_rfl) (by kernel_rfl)))) rfl (oc rfl (oc rfl (oz))) (fun cx_ a_ hI_=>zK (l':=[pb 0 77 [(.opn 0 0),(.osl 2 0 ((t++zP y:qP).length))],pb 2 5 (qS (t++zP y))]) (by kernel_rfl) cx_ a_ hI_) hI_
theorem pitems_step (l:List It) (t:qP) (ihI:∀ (x:It) (t:qP),SizeOf.sizeOf x<SizeOf.sizeOf l→t.length+(zP x).length≤140737488355328→QO x→prI x→PC Tryz.prog 62 [.opt 0 0,.agg (gI x)] [some (77,[(.opn 0 0),(.osl 1 0 t.length)]),some (5,(qS t))] (.tup []) [some (77,[(.opn 0 0),(.osl 2 0 ((t++zP x:qP).length))]),none,some (5,(qS (t++zP x)))]) (hb:t.length+(qZ l).length≤140737488355328) (hfl:wx l) (hll:l.length≤1466015503658) (hpl:prL l):PC Tryz.prog 29 [(.opt 0 0),(.ssl (qN l) 0 l.length)] [some (77,[(.opn 0 0),(.osl 1 0 t.length)]),some (5,(qS t))] (.tup []) [some (77,[(.opn 0 0),(.osl 2 0 ((t++qZ l:qP).length))]),none,some (5,(qS (t++qZ l)))]:=by
 refine zH Tryz.func29 rfl (by kernel_rfl) (Nat.le_of_ble_eq_true rfl) (by kernel_rfl) (l0:=[ps 0 (.opt 0 0),ps 1 (.ssl (qN l) 0 l.length),pb 0 77 [(.opn 0 0),(.osl 1 0 t.length)],pb 1 5 (qS t)]) rfl (fun c0 Bor hc0=>?_)
 refine qA<|qX (Wk.eq (show _=[ps 0 (.opt 0 0),ps 1 (.ssl (qN l) 0 l.length),pb 0 77 [(.opn 0 0),(.osl 1 0 ((t++qZ (l.take 0):qP).length))],pb 1 5 (qS (t++qZ (l.take 0)))] from by rw [List.take_zero,QE,List.append_nil])) ?_
 refine qK mxd [.k1,.d,.n,.n,.n,.r] [ps 6 (.ssl (qN l) 0 l.length),ps 7 (nv l.length),ps 8 (iv 0)]<|qU<|yB (α:={x:Nat // x≤l.length}) (fun x=>[ps 0 (.opt 0 0),ps 6 (.ssl (qN l) 0 l.length),ps 7 (nv l.length),ps 8 (nv x.1),pb 0 77 [(.opn 0 0),(.osl 2 0 ((t++qZ (l.take x.1):qP).length))],pb 2 5 (qS (t++qZ (l.take x.1)))]) (fun x=>l.length-x.1) 3 ⟨0,Nat.zero_le _⟩ (Wk.ren3D _ 2 hc0 [0,1,1] [(kb 2,(qS (t++qZ (l.take 0))))] (oc (qI _) (oz)) (by kernel_rfl) rfl (by kernel_rfl) (by kernel_rfl) (by kernel_rfl)) ?_
 rintro ⟨i,hi⟩
 refine qA<|qj mxd [] [ps 0 (.opt 0 0),ps 6 (.ssl (qN l) 0 l.length),ps 7 (nv l.length),ps 8 (nv i),ps 9 (bv (decide (((i:Nat):Int)<(l.length:Int)))),pb 0 77 [(.opn 0 0),(.osl 2 0 ((t++qZ (l.take i):qP).length))],pb 2 5 (qS (t++qZ (l.take i)))] (oz)<|qA ?_
 by_cases h1:(i:Int)<(l.length:Int)
 ·refine qQ (zO h1)<|qE<|qA<|qU<|qA ?_
  have hrm:=its_room (show i<l.length from by omega)
  have hple:=qjy l i
  refine zX mxd [(1,.nat (i*7)),(2,.cells [(iv (iK (l.getD i qB))),(iv (iS (l.getD i qB))),(.ssl (zF (iP (l.getD i qB))) 0 ((iP (l.getD i qB)).length)),(iv ((iB (l.getD i qB)).1)),(iv ((iB (l.getD i qB)).2)),(sv (st (iL (l.getD i qB)))),(.ssl (qN (iC (l.getD i qB))) 0 ((iC (l.getD i qB)).length))])] [.k1,.n,.n,.k3,.d,.k2,.n] [ps 4 (nv i),ps 5 (.opt 35 0),pb 35 50 [(iv (iK (l.getD i qB))),(iv (iS (l.getD i qB))),(.ssl (zF (iP (l.getD i qB))) 0 ((iP (l.getD i qB)).length)),(iv ((iB (l.getD i qB)).1)),(iv ((iB (l.getD i qB)).2)),(sv (st (iL (l.getD i qB)))),(.ssl (qN (iC (l.getD i qB))) 0 ((iC (l.getD i qB)).length))]] (oc (by omega:(0:Int)≤(i:Int)∧(i:Int)<(l.length:Int)) (oc (by omega:0+(((i:Nat):Int):Int).toNat*7=(i*7)) (oc (YM l i 0 7 (by omega) (by decide):(i*7)+7≤((qN l)).length∧(((qN l)).drop (i*7)).take 7=[(iv (iK (l.getD i qB))),(iv (iS (l.getD i qB))),(.ssl (zF (iP (l.getD i qB))) 0 ((iP (l.getD i qB)).length)),(iv ((iB (l.getD i qB)).1)),(iv ((iB (l.getD i qB)).2)),(sv (st (iL (l.getD i qB)))),(.ssl (qN (iC (l.getD i qB))) 0 ((iC (l.getD i qB)).length))]) oz)))<|qA<|qA<|qK mxd [.k1,.d,.k4,.n,.r] [ps 14 (bv (decide (0<(i:Int))))] ?_
  by_cases h2:0<(i:Int)
  ·refine qQ (zO h2) ?_
   have hrm2:=hrm.1
   rw [if_neg (show ¬ i=0 from by omega)] at hrm2
   refine zX mxd [(3,.call [0,2] [(.opt 0 0),(.av (.int .u8 32))] [some (77,[(.opn 0 0),(.osl 1 0 ((t++qZ (l.take i):qP).length))]),some (5,(qS (t++qZ (l.take i))))] (.av .nilIface) [some (77,[(.opn 0 0),(.osl 2 0 (((t++qZ (l.take i))++[32]:qP).length))]),none,some (5,(qS ((t++qZ (l.take i))++[32])))])] [.k5,.d,.d,.n,.d,.k1,.n] [pb 0 77 [(.opn 0 0),(.osl 99 0 (((t++qZ (l.take i))++[32]:qP).length))],pb 99 5 (qM (yH [0,2] 99) (qS ((t++qZ (l.take i))++[32])))] (oc (YV (t++qZ (l.take i)) 32 (by (first|omega|(simp only [List.length_append,List.length_cons,List.length_nil];omega)))) (oc (rfl:[(.opt 0 0),(.av (.int .u8 32))]=qM (qY [0,2] 99) [(.opt 0 0),(.av (.int .u8 32))]) (oc (rfl:[(.opn 0 0),(.osl 2 0 ((t++qZ (l.take i):qP).length))]=qM (qY [0,2] 99) [(.opn 0 0),(.osl 1 0 ((t++qZ (l.take i):qP).length))]) (oc ((qG (qI _)).symm:(qS (t++qZ (l.take i)))=qM (qY [0,2] 99) (qS (t++qZ (l.take i)))) oz))))<|qX (Wk.eq (show _=[ps 0 (.opt 0 0),ps 5 (.opt 35 0),ps 6 (.ssl (qN l) 0 l.length),ps 7 (nv l.length),ps 8 (nv i),pb 0 77 [(.opn 0 0),(.osl 99 0 (((t++qZ (l.take i))++[32]:qP).length))],pb 35 50 [(iv (iK (l.getD i qB))),(iv (iS (l.getD i qB))),(.ssl (zF (iP (l.getD i qB))) 0 ((iP (l.getD i qB)).length)),(iv ((iB (l.getD i qB)).1)),(iv ((iB (l.getD i qB)).2)),(sv (st (iL (l.getD i qB)))),(.ssl (qN (iC (l.getD i qB))) 0 ((iC (l.getD i qB)).length))],pb 99 5 (qS ((t++qZ (l.take i))++[32]))] from by simp only [qG (qI _)])) ?_
   rw [if_neg (show ¬ i=0 from by omega)] at hrm
   refine zX mxd [(2,.call [0,99] [(.opt 0 0),(.agg [(iv (iK (l.getD i qB))),(iv (iS (l.getD i qB))),(.ssl (zF (iP (l.getD i qB))) 0 ((iP (l.getD i qB)).length)),(iv ((iB (l.getD i qB)).1)),(iv ((iB (l.getD i qB)).2)),(sv (st (iL (l.getD i qB)))),(.ssl (qN (iC (l.getD i qB))) 0 ((iC (l.getD i qB)).length))])] [some (77,[(.opn 0 0),(.osl 1 0 (((t++qZ (l.take i))++[32]:qP).length))]),some (5,(qS ((t++qZ (l.take i))++[32])))] (.tup []) [some (77,[(.opn 0 0),(.osl 2 0 ((((t++qZ (l.take i))++[32])++zP (l.getD i qB):qP).length))]),none,some (5,(qS (((t++qZ (l.take i))++[32])++zP (l.getD i qB))))])] [.k1,.d,.k3,.d,.n,.d,.d,.n] [pb 0 77 [(.opn 0 0),(.osl 123 0 ((((t++qZ (l.take i))++[32])++zP (l.getD i qB):qP).length))],pb 123 5 (qM (yH [0,99] 123) (qS (((t++qZ (l.take i))++[32])++zP (l.getD i qB))))] (oc (ihI (l.getD i qB) ((t++qZ (l.take i))++[32]) (qaa (by omega)) (by (first|omega|(simp only [List.length_append,List.length_cons,List.length_nil];omega))) (jL hfl (by omega)) (hpl i (by omega)):PC Tryz.prog 62 [(.opt 0 0),(.agg [(iv (iK (l.getD i qB))),(iv (iS (l.getD i qB))),(.ssl (zF (iP (l.getD i qB))) 0 ((iP (l.getD i qB)).length)),(iv ((iB (l.getD i qB)).1)),(iv ((iB (l.getD i qB)).2)),(sv (st (iL (l.getD i qB)))),(.ssl (qN (iC (l.getD i qB))) 0 ((iC (l.getD i qB)).length))])] [some (77,[(.opn 0 0),(.osl 1 0 (((t++qZ (l.take i))++[32]:qP).length))]),some (5,(qS ((t++qZ (l.take i))++[32])))] (.tup []) [some (77,[(.opn 0 0),(.osl 2 0 ((((t++qZ (l.take i))++[32])++zP (l.getD i qB):qP).length))]),none,some (5,(qS (((t++qZ (l.take i))++[32])++zP (l.getD i qB))))]) (oc (rfl:[(.opt 0 0),(.agg [(iv (iK (l.getD i qB))),(iv (iS (l.getD i qB))),(.ssl (zF (iP (l.getD i qB))) 0 ((iP (l.getD i qB)).length)),(iv ((iB (l.getD i qB)).1)),(iv ((iB (l.getD i qB)).2)),(sv (st (iL (l.getD i qB)))),(.ssl (qN (iC (l.getD i qB))) 0 ((iC (l.getD i qB)).length))])]=qM (qY [0,99] 123) [(.opt 0 0),(.agg [(iv (iK (l.getD i qB))),(iv (iS (l.getD i qB))),(.ssl (zF (iP (l.getD i qB))) 0 ((iP (l.getD i qB)).length)),(iv ((iB (l.getD i qB)).1)),(iv ((iB (l.getD i qB)).2)),(sv (st (iL (l.getD i qB)))),(.ssl (qN (iC (l.getD i qB))) 0 ((iC (l.getD i qB)).length))])]) (oc (rfl:[(.opn 0 0),(.osl 99 0 (((t++qZ (l.take i))++[32]:qP).length))]=qM (qY [0,99] 123) [(.opn 0 0),(.osl 1 0 (((t++qZ (l.take i))++[32]:qP).length))]) (oc ((qG (qI _)).symm:(qS ((t++qZ (l.take i))++[32]))=qM (qY [0,99] 123) (qS ((t++qZ (l.take i))++[32]))) oz))))<|zE<|qX (Wk.eq (show _=[ps 0 (.opt 0 0),ps 6 (.ssl (qN l) 0 l.length),ps 7 (nv l.length),ps 8 (nv i),pb 0 77 [(.opn 0 0),(.osl 123 0 ((((t++qZ (l.take i))++[32])++zP (l.getD i qB):qP).length))],pb 123 5 (qS (((t++qZ (l.take i))++[32])++zP (l.getD i qB)))] from by simp only [qG (qI _)])) ?_
   refine zX mxd [] [.k3,.d,.n,.r] [ps 8 (iv (((i:Nat):Int)+1))] (oi (((i:Nat):Int)+1) (by omega) oz) ?_
   have hn:=qbs (show i<l.length from by omega)
   rw [if_neg (by omega)] at hn
   exact zQ ⟨i+1,by show i+1≤l.length;omega⟩ (Wk.trans (Wk.eq (show _=[ps 0 (.opt 0 0),ps 6 (.ssl (qN l) 0 l.length),ps 7 (nv l.length),ps 8 (nv (i+1)),pb 0 77 [(.opn 0 0),(.osl 123 0 ((t++qZ (l.take (i+1)):qP).length))],pb 123 5 (qS (t++qZ (l.take (i+1))))] from by rw [hn];simp only [List.append_assoc];rfl)) (Wk.ren3 _ 2 hc0 [0,1,123] [(kb 2,(qS (t++qZ (l.take (i+1)))))] (oc (qI _) (oz)) (by kernel_rfl) rfl rfl (by kernel_rfl) (by kernel_rfl))) (show l.length-(i+1)<l.length-i from by show l.length-(i+1)<l.length-i;omega)
  refine qT (zM h2)<|qE ?_
  rw [if_pos (show i=0 from by omega)] at hrm
  refine zX mxd [(2,.call [0,2] [(.opt 0 0),(.agg [(iv (iK (l.getD i qB))),(iv (iS (l.getD i qB))),(.ssl (zF (iP (l.getD i qB))) 0 ((iP (l.getD i qB)).length)),(iv ((iB (l.getD i qB)).1)),(iv ((iB (l.getD i qB)).2)),(sv (st (iL (l.getD i qB)))),(.ssl (qN (iC (l.getD i qB))) 0 ((iC (l.getD i qB)).length))])] [some (77,[(.opn 0 0),(.osl 1 0 ((t++qZ (l.take i):qP).length))]),some (5,(qS (t++qZ (l.take i))))] (.tup []) [some (77,[(.opn 0 0),(.osl 2 0 (((t++qZ (l.take i))++zP (l.getD i qB):qP).length))]),none,some (5,(qS ((t++qZ (l.take i))++zP (l.getD i qB))))])] [.k1,.d,.k3,.d,.d,.n,.d,.d,.n] [pb 0 77 [(.opn 0 0),(.osl 91 0 (((t++qZ (l.take i))++zP (l.getD i qB):qP).length))],pb 91 5 (qM (yH [0,2] 91) (qS ((t++qZ (l.take i))++zP (l.getD i qB))))] (oc (ihI (l.getD i qB) (t++qZ (l.take i)) (qaa (by omega)) (by (first|omega|(simp only [List.length_append,List.length_cons,List.length_nil];omega))) (jL hfl (by omega)) (hpl i (by omega)):PC Tryz.prog 62 [(.opt 0 0),(.agg [(iv (iK (l.getD i qB))),(iv (iS (l.getD i qB))),(.ssl (zF (iP (l.getD i qB))) 0 ((iP (l.getD i qB)).length)),(iv ((iB (l.getD i qB)).1)),(iv ((iB (l.getD i qB)).2)),(sv (st (iL (l.getD i qB)))),(.ssl (qN (iC (l.getD i qB))) 0 ((iC (l.getD i qB)).length))])] [some (77,[(.opn 0 0),(.osl 1 0 ((t++qZ (l.take i):qP).length))]),some (5,(qS (t++qZ (l.take i))))] (.tup []) [some (77,[(.opn 0 0),(.osl 2 0 (((t++qZ (l.take i))++zP (l.getD i qB):qP).length))]),none,some (5,(qS ((t++qZ (l.take i))++zP (l.getD i qB))))]) (oc (rfl:[(.opt 0 0),(.agg [(iv (iK (l.getD i qB))),(iv (iS (l.getD i qB))),(.ssl (zF (iP (l.getD i qB))) 0 ((iP (l.getD i qB)).length)),(iv ((iB (l.getD i qB)).1)),(iv ((iB (l.getD i qB)).2)),(sv (st (iL (l.getD i qB)))),(.ssl (qN (iC (l.getD i qB))) 0 ((iC (l.getD i qB)).length))])]=qM (qY [0,2] 91) [(.opt 0 0),(.agg [(iv (iK (l.getD i qB))),(iv (iS (l.getD i qB))),(.ssl (zF (iP (l.getD i qB))) 0 ((iP (l.getD i qB)).length)),(iv ((iB (l.getD i qB)).1)),(iv ((iB (l.getD i qB)).2)),(sv (st (iL (l.getD i qB)))),(.ssl (qN (iC (l.getD i qB))) 0 ((iC (l.getD i qB)).length))])]) (oc (rfl:[(.opn 0 0),(.osl 2 0 ((t++qZ (l.take i):qP).length))]=qM (qY [0,2] 91) [(.opn 0 0),(.osl 1 0 ((t++qZ (l.take i):qP).length))]) (oc ((qG (qI _)).symm:(qS (t++qZ (l.take i)))=qM (qY [0,2] 91) (qS (t++qZ (l.take i)))) oz))))<|zE<|qX (Wk.eq (show _=[ps 0 (.opt 0 0),ps 6 (.ssl (qN l) 0 l.length),ps 7 (nv l.length),ps 8 (nv i),pb 0 77 [(.opn 0 0),(.osl 91 0 (((t++qZ (l.take i))++zP (l.getD i qB):qP).length))],pb 91 5 (qS ((t++qZ (l.take i))++zP (l.getD i qB)))] from by simp only [qG (qI _)])) ?_
  refine zX mxd [] [.k3,.d,.n,.r] [ps 8 (iv (((i:Nat):Int)+1))] (oi (((i:Nat):Int)+1) (by omega) oz) ?_
  have hn:=qbs (show i<l.length from by omega)
  rw [if_pos (by omega)] at hn
  exact zQ ⟨i+1,by show i+1≤l.length;omega⟩ (Wk.trans (Wk.eq (show _=[ps 0 (.opt 0 0),ps 6 (.ssl (qN l) 0 l.length),ps 7 (nv l.length),ps 8 (nv (i+1)),pb 0 77 [(.opn 0 0),(.osl 91 0 ((t++qZ (l.take (i+1)):qP).length))],pb 91 5 (qS (t++qZ (l.take (i+1))))] from by rw [hn,show i=0 from by omega,List.take_zero,QE,List.append_nil];rfl)) (Wk.ren3 _ 2 hc0 [0,1,91] [(kb 2,(qS (t++qZ (l.take (i+1)))))] (oc (qI _) (oz)) (by kernel_rfl) rfl rfl (by kernel_rfl) (by kernel_rfl))) (show l.length-(i+1)<l.length-i from by show l.length-(i+1)<l.length-i;omega)
 refine qT (zM h1)<|zR rfl rfl ?_
 exact fun cx_ a_ hI_=>zU (H':=[some (77,[(.opn 0 0),(.osl 2 0 ((t++qZ l:qP).length))]),none,some (5,(qS (t++qZ l)))]) (.inl rfl) (Wk.trans (Wk.eq (show _=[ps 0 (.opt 0 0),ps 6 (.ssl (qN l) 0 l.length),ps 7 (nv l.length),ps 8 (nv i),ps 9 (bv (decide (((i:Nat):Int)<(l.length:Int)))),pb 0 77 [(.opn 0 0),(.osl 2 0 ((t++qZ l:qP).length))],pb 2 5 (qS (t++qZ l))] from by rw [List.take_of_length_le (show l.length≤i from by omega)])) (Wk.ren3 [pb 0 77 [(.opn 0 0),(.osl 2 0 ((t++qZ l:qP).length))],pb 2 5 (qS (t++qZ l))] 2 hc0 [0,1,2] [(kb 2,(qS (t++qZ l)))] (oc (qI _) (oz)) (by kernel_rfl) rfl rfl (by kernel_rfl) (by kernel_rfl))) rfl (oc rfl (oc rfl (oz))) (fun cx_ a_ hI_=>zK (l':=[pb 0 77 [(.opn 0 0),(.osl 2 0 ((t++qZ l:qP).length))],pb 2 5 (qS (t++qZ l))]) (by kernel_rfl) cx_ a_ hI_) hI_
theorem qcn:∀ m:Nat,(∀ (x:It) (t:qP),SizeOf.sizeOf x<m→t.length+(zP x).length≤140737488355328→QO x→prI x→PC Tryz.prog 62 [.opt 0 0,.agg (gI x)] [some (77,[(.opn 0 0),(.osl 1 0 t.length)]),some (5,(qS t))] (.tup []) [some (77,[(.opn 0 0),(.osl 2 0 ((t++zP x:qP).length))]),none,some (5,(qS (t++zP x)))])∧(∀ (l:List It) (t:qP),SizeOf.sizeOf l<m→t.length+(qZ l).length≤140737488355328→wx l→l.length≤1466015503658→prL l→PC Tryz.prog 29 [.opt 0 0,.ssl (qN l) 0 l.length] [some (77,[(.opn 0 0),(.osl 1 0 t.length)]),some (5,(qS t))] (.tup []) [some (77,[(.opn 0 0),(.osl 2 0 ((t++qZ l:qP).length))]),none,some (5,(qS (t++qZ l)))])
 | 0=>⟨fun _ _ h=>absurd h (Nat.not_lt_zero _),fun _ _ h=>absurd h (Nat.not_lt_zero _)⟩
 | m+1=>⟨fun x t h h1 h2 h3=>pitem_step x t (fun l t hl=>(qcn m).2 l t (by omega)) h1 h2 h3,fun l t h h1 h2 h3 h4=>pitems_step l t (fun x t hx=>(qcn m).1 x t (by omega)) h1 h2 h3 h4⟩
theorem pitems_pc (l:List It) (t:qP) (h1:t.length+(qZ l).length≤140737488355328) (h2:wx l) (h3:l.length≤1466015503658) (h4:prL l):PC Tryz.prog 29 [.opt 0 0,.ssl (qN l) 0 l.length] [some (77,[(.opn 0 0),(.osl 1 0 t.length)]),some (5,(qS t))] (.tup []) [some (77,[(.opn 0 0),(.osl 2 0 ((t++qZ l:qP).length))]),none,some (5,(qS (t++qZ l)))]:=(qcn _).2 l t (Nat.lt_succ_self _) h1 h2 h3 h4
theorem qjj (l:List Vo) (hfv:qbz l):PC Tryz.prog 10 [(.ssl (yI l) 0 l.length)] [] (.tup [(sv (st ((yw l).1))),(iv ((yw l).2))]) []:=by
 refine zH Tryz.func10 rfl (by kernel_rfl) (Nat.le_of_ble_eq_true rfl) (by kernel_rfl) (l0:=[ps 0 (.ssl (yI l) 0 l.length)]) rfl (fun c0 Bor hc0=>?_)
 refine qA<|qj mxd [] [ps 0 (.ssl (yI l) 0 l.length)] (oz)<|qA<|qA ?_
 by_cases h1:l.length=0
 ·refine ZE mxd 1 [ps 0 (.ssl (yI l) 0 l.length),ps 4 (iv (qv l))] (yC 24 (wW l hfv) oz)<|qA<|qj mxd [] [ps 0 (.ssl (yI l) 0 l.length),ps 4 (iv (qv l)),ps 13 (bv (!(decide ((qv l)=0))))] (oz) ?_
  by_cases h2:(qv l)=0
  ·refine qT (bt h2)<|qE<|qA<|qj mxd [] [ps 0 (.ssl (yI l) 0 l.length),ps 5 (.opt 64 0),pb 64 77 [(.av (.pointer none)),sn]] (oz)<|qA<|qA<|qj mxd [] [ps 5 (.opt 64 0),ps 17 (.ssl (yI l) 0 l.length),ps 18 (nv l.length),ps 19 (iv 0),pb 64 77 [(.av (.pointer none)),sn]] (oz)<|qU<|yB (α:={x:Nat // x=0}) (fun x=>[ps 5 (.opt 0 0),ps 17 (.ssl (yI l) 0 l.length),ps 18 (nv l.length),ps 19 (nv x.1),pb 0 77 [(.av (.pointer none)),sn]]) (fun x=>0) 1 ⟨0,rfl⟩ (Wk.ren2 _ 0 hc0 [64] rfl rfl (by kernel_rfl) (by kernel_rfl)) ?_
   rintro ⟨i,hi⟩
   refine qA<|qj mxd [] [ps 5 (.opt 0 0),ps 17 (.ssl (yI l) 0 l.length),ps 18 (nv l.length),ps 19 (nv i),ps 20 (bv (decide (((i:Nat):Int)<(l.length:Int)))),pb 0 77 [(.av (.pointer none)),sn]] (oz)<|qA ?_
   have h3:¬ (((i:Nat):Int)<(l.length:Int)):=(by omega)
   refine qT (zM h3)<|zR rfl rfl<|qA<|qA<|T_r1 mxd 3 [ps 5 (.opt 0 0),ps 66 (bv false),pb 0 77 [(.av (.pointer none)),sn]] (oc1 [0] 33 bl0_pc oz)<|zj (b:=false) rfl rfl<|qE<|qA<|T_r1 mxd 3 [ps 2 se,ps 3 (iv 0)] (oc1 [0] 73 (string0_pc (.av (.pointer none))) oz) ?_
   have hl0:l=[]:=List.length_eq_zero_iff.1 (by omega)
   have hT:yw l=([],0):=by rw [hl0];rfl
   rw [hT]
   exact zy hc0 [2,3] []
  refine qQ (bf h2)<|qA<|qj mxd [] [ps 2 se,ps 3 (iv (qv l))] (oz) ?_
  have hT:yw l=([],qv l):=if_neg (by omega)
  rw [hT]
  exact zy hc0 [2,3] []
 refine ZE mxd 1 [ps 0 (.ssl (yI l) 0 l.length),ps 4 (iv (qv l))] (yC 24 (wW l hfv) oz)<|qA<|qj mxd [] [ps 0 (.ssl (yI l) 0 l.length),ps 4 (iv (qv l)),ps 13 (bv (!(decide ((qv l)=0))))] (oz) ?_
 by_cases h4:(qv l)=0
 ·refine qT (bt h4)<|qE<|qA<|qj mxd [] [ps 0 (.ssl (yI l) 0 l.length),ps 5 (.opt 64 0),pb 64 77 [(.av (.pointer none)),sn]] (oz)<|qA<|qA<|qj mxd [] [ps 5 (.opt 64 0),ps 17 (.ssl (yI l) 0 l.length),ps 18 (nv l.length),ps 19 (iv 0),pb 64 77 [(.av (.pointer none)),sn]] (oz)<|qU ?_
  have hb:=pc_bound (show qv l=0 from by omega)
  obtain ⟨hp1,hp2⟩:=qfd (show qv l=0 from by omega)
  refine qX (Wk.opnc (B:=77) (cells:=[(.av (.pointer none)),sn]) 64 0 64 0 (by kernel_rfl) rfl)<|qX (Wk.less (l':=[ps 5 (.opt 64 0),ps 17 (.ssl (yI l) 0 l.length),ps 18 (nv l.length),ps 19 (iv 0),pb 64 77 [(.opn 64 0),sn]]) 104 (by kernel_rfl) (by kernel_rfl))<|qX (Wk.nilc (B:=77) (cells:=[(.opn 64 0),sn]) 64 1 5 (by kernel_rfl) rfl)<|qX (Wk.less (l':=[ps 5 (.opt 64 0),ps 17 (.ssl (yI l) 0 l.length),ps 18 (nv l.length),ps 19 (iv 0),pb 64 77 [(.opn 64 0),(.osl 104 0 0)],pb 104 5 []]) 105 (by kernel_rfl) (by kernel_rfl))<|qX (Wk.eq (show _=[ps 5 (.opt 64 0),ps 17 (.ssl (yI l) 0 l.length),ps 18 (nv l.length),ps 19 (iv 0),pb 64 77 [(.opn 64 0),(.osl 104 0 ((zv (l.take 0):qP).length))],pb 104 5 (qS (zv (l.take 0)))] from by rw [List.take_zero];rfl)) ?_
  refine yB (α:={x:Nat // x≤l.length}) (fun x=>[ps 5 (.opt 0 0),ps 17 (.ssl (yI l) 0 l.length),ps 18 (nv l.length),ps 19 (nv x.1),pb 0 77 [(.opn 0 0),(.osl 1 0 ((zv (l.take x.1):qP).length))],pb 1 5 (qS (zv (l.take x.1)))]) (fun x=>l.length-x.1) 2 ⟨0,Nat.zero_le _⟩ (Wk.ren3 _ 0 hc0 [64,104] [(kb 1,(qS (zv (l.take 0))))] (oc (qI _) (oz)) (by kernel_rfl) rfl rfl (by kernel_rfl) (by kernel_rfl)) ?_
  rintro ⟨i,hi⟩
  refine qA<|qj mxd [] [ps 5 (.opt 0 0),ps 17 (.ssl (yI l) 0 l.length),ps 18 (nv l.length),ps 19 (nv i),ps 20 (bv (decide (((i:Nat):Int)<(l.length:Int)))),pb 0 77 [(.opn 0 0),(.osl 1 0 ((zv (l.take i):qP).length))],pb 1 5 (qS (zv (l.take i)))] (oz)<|qA ?_
  by_cases h5:(i:Int)<(l.length:Int)
  ·refine qQ (zO h5)<|qE<|qA<|qU<|qA ?_
   have hvo:=hp2 _ (qbw (d:=qC) (show i<l.length from by omega))
   obtain ⟨hv1,hv2,hv3⟩:=qef hvo
   have hvf:=hfv.2 i (by omega)
   have hnl:=(of_decide_eq_true hv1).2.1
   have hrm:=vo_room (show i<l.length from by omega)
   have hvl:=congrArg List.length (qeg (l.getD i qC))
   simp only [List.length_append,List.length_cons,List.length_nil] at hvl
   refine qj mxd [(0,.nat (i*2)),(1,.cells [(sv (st ((l.getD i qC).1))),(.ssl (vE ((l.getD i qC).2)) 0 (((l.getD i qC).2).length))])] [ps 5 (.opt 0 0),ps 7 (.opt 26 0),ps 17 (.ssl (yI l) 0 l.length),ps 18 (nv l.length),ps 19 (nv i),pb 0 77 [(.opn 0 0),(.osl 1 0 ((zv (l.take i):qP).length))],pb 1 5 (qS (zv (l.take i))),pb 26 44 [(sv (st ((l.getD i qC).1))),(.ssl (vE ((l.getD i qC).2)) 0 (((l.getD i qC).2).length))]] (oc (by omega:(0:Int)≤(i:Int)∧(i:Int)<(l.length:Int)) (oc (by omega:0+(((i:Nat):Int):Int).toNat*2=(i*2)) (oc (yF voC 2 (fun _=>rfl) qC l i 0 2 (by omega) (by decide):(i*2)+2≤((yI l)).length∧(((yI l)).drop (i*2)).take 2=[(sv (st ((l.getD i qC).1))),(.ssl (vE ((l.getD i qC).2)) 0 (((l.getD i qC).2).length))]) oz))) ?_
   refine qA<|wQ mxd [(5,.val (.av (.string (st (([118,111,105,99,101,32]:TX)++((l.getD i qC).1)))))),(6,.val (.av (.string (st ((([118,111,105,99,101,32]:TX)++((l.getD i qC).1))++([10]:TX)))))),(7,.call [0,1] [(.opt 0 0),(sv (st ((([118,111,105,99,101,32]:TX)++((l.getD i qC).1))++([10]:TX))))] [some (77,[(.opn 0 0),(.osl 1 0 ((zv (l.take i):qP).length))]),some (5,(qS (zv (l.take i))))] (.tup [(nv ((((([118,111,105,99,101,32]:TX)++((l.getD i qC).1))++([10]:TX))).length)),(.av .nilIface)]) [some (77,[(.opn 0 0),(.osl 2 0 (((zv (l.take i))++((([118,111,105,99,101,32]:TX)++((l.getD i qC).1))++([10]:TX)):qP).length))]),none,some (5,(qS ((zv (l.take i))++((([118,111,105,99,101,32]:TX)++((l.getD i qC).1))++([10]:TX)))))])] [[],[0],[0,1],[],[3],[3,4],[3,4,5],[0,1,2,3,4,5,6]] [([46],[10]),([48],[46]),([50],[48]),([52],[14]),([54],[52,53]),([56],[54]),([58],[56]),([60,1,3,197],[1,3,50,58])] [ps 5 (.opt 0 0),ps 7 (.opt 26 0),ps 17 (.ssl (yI l) 0 l.length),ps 18 (nv l.length),ps 19 (nv i),pb 0 77 [(.opn 0 0),(.osl 98 0 (((zv (l.take i))++((([118,111,105,99,101,32]:TX)++((l.getD i qC).1))++([10]:TX)):qP).length))],pb 26 44 [(sv (st ((l.getD i qC).1))),(.ssl (vE ((l.getD i qC).2)) 0 (((l.getD i qC).2).length))],pb 98 5 (qM (yH [0,1] 98) (qS ((zv (l.take i))++((([118,111,105,99,101,32]:TX)++((l.getD i qC).1))++([10]:TX)))))] (oc (by first|omega|(simp only [List.length_append,List.length_cons,List.length_nil];omega):((([118,111,105,99,101,32]:TX).length+((l.getD i qC).1).length:Nat):Int)≤9223372036854775807) (oc (qJ _ _:st ([118,111,105,99,101,32]:TX)++st ((l.getD i qC).1)=st (([118,111,105,99,101,32]:TX)++((l.getD i qC).1))) (oc (by first|omega|(simp only [List.length_append,List.length_cons,List.length_nil];omega):(((([118,111,105,99,101,32]:TX)++((l.getD i qC).1)).length+([10]:TX).length:Nat):Int)≤9223372036854775807) (oc (qJ _ _:st (([118,111,105,99,101,32]:TX)++((l.getD i qC).1))++st ([10]:TX)=st ((([118,111,105,99,101,32]:TX)++((l.getD i qC).1))++([10]:TX))) (oc (wv (zv (l.take i)) ((([118,111,105,99,101,32]:TX)++((l.getD i qC).1))++([10]:TX)) (by (first|omega|(simp only [List.length_append,List.length_cons,List.length_nil];omega)))) (oc (rfl:[(.opt 0 0),(sv (st ((([118,111,105,99,101,32]:TX)++((l.getD i qC).1))++([10]:TX))))]=qM (qY [0,1] 98) [(.opt 0 0),(sv (st ((([118,111,105,99,101,32]:TX)++((l.getD i qC).1))++([10]:TX))))]) (oc (rfl:[(.opn 0 0),(.osl 1 0 ((zv (l.take i):qP).length))]=qM (qY [0,1] 98) [(.opn 0 0),(.osl 1 0 ((zv (l.take i):qP).length))]) (oc ((qG (qI _)).symm:(qS (zv (l.take i)))=qM (qY [0,1] 98) (qS (zv (l.take i)))) oz))))))))<|qX (Wk.eq (show _=[ps 5 (.opt 0 0),ps 7 (.opt 26 0),ps 17 (.ssl (yI l) 0 l.length),ps 18 (nv l.length),ps 19 (nv i),pb 0 77 [(.opn 0 0),(.osl 98 0 (((zv (l.take i))++((([118,111,105,99,101,32]:TX)++((l.getD i qC).1))++([10]:TX)):qP).length))],pb 26 44 [(sv (st ((l.getD i qC).1))),(.ssl (vE ((l.getD i qC).2)) 0 (((l.getD i qC).2).length))],pb 98 5 (qS ((zv (l.take i))++((([118,111,105,99,101,32]:TX)++((l.getD i qC).1))++([10]:TX))))] from by simp only [qG (qI _)])) ?_
   refine qA<|qj mxd [] [ps 5 (.opt 0 0),ps 17 (.ssl (yI l) 0 l.length),ps 18 (nv l.length),ps 19 (nv i),ps 32 (.ssl (vE ((l.getD i qC).2)) 0 (((l.getD i qC).2).length)),ps 33 (nv (((l.getD i qC).2).length)),ps 34 (iv 0),pb 0 77 [(.opn 0 0),(.osl 98 0 (((zv (l.take i))++((([118,111,105,99,101,32]:TX)++((l.getD i qC).1))++([10]:TX)):qP).length))],pb 98 5 (qS ((zv (l.take i))++((([118,111,105,99,101,32]:TX)++((l.getD i qC).1))++([10]:TX))))] (oz)<|qU<|qX (Wk.eq (show _=[ps 5 (.opt 0 0),ps 17 (.ssl (yI l) 0 l.length),ps 18 (nv l.length),ps 19 (nv i),ps 32 (.ssl (vE ((l.getD i qC).2)) 0 (((l.getD i qC).2).length)),ps 33 (nv (((l.getD i qC).2).length)),ps 34 (iv 0),pb 0 77 [(.opn 0 0),(.osl 98 0 ((((zv (l.take i))++((([118,111,105,99,101,32]:TX)++((l.getD i qC).1))++([10]:TX)))++zW ((l.getD i qC).2.take 0):qP).length))],pb 98 5 (qS (((zv (l.take i))++((([118,111,105,99,101,32]:TX)++((l.getD i qC).1))++([10]:TX)))++zW ((l.getD i qC).2.take 0)))] from by rw [List.take_zero];rw [show zW []=[] from rfl,List.append_nil])) ?_
   refine yB (α:={x:Nat // x≤(l.getD i qC).2.length}) (fun x=>[ps 5 (.opt 0 0),ps 17 (.ssl (yI l) 0 l.length),ps 18 (nv l.length),ps 19 (nv i),ps 32 (.ssl (vE ((l.getD i qC).2)) 0 (((l.getD i qC).2).length)),ps 33 (nv (((l.getD i qC).2).length)),ps 34 (nv x.1),pb 0 77 [(.opn 0 0),(.osl 1 0 ((zv (l.take i)++([118,111,105,99,101,32]++(l.getD i qC).1++[10])++zW ((l.getD i qC).2.take x.1):qP).length))],pb 1 5 (qS (zv (l.take i)++([118,111,105,99,101,32]++(l.getD i qC).1++[10])++zW ((l.getD i qC).2.take x.1)))]) (fun x=>(l.getD i qC).2.length-x.1) 2 ⟨0,Nat.zero_le _⟩ (Wk.ren3 _ 0 hc0 [0,98] [(kb 1,(qS (zv (l.take i)++([118,111,105,99,101,32]++(l.getD i qC).1++[10])++zW ((l.getD i qC).2.take 0))))] (oc (qI _) (oz)) (by kernel_rfl) rfl rfl (by kernel_rfl) (by kernel_rfl)) ?_
   rintro ⟨k,hk⟩
   refine qA<|qj mxd [] [ps 5 (.opt 0 0),ps 17 (.ssl (yI l) 0 l.length),ps 18 (nv l.length),ps 19 (nv i),ps 32 (.ssl (vE ((l.getD i qC).2)) 0 (((l.getD i qC).2).length)),ps 33 (nv (((l.getD i qC).2).length)),ps 34 (nv k),ps 35 (bv (decide (((k:Nat):Int)<((((l.getD i qC).2).length:Nat):Int)))),pb 0 77 [(.opn 0 0),(.osl 1 0 ((zv (l.take i)++([118,111,105,99,101,32]++(l.getD i qC).1++[10])++zW ((l.getD i qC).2.take k):qP).length))],pb 1 5 (qS (zv (l.take i)++([118,111,105,99,101,32]++(l.getD i qC).1++[10])++zW ((l.getD i qC).2.take k)))] (oz)<|qA ?_
   by_cases h6:(k:Int)<((((l.getD i qC).2).length:Nat):Int)
   ·refine qQ (zO h6)<|qE<|qA<|qU<|qA ?_
    have hbo:=qko (hv3 _ (qbw (d:=zA) (show k<(l.getD i qC).2.length from by omega)))
    have hbf:=hvf.2.2 k (by omega)
    have hbr:=br_room (show k<(l.getD i qC).2.length from by omega)
    have hbl:=congrArg List.length (qgf ((l.getD i qC).2.getD k zA))
    simp only [List.length_append,List.length_cons,List.length_nil] at hbl
    have hi1:=Lib.itoa_length_le ((l.getD i qC).2.getD k zA).1 (by omega) (by omega)
    have hi2:=Lib.itoa_length_le ((l.getD i qC).2.getD k zA).2.1 (by omega) (by omega)
    refine qj mxd [(0,.nat (k*3)),(1,.cells [(iv ((((l.getD i qC).2).getD k zA).1)),(iv ((((l.getD i qC).2).getD k zA).2.1)),(.ssl (qN ((((l.getD i qC).2).getD k zA).2.2)) 0 (((((l.getD i qC).2).getD k zA).2.2).length))])] [ps 5 (.opt 0 0),ps 9 (.opt 26 0),ps 17 (.ssl (yI l) 0 l.length),ps 18 (nv l.length),ps 19 (nv i),ps 32 (.ssl (vE ((l.getD i qC).2)) 0 (((l.getD i qC).2).length)),ps 33 (nv (((l.getD i qC).2).length)),ps 34 (nv k),pb 0 77 [(.opn 0 0),(.osl 1 0 ((zv (l.take i)++([118,111,105,99,101,32]++(l.getD i qC).1++[10])++zW ((l.getD i qC).2.take k):qP).length))],pb 1 5 (qS (zv (l.take i)++([118,111,105,99,101,32]++(l.getD i qC).1++[10])++zW ((l.getD i qC).2.take k))),pb 26 47 [(iv ((((l.getD i qC).2).getD k zA).1)),(iv ((((l.getD i qC).2).getD k zA).2.1)),(.ssl (qN ((((l.getD i qC).2).getD k zA).2.2)) 0 (((((l.getD i qC).2).getD k zA).2.2).length))]] (oc (by omega:(0:Int)≤(k:Int)∧(k:Int)<((((l.getD i qC).2).length:Nat):Int)) (oc (by omega:0+(((k:Nat):Int):Int).toNat*3=(k*3)) (oc (yF brC 3 (fun _=>rfl) zA ((l.getD i qC).2) k 0 3 (by omega) (by decide):(k*3)+3≤((vE ((l.getD i qC).2))).length∧(((vE ((l.getD i qC).2))).drop (k*3)).take 3=[(iv ((((l.getD i qC).2).getD k zA).1)),(iv ((((l.getD i qC).2).getD k zA).2.1)),(.ssl (qN ((((l.getD i qC).2).getD k zA).2.2)) 0 (((((l.getD i qC).2).getD k zA).2.2).length))]) oz))) ?_
    refine qA<|wQ mxd [(5,.call [] [(iv ((((l.getD i qC).2).getD k zA).1))] [] (sv (st (Lib.itoa ((((l.getD i qC).2).getD k zA).1)))) []),(6,.val (.av (.string (st (([124,32]:TX)++(Lib.itoa ((((l.getD i qC).2).getD k zA).1))))))),(7,.val (.av (.string (st ((([124,32]:TX)++(Lib.itoa ((((l.getD i qC).2).getD k zA).1)))++([47]:TX)))))),(10,.call [] [(iv ((((l.getD i qC).2).getD k zA).2.1))] [] (sv (st (Lib.itoa ((((l.getD i qC).2).getD k zA).2.1)))) []),(11,.val (.av (.string (st (((([124,32]:TX)++(Lib.itoa ((((l.getD i qC).2).getD k zA).1)))++([47]:TX))++(Lib.itoa ((((l.getD i qC).2).getD k zA).2.1))))))),(12,.val (.av (.string (st ((((([124,32]:TX)++(Lib.itoa ((((l.getD i qC).2).getD k zA).1)))++([47]:TX))++(Lib.itoa ((((l.getD i qC).2).getD k zA).2.1)))++([32]:TX)))))),(13,.call [0,1] [(.opt 0 0),(sv (st ((((([124,32]:TX)++(Lib.itoa ((((l.getD i qC).2).getD k zA).1)))++([47]:TX))++(Lib.itoa ((((l.getD i qC).2).getD k zA).2.1)))++([32]:TX))))] [some (77,[(.opn 0 0),(.osl 1 0 ((zv (l.take i)++([118,111,105,99,101,32]++(l.getD i qC).1++[10])++zW ((l.getD i qC).2.take k):qP).length))]),some (5,(qS (zv (l.take i)++([118,111,105,99,101,32]++(l.getD i qC).1++[10])++zW ((l.getD i qC).2.take k))))] (.tup [(nv ((((((([124,32]:TX)++(Lib.itoa ((((l.getD i qC).2).getD k zA).1)))++([47]:TX))++(Lib.itoa ((((l.getD i qC).2).getD k zA).2.1)))++([32]:TX))).length)),(.av .nilIface)]) [some (77,[(.opn 0 0),(.osl 2 0 (((zv (l.take i)++([118,111,105,99,101,32]++(l.getD i qC).1++[10])++zW ((l.getD i qC).2.take k))++((((([124,32]:TX)++(Lib.itoa ((((l.getD i qC).2).getD k zA).1)))++([47]:TX))++(Lib.itoa ((((l.getD i qC).2).getD k zA).2.1)))++([32]:TX)):qP).length))]),none,some (5,(qS ((zv (l.take i)++([118,111,105,99,101,32]++(l.getD i qC).1++[10])++zW ((l.getD i qC).2.take k))++((((([124,32]:TX)++(Lib.itoa ((((l.getD i qC).2).getD k zA).1)))++([47]:TX))++(Lib.itoa ((((l.getD i qC).2).getD k zA).2.1)))++([32]:TX)))))])] (bfm [[],[(0,1)],[(0,2)],[],[(3,1)],[(3,2)],[(3,3)],[(3,4)],[],[(8,1)],[(3,3),(8,2)],[(3,8)],[(3,9)],[(0,13)]]) [([76],[10]),([78],[76]),([80],[78]),([82],[18]),([84],[53,82]),([86],[84]),([88],[86]),([90],[88]),([92],[18]),([94],[53,92]),([96],[94]),([98],[90,96]),([100],[98]),([102,1,3,293],[1,3,80,100])] [ps 5 (.opt 0 0),ps 9 (.opt 26 0),ps 17 (.ssl (yI l) 0 l.length),ps 18 (nv l.length),ps 19 (nv i),ps 32 (.ssl (vE ((l.getD i qC).2)) 0 (((l.getD i qC).2).length)),ps 33 (nv (((l.getD i qC).2).length)),ps 34 (nv k),pb 0 77 [(.opn 0 0),(.osl 146 0 (((zv (l.take i)++([118,111,105,99,101,32]++(l.getD i qC).1++[10])++zW ((l.getD i qC).2.take k))++((((([124,32]:TX)++(Lib.itoa ((((l.getD i qC).2).getD k zA).1)))++([47]:TX))++(Lib.itoa ((((l.getD i qC).2).getD k zA).2.1)))++([32]:TX)):qP).length))],pb 26 47 [(iv ((((l.getD i qC).2).getD k zA).1)),(iv ((((l.getD i qC).2).getD k zA).2.1)),(.ssl (qN ((((l.getD i qC).2).getD k zA).2.2)) 0 (((((l.getD i qC).2).getD k zA).2.2).length))],pb 146 5 (qM (yH [0,1] 146) (qS ((zv (l.take i)++([118,111,105,99,101,32]++(l.getD i qC).1++[10])++zW ((l.getD i qC).2.take k))++((((([124,32]:TX)++(Lib.itoa ((((l.getD i qC).2).getD k zA).1)))++([47]:TX))++(Lib.itoa ((((l.getD i qC).2).getD k zA).2.1)))++([32]:TX)))))] (yC 82 (zx ((((l.getD i qC).2).getD k zA).1) (by omega) (by omega)) (oc (by first|omega|(simp only [List.length_append,List.length_cons,List.length_nil];omega):((([124,32]:TX).length+(Lib.itoa ((((l.getD i qC).2).getD k zA).1)).length:Nat):Int)≤9223372036854775807) (oc (qJ _ _:st ([124,32]:TX)++st (Lib.itoa ((((l.getD i qC).2).getD k zA).1))=st (([124,32]:TX)++(Lib.itoa ((((l.getD i qC).2).getD k zA).1)))) (oc (by first|omega|(simp only [List.length_append,List.length_cons,List.length_nil];omega):(((([124,32]:TX)++(Lib.itoa ((((l.getD i qC).2).getD k zA).1))).length+([47]:TX).length:Nat):Int)≤9223372036854775807) (oc (qJ _ _:st (([124,32]:TX)++(Lib.itoa ((((l.getD i qC).2).getD k zA).1)))++st ([47]:TX)=st ((([124,32]:TX)++(Lib.itoa ((((l.getD i qC).2).getD k zA).1)))++([47]:TX))) (yC 122 (zx ((((l.getD i qC).2).getD k zA).2.1) (by omega) (by omega)) (oc (by first|omega|(simp only [List.length_append,List.length_cons,List.length_nil];omega):((((([124,32]:TX)++(Lib.itoa ((((l.getD i qC).2).getD k zA).1)))++([47]:TX)).length+(Lib.itoa ((((l.getD i qC).2).getD k zA).2.1)).length:Nat):Int)≤9223372036854775807) (oc (qJ _ _:st ((([124,32]:TX)++(Lib.itoa ((((l.getD i qC).2).getD k zA).1)))++([47]:TX))++st (Lib.itoa ((((l.getD i qC).2).getD k zA).2.1))=st (((([124,32]:TX)++(Lib.itoa ((((l.getD i qC).2).getD k zA).1)))++([47]:TX))++(Lib.itoa ((((l.getD i qC).2).getD k zA).2.1)))) (oc (by first|omega|(simp only [List.length_append,List.length_cons,List.length_nil];omega):(((((([124,32]:TX)++(Lib.itoa ((((l.getD i qC).2).getD k zA).1)))++([47]:TX))++(Lib.itoa ((((l.getD i qC).2).getD k zA).2.1))).length+([32]:TX).length:Nat):Int)≤9223372036854775807) (oc (qJ _ _:st (((([124,32]:TX)++(Lib.itoa ((((l.getD i qC).2).getD k zA).1)))++([47]:TX))++(Lib.itoa ((((l.getD i qC).2).getD k zA).2.1)))++st ([32]:TX)=st ((((([124,32]:TX)++(Lib.itoa ((((l.getD i qC).2).getD k zA).1)))++([47]:TX))++(Lib.itoa ((((l.getD i qC).2).getD k zA).2.1)))++([32]:TX))) (oc (wv (zv (l.take i)++([118,111,105,99,101,32]++(l.getD i qC).1++[10])++zW ((l.getD i qC).2.take k)) ((((([124,32]:TX)++(Lib.itoa ((((l.getD i qC).2).getD k zA).1)))++([47]:TX))++(Lib.itoa ((((l.getD i qC).2).getD k zA).2.1)))++([32]:TX)) (by (first|omega|(simp only [List.length_append,List.length_cons,List.length_nil];omega)))) (oc (rfl:[(.opt 0 0),(sv (st ((((([124,32]:TX)++(Lib.itoa ((((l.getD i qC).2).getD k zA).1)))++([47]:TX))++(Lib.itoa ((((l.getD i qC).2).getD k zA).2.1)))++([32]:TX))))]=qM (qY [0,1] 146) [(.opt 0 0),(sv (st ((((([124,32]:TX)++(Lib.itoa ((((l.getD i qC).2).getD k zA).1)))++([47]:TX))++(Lib.itoa ((((l.getD i qC).2).getD k zA).2.1)))++([32]:TX))))]) (oc (rfl:[(.opn 0 0),(.osl 1 0 ((zv (l.take i)++([118,111,105,99,101,32]++(l.getD i qC).1++[10])++zW ((l.getD i qC).2.take k):qP).length))]=qM (qY [0,1] 146) [(.opn 0 0),(.osl 1 0 ((zv (l.take i)++([118,111,105,99,101,32]++(l.getD i qC).1++[10])++zW ((l.getD i qC).2.take k):qP).length))]) (oc ((qG (qI _)).symm:(qS (zv (l.take i)++([118,111,105,99,101,32]++(l.getD i qC).1++[10])++zW ((l.getD i qC).2.take k)))=qM (qY [0,1] 146) (qS (zv (l.take i)++([118,111,105,99,101,32]++(l.getD i qC).1++[10])++zW ((l.getD i qC).2.take k)))) oz))))))))))))))<|qX (Wk.eq (show _=[ps 5 (.opt 0 0),ps 9 (.opt 26 0),ps 17 (.ssl (yI l) 0 l.length),ps 18 (nv l.length),ps 19 (nv i),ps 32 (.ssl (vE ((l.getD i qC).2)) 0 (((l.getD i qC).2).length)),ps 33 (nv (((l.getD i qC).2).length)),ps 34 (nv k),pb 0 77 [(.opn 0 0),(.osl 146 0 (((zv (l.take i)++([118,111,105,99,101,32]++(l.getD i qC).1++[10])++zW ((l.getD i qC).2.take k))++((((([124,32]:TX)++(Lib.itoa ((((l.getD i qC).2).getD k zA).1)))++([47]:TX))++(Lib.itoa ((((l.getD i qC).2).getD k zA).2.1)))++([32]:TX)):qP).length))],pb 26 47 [(iv ((((l.getD i qC).2).getD k zA).1)),(iv ((((l.getD i qC).2).getD k zA).2.1)),(.ssl (qN ((((l.getD i qC).2).getD k zA).2.2)) 0 (((((l.getD i qC).2).getD k zA).2.2).length))],pb 146 5 (qS ((zv (l.take i)++([118,111,105,99,101,32]++(l.getD i qC).1++[10])++zW ((l.getD i qC).2.take k))++((((([124,32]:TX)++(Lib.itoa ((((l.getD i qC).2).getD k zA).1)))++([47]:TX))++(Lib.itoa ((((l.getD i qC).2).getD k zA).2.1)))++([32]:TX))))] from by simp only [qG (qI _)])) ?_
    refine qA<|qj mxd [(3,.call [0,146] [(.opt 0 0),(.ssl (qN ((((l.getD i qC).2).getD k zA).2.2)) 0 (((((l.getD i qC).2).getD k zA).2.2).length))] [some (77,[(.opn 0 0),(.osl 1 0 (((zv (l.take i)++([118,111,105,99,101,32]++(l.getD i qC).1++[10])++zW ((l.getD i qC).2.take k))++((((([124,32]:TX)++(Lib.itoa ((((l.getD i qC).2).getD k zA).1)))++([47]:TX))++(Lib.itoa ((((l.getD i qC).2).getD k zA).2.1)))++([32]:TX)):qP).length))]),some (5,(qS ((zv (l.take i)++([118,111,105,99,101,32]++(l.getD i qC).1++[10])++zW ((l.getD i qC).2.take k))++((((([124,32]:TX)++(Lib.itoa ((((l.getD i qC).2).getD k zA).1)))++([47]:TX))++(Lib.itoa ((((l.getD i qC).2).getD k zA).2.1)))++([32]:TX)))))] (.tup []) [some (77,[(.opn 0 0),(.osl 2 0 ((((zv (l.take i)++([118,111,105,99,101,32]++(l.getD i qC).1++[10])++zW ((l.getD i qC).2.take k))++((((([124,32]:TX)++(Lib.itoa ((((l.getD i qC).2).getD k zA).1)))++([47]:TX))++(Lib.itoa ((((l.getD i qC).2).getD k zA).2.1)))++([32]:TX)))++qZ ((((l.getD i qC).2).getD k zA).2.2):qP).length))]),none,some (5,(qS (((zv (l.take i)++([118,111,105,99,101,32]++(l.getD i qC).1++[10])++zW ((l.getD i qC).2.take k))++((((([124,32]:TX)++(Lib.itoa ((((l.getD i qC).2).getD k zA).1)))++([47]:TX))++(Lib.itoa ((((l.getD i qC).2).getD k zA).2.1)))++([32]:TX)))++qZ ((((l.getD i qC).2).getD k zA).2.2))))])] [ps 5 (.opt 0 0),ps 17 (.ssl (yI l) 0 l.length),ps 18 (nv l.length),ps 19 (nv i),ps 32 (.ssl (vE ((l.getD i qC).2)) 0 (((l.getD i qC).2).length)),ps 33 (nv (((l.getD i qC).2).length)),ps 34 (nv k),pb 0 77 [(.opn 0 0),(.osl 178 0 ((((zv (l.take i)++([118,111,105,99,101,32]++(l.getD i qC).1++[10])++zW ((l.getD i qC).2.take k))++((((([124,32]:TX)++(Lib.itoa ((((l.getD i qC).2).getD k zA).1)))++([47]:TX))++(Lib.itoa ((((l.getD i qC).2).getD k zA).2.1)))++([32]:TX)))++qZ ((((l.getD i qC).2).getD k zA).2.2):qP).length))],pb 178 5 (qM (yH [0,146] 178) (qS (((zv (l.take i)++([118,111,105,99,101,32]++(l.getD i qC).1++[10])++zW ((l.getD i qC).2.take k))++((((([124,32]:TX)++(Lib.itoa ((((l.getD i qC).2).getD k zA).1)))++([47]:TX))++(Lib.itoa ((((l.getD i qC).2).getD k zA).2.1)))++([32]:TX)))++qZ ((((l.getD i qC).2).getD k zA).2.2))))] (oc (pitems_pc ((((l.getD i qC).2).getD k zA).2.2) ((zv (l.take i)++([118,111,105,99,101,32]++(l.getD i qC).1++[10])++zW ((l.getD i qC).2.take k))++((((([124,32]:TX)++(Lib.itoa ((((l.getD i qC).2).getD k zA).1)))++([47]:TX))++(Lib.itoa ((((l.getD i qC).2).getD k zA).2.1)))++([32]:TX))) (by (first|omega|(simp only [List.length_append,List.length_cons,List.length_nil];omega))) hbf.2.2.2 hbf.2.2.1 (qjk hbo.2.2.1)) (oc (rfl:[(.opt 0 0),(.ssl (qN ((((l.getD i qC).2).getD k zA).2.2)) 0 (((((l.getD i qC).2).getD k zA).2.2).length))]=qM (qY [0,146] 178) [(.opt 0 0),(.ssl (qN ((((l.getD i qC).2).getD k zA).2.2)) 0 (((((l.getD i qC).2).getD k zA).2.2).length))]) (oc (rfl:[(.opn 0 0),(.osl 146 0 (((zv (l.take i)++([118,111,105,99,101,32]++(l.getD i qC).1++[10])++zW ((l.getD i qC).2.take k))++((((([124,32]:TX)++(Lib.itoa ((((l.getD i qC).2).getD k zA).1)))++([47]:TX))++(Lib.itoa ((((l.getD i qC).2).getD k zA).2.1)))++([32]:TX)):qP).length))]=qM (qY [0,146] 178) [(.opn 0 0),(.osl 1 0 (((zv (l.take i)++([118,111,105,99,101,32]++(l.getD i qC).1++[10])++zW ((l.getD i qC).2.take k))++((((([124,32]:TX)++(Lib.itoa ((((l.getD i qC).2).getD k zA).1)))++([47]:TX))++(Lib.itoa ((((l.getD i qC).2).getD k zA).2.1)))++([32]:TX)):qP).length))]) (oc ((qG (qI _)).symm:(qS ((zv (l.take i)++([118,111,105,99,101,32]++(l.getD i qC).1++[10])++zW ((l.getD i qC).2.take k))++((((([124,32]:TX)++(Lib.itoa ((((l.getD i qC).2).getD k zA).1)))++([47]:TX))++(Lib.itoa ((((l.getD i qC).2).getD k zA).2.1)))++([32]:TX))))=qM (qY [0,146] 178) (qS ((zv (l.take i)++([118,111,105,99,101,32]++(l.getD i qC).1++[10])++zW ((l.getD i qC).2.take k))++((((([124,32]:TX)++(Lib.itoa ((((l.getD i qC).2).getD k zA).1)))++([47]:TX))++(Lib.itoa ((((l.getD i qC).2).getD k zA).2.1)))++([32]:TX))))) oz))))<|qX (Wk.eq (show _=[ps 5 (.opt 0 0),ps 17 (.ssl (yI l) 0 l.length),ps 18 (nv l.length),ps 19 (nv i),ps 32 (.ssl (vE ((l.getD i qC).2)) 0 (((l.getD i qC).2).length)),ps 33 (nv (((l.getD i qC).2).length)),ps 34 (nv k),pb 0 77 [(.opn 0 0),(.osl 178 0 ((((zv (l.take i)++([118,111,105,99,101,32]++(l.getD i qC).1++[10])++zW ((l.getD i qC).2.take k))++((((([124,32]:TX)++(Lib.itoa ((((l.getD i qC).2).getD k zA).1)))++([47]:TX))++(Lib.itoa ((((l.getD i qC).2).getD k zA).2.1)))++([32]:TX)))++qZ ((((l.getD i qC).2).getD k zA).2.2):qP).length))],pb 178 5 (qS (((zv (l.take i)++([118,111,105,99,101,32]++(l.getD i qC).1++[10])++zW ((l.getD i qC).2.take k))++((((([124,32]:TX)++(Lib.itoa ((((l.getD i qC).2).getD k zA).1)))++([47]:TX))++(Lib.itoa ((((l.getD i qC).2).getD k zA).2.1)))++([32]:TX)))++qZ ((((l.getD i qC).2).getD k zA).2.2)))] from by simp only [qG (qI _)])) ?_
    refine qj mxd [(3,.call [0,178] [(.opt 0 0),(.av (.int .u8 10))] [some (77,[(.opn 0 0),(.osl 1 0 ((((zv (l.take i)++([118,111,105,99,101,32]++(l.getD i qC).1++[10])++zW ((l.getD i qC).2.take k))++((((([124,32]:TX)++(Lib.itoa ((((l.getD i qC).2).getD k zA).1)))++([47]:TX))++(Lib.itoa ((((l.getD i qC).2).getD k zA).2.1)))++([32]:TX)))++qZ ((((l.getD i qC).2).getD k zA).2.2):qP).length))]),some (5,(qS (((zv (l.take i)++([118,111,105,99,101,32]++(l.getD i qC).1++[10])++zW ((l.getD i qC).2.take k))++((((([124,32]:TX)++(Lib.itoa ((((l.getD i qC).2).getD k zA).1)))++([47]:TX))++(Lib.itoa ((((l.getD i qC).2).getD k zA).2.1)))++([32]:TX)))++qZ ((((l.getD i qC).2).getD k zA).2.2))))] (.av .nilIface) [some (77,[(.opn 0 0),(.osl 2 0 (((((zv (l.take i)++([118,111,105,99,101,32]++(l.getD i qC).1++[10])++zW ((l.getD i qC).2.take k))++((((([124,32]:TX)++(Lib.itoa ((((l.getD i qC).2).getD k zA).1)))++([47]:TX))++(Lib.itoa ((((l.getD i qC).2).getD k zA).2.1)))++([32]:TX)))++qZ ((((l.getD i qC).2).getD k zA).2.2))++[10]:qP).length))]),none,some (5,(qS ((((zv (l.take i)++([118,111,105,99,101,32]++(l.getD i qC).1++[10])++zW ((l.getD i qC).2.take k))++((((([124,32]:TX)++(Lib.itoa ((((l.getD i qC).2).getD k zA).1)))++([47]:TX))++(Lib.itoa ((((l.getD i qC).2).getD k zA).2.1)))++([32]:TX)))++qZ ((((l.getD i qC).2).getD k zA).2.2))++[10])))])] [ps 5 (.opt 0 0),ps 17 (.ssl (yI l) 0 l.length),ps 18 (nv l.length),ps 19 (nv i),ps 32 (.ssl (vE ((l.getD i qC).2)) 0 (((l.getD i qC).2).length)),ps 33 (nv (((l.getD i qC).2).length)),ps 34 (nv k),pb 0 77 [(.opn 0 0),(.osl 210 0 (((((zv (l.take i)++([118,111,105,99,101,32]++(l.getD i qC).1++[10])++zW ((l.getD i qC).2.take k))++((((([124,32]:TX)++(Lib.itoa ((((l.getD i qC).2).getD k zA).1)))++([47]:TX))++(Lib.itoa ((((l.getD i qC).2).getD k zA).2.1)))++([32]:TX)))++qZ ((((l.getD i qC).2).getD k zA).2.2))++[10]:qP).length))],pb 210 5 (qM (yH [0,178] 210) (qS ((((zv (l.take i)++([118,111,105,99,101,32]++(l.getD i qC).1++[10])++zW ((l.getD i qC).2.take k))++((((([124,32]:TX)++(Lib.itoa ((((l.getD i qC).2).getD k zA).1)))++([47]:TX))++(Lib.itoa ((((l.getD i qC).2).getD k zA).2.1)))++([32]:TX)))++qZ ((((l.getD i qC).2).getD k zA).2.2))++[10])))] (oc (YV (((zv (l.take i)++([118,111,105,99,101,32]++(l.getD i qC).1++[10])++zW ((l.getD i qC).2.take k))++((((([124,32]:TX)++(Lib.itoa ((((l.getD i qC).2).getD k zA).1)))++([47]:TX))++(Lib.itoa ((((l.getD i qC).2).getD k zA).2.1)))++([32]:TX)))++qZ ((((l.getD i qC).2).getD k zA).2.2)) 10 (by (first|omega|(simp only [List.length_append,List.length_cons,List.length_nil];omega)))) (oc (rfl:[(.opt 0 0),(.av (.int .u8 10))]=qM (qY [0,178] 210) [(.opt 0 0),(.av (.int .u8 10))]) (oc (rfl:[(.opn 0 0),(.osl 178 0 ((((zv (l.take i)++([118,111,105,99,101,32]++(l.getD i qC).1++[10])++zW ((l.getD i qC).2.take k))++((((([124,32]:TX)++(Lib.itoa ((((l.getD i qC).2).getD k zA).1)))++([47]:TX))++(Lib.itoa ((((l.getD i qC).2).getD k zA).2.1)))++([32]:TX)))++qZ ((((l.getD i qC).2).getD k zA).2.2):qP).length))]=qM (qY [0,178] 210) [(.opn 0 0),(.osl 1 0 ((((zv (l.take i)++([118,111,105,99,101,32]++(l.getD i qC).1++[10])++zW ((l.getD i qC).2.take k))++((((([124,32]:TX)++(Lib.itoa ((((l.getD i qC).2).getD k zA).1)))++([47]:TX))++(Lib.itoa ((((l.getD i qC).2).getD k zA).2.1)))++([32]:TX)))++qZ ((((l.getD i qC).2).getD k zA).2.2):qP).length))]) (oc ((qG (qI _)).symm:(qS (((zv (l.take i)++([118,111,105,99,101,32]++(l.getD i qC).1++[10])++zW ((l.getD i qC).2.take k))++((((([124,32]:TX)++(Lib.itoa ((((l.getD i qC).2).getD k zA).1)))++([47]:TX))++(Lib.itoa ((((l.getD i qC).2).getD k zA).2.1)))++([32]:TX)))++qZ ((((l.getD i qC).2).getD k zA).2.2)))=qM (qY [0,178] 210) (qS (((zv (l.take i)++([118,111,105,99,101,32]++(l.getD i qC).1++[10])++zW ((l.getD i qC).2.take k))++((((([124,32]:TX)++(Lib.itoa ((((l.getD i qC).2).getD k zA).1)))++([47]:TX))++(Lib.itoa ((((l.getD i qC).2).getD k zA).2.1)))++([32]:TX)))++qZ ((((l.getD i qC).2).getD k zA).2.2)))) oz))))<|zE<|qX (Wk.eq (show _=[ps 5 (.opt 0 0),ps 17 (.ssl (yI l) 0 l.length),ps 18 (nv l.length),ps 19 (nv i),ps 32 (.ssl (vE ((l.getD i qC).2)) 0 (((l.getD i qC).2).length)),ps 33 (nv (((l.getD i qC).2).length)),ps 34 (nv k),pb 0 77 [(.opn 0 0),(.osl 210 0 (((((zv (l.take i)++([118,111,105,99,101,32]++(l.getD i qC).1++[10])++zW ((l.getD i qC).2.take k))++((((([124,32]:TX)++(Lib.itoa ((((l.getD i qC).2).getD k zA).1)))++([47]:TX))++(Lib.itoa ((((l.getD i qC).2).getD k zA).2.1)))++([32]:TX)))++qZ ((((l.getD i qC).2).getD k zA).2.2))++[10]:qP).length))],pb 210 5 (qS ((((zv (l.take i)++([118,111,105,99,101,32]++(l.getD i qC).1++[10])++zW ((l.getD i qC).2.take k))++((((([124,32]:TX)++(Lib.itoa ((((l.getD i qC).2).getD k zA).1)))++([47]:TX))++(Lib.itoa ((((l.getD i qC).2).getD k zA).2.1)))++([32]:TX)))++qZ ((((l.getD i qC).2).getD k zA).2.2))++[10]))] from by simp only [qG (qI _)])) ?_
    have hbn:zv (l.take i)++([118,111,105,99,101,32]++(l.getD i qC).1++[10])++zW ((l.getD i qC).2.take (k+1))=(((zv (l.take i)++([118,111,105,99,101,32]++(l.getD i qC).1++[10])++zW ((l.getD i qC).2.take k))++((((([124,32]:TX)++(Lib.itoa ((((l.getD i qC).2).getD k zA).1)))++([47]:TX))++(Lib.itoa ((((l.getD i qC).2).getD k zA).2.1)))++([32]:TX)))++qZ ((((l.getD i qC).2).getD k zA).2.2))++[10]:=by rw [qkm (show k<(l.getD i qC).2.length from by omega),qgf];simp only [List.append_assoc]
    refine qj mxd [] [ps 5 (.opt 0 0),ps 17 (.ssl (yI l) 0 l.length),ps 18 (nv l.length),ps 19 (nv i),ps 32 (.ssl (vE ((l.getD i qC).2)) 0 (((l.getD i qC).2).length)),ps 33 (nv (((l.getD i qC).2).length)),ps 34 (iv (((k:Nat):Int)+1)),pb 0 77 [(.opn 0 0),(.osl 210 0 (((((zv (l.take i)++([118,111,105,99,101,32]++(l.getD i qC).1++[10])++zW ((l.getD i qC).2.take k))++((((([124,32]:TX)++(Lib.itoa ((((l.getD i qC).2).getD k zA).1)))++([47]:TX))++(Lib.itoa ((((l.getD i qC).2).getD k zA).2.1)))++([32]:TX)))++qZ ((((l.getD i qC).2).getD k zA).2.2))++[10]:qP).length))],pb 210 5 (qS ((((zv (l.take i)++([118,111,105,99,101,32]++(l.getD i qC).1++[10])++zW ((l.getD i qC).2.take k))++((((([124,32]:TX)++(Lib.itoa ((((l.getD i qC).2).getD k zA).1)))++([47]:TX))++(Lib.itoa ((((l.getD i qC).2).getD k zA).2.1)))++([32]:TX)))++qZ ((((l.getD i qC).2).getD k zA).2.2))++[10]))] (oi (((k:Nat):Int)+1) (by omega) oz) ?_
    exact zQ ⟨k+1,by show k+1≤(l.getD i qC).2.length;omega⟩ (Wk.trans (Wk.eq (show _=[ps 5 (.opt 0 0),ps 17 (.ssl (yI l) 0 l.length),ps 18 (nv l.length),ps 19 (nv i),ps 32 (.ssl (vE ((l.getD i qC).2)) 0 (((l.getD i qC).2).length)),ps 33 (nv (((l.getD i qC).2).length)),ps 34 (nv (k+1)),pb 0 77 [(.opn 0 0),(.osl 210 0 ((zv (l.take i)++([118,111,105,99,101,32]++(l.getD i qC).1++[10])++zW ((l.getD i qC).2.take (k+1)):qP).length))],pb 210 5 (qS (zv (l.take i)++([118,111,105,99,101,32]++(l.getD i qC).1++[10])++zW ((l.getD i qC).2.take (k+1))))] from by rw [hbn];rfl)) (Wk.ren3 _ 0 hc0 [0,210] [(kb 1,(qS (zv (l.take i)++([118,111,105,99,101,32]++(l.getD i qC).1++[10])++zW ((l.getD i qC).2.take (k+1)))))] (oc (qI _) (oz)) (by kernel_rfl) rfl rfl (by kernel_rfl) (by kernel_rfl))) (show (l.getD i qC).2.length-(k+1)<(l.getD i qC).2.length-k from by show (l.getD i qC).2.length-(k+1)<(l.getD i qC).2.length-k;omega)
   refine qT (zM h6)<|zR rfl rfl<|zE<|qX (Wk.eq (show _=[ps 5 (.opt 0 0),ps 17 (.ssl (yI l) 0 l.length),ps 18 (nv l.length),ps 19 (nv i),ps 32 (.ssl (vE ((l.getD i qC).2)) 0 (((l.getD i qC).2).length)),ps 33 (nv (((l.getD i qC).2).length)),ps 34 (nv k),ps 35 (bv (decide (((k:Nat):Int)<((((l.getD i qC).2).length:Nat):Int)))),pb 0 77 [(.opn 0 0),(.osl 1 0 ((zv (l.take i)++([118,111,105,99,101,32]++(l.getD i qC).1++[10])++zW (l.getD i qC).2:qP).length))],pb 1 5 (qS (zv (l.take i)++([118,111,105,99,101,32]++(l.getD i qC).1++[10])++zW (l.getD i qC).2))] from by rw [List.take_of_length_le (show (l.getD i qC).2.length≤k from by omega)])) ?_
   have hvn:zv (l.take (i+1))=zv (l.take i)++([118,111,105,99,101,32]++(l.getD i qC).1++[10])++zW (l.getD i qC).2:=by rw [qim (show i<l.length from by omega),qeg];simp only [List.append_assoc]
   refine qj mxd [] [ps 5 (.opt 0 0),ps 17 (.ssl (yI l) 0 l.length),ps 18 (nv l.length),ps 19 (iv (((i:Nat):Int)+1)),pb 0 77 [(.opn 0 0),(.osl 1 0 ((zv (l.take i)++([118,111,105,99,101,32]++(l.getD i qC).1++[10])++zW (l.getD i qC).2:qP).length))],pb 1 5 (qS (zv (l.take i)++([118,111,105,99,101,32]++(l.getD i qC).1++[10])++zW (l.getD i qC).2))] (oi (((i:Nat):Int)+1) (by omega) oz) ?_
   exact zQ ⟨i+1,by show i+1≤l.length;omega⟩ (Wk.trans (Wk.eq (show _=[ps 5 (.opt 0 0),ps 17 (.ssl (yI l) 0 l.length),ps 18 (nv l.length),ps 19 (nv (i+1)),pb 0 77 [(.opn 0 0),(.osl 1 0 ((zv (l.take (i+1)):qP).length))],pb 1 5 (qS (zv (l.take (i+1))))] from by rw [hvn];rfl)) (Wk.ren3 _ 0 hc0 [0,1] [(kb 1,(qS (zv (l.take (i+1)))))] (oc (qI _) (oz)) (by kernel_rfl) rfl rfl (by kernel_rfl) (by kernel_rfl))) (show l.length-(i+1)<l.length-i from by show l.length-(i+1)<l.length-i;omega)
  refine qT (zM h5)<|zR rfl rfl<|qA<|qA<|qX (Wk.eq (show _=[ps 5 (.opt 0 0),ps 17 (.ssl (yI l) 0 l.length),ps 18 (nv l.length),ps 19 (nv i),ps 20 (bv (decide (((i:Nat):Int)<(l.length:Int)))),pb 0 77 [(.opn 0 0),(.osl 1 0 ((zv l:qP).length))],pb 1 5 (qS (zv l))] from by rw [List.take_of_length_le (show l.length≤i from by omega)])) ?_
  refine qj mxd [(3,.call [0,1] [(.opt 0 0)] [some (77,[(.opn 0 0),(.osl 1 0 ((zv l:qP).length))]),some (5,(qS (zv l)))] (nv ((zv l:qP).length)) [some (77,[(.opn 0 0),(.osl 1 0 ((zv l:qP).length))]),some (5,(qS (zv l)))])] [ps 5 (.opt 0 0),ps 66 (bv (decide (65536<(((zv l:qP).length:Nat):Int)))),pb 0 77 [(.opn 0 0),(.osl 1 0 ((zv l:qP).length))],pb 1 5 (qM (yH [0,1] 34) (qS (zv l)))] (oc (bl_pc (zv l)) (oc (rfl:[(.opt 0 0)]=qM (qY [0,1] 34) [(.opt 0 0)]) (oc (rfl:[(.opn 0 0),(.osl 1 0 ((zv l:qP).length))]=qM (qY [0,1] 34) [(.opn 0 0),(.osl 1 0 ((zv l:qP).length))]) (oc ((qG (qI _)).symm:(qS (zv l))=qM (qY [0,1] 34) (qS (zv l))) oz))))<|qX (Wk.eq (show _=[ps 5 (.opt 0 0),ps 66 (bv (decide (65536<(((zv l:qP).length:Nat):Int)))),pb 0 77 [(.opn 0 0),(.osl 1 0 ((zv l:qP).length))],pb 1 5 (qS (zv l))] from by simp only [qG (qI _)])) ?_
  by_cases h7:65536<(((zv l:qP).length:Nat):Int)
  ·refine qQ (zO h7)<|qA<|qj mxd [] [ps 2 se,ps 3 (iv 4)] (oz) ?_
   have hT:yw l=([],4):=by unfold yw;rw [if_pos (by omega),if_pos (show 65536<(zv l).length from by omega)]
   rw [hT]
   exact zy hc0 [2,3] []
  refine qT (zM h7)<|qE<|qA<|qj mxd [(3,.call [0,1] [(.opt 0 0)] [some (77,[(.opn 0 0),(.osl 1 0 ((zv l:qP).length))]),some (5,(qS (zv l)))] (sv (st (zv l))) [none,none])] [ps 2 (sv (st (zv l))),ps 3 (iv 0)] (oc (string_pc (.opn 0 0) (zv l) (pc_full (fun e=>h1 (by rw [e];rfl))) (by omega)) (oc (rfl:[(.opt 0 0)]=qM (qY [0,1] 74) [(.opt 0 0)]) (oc (rfl:[(.opn 0 0),(.osl 1 0 ((zv l:qP).length))]=qM (qY [0,1] 74) [(.opn 0 0),(.osl 1 0 ((zv l:qP).length))]) (oc ((qG (qI _)).symm:(qS (zv l))=qM (qY [0,1] 74) (qS (zv l))) oz)))) ?_
  have hT:yw l=(zv l,0):=by unfold yw;rw [if_pos (by omega),if_neg (show ¬ 65536<(zv l).length from by omega)]
  rw [hT]
  exact zy hc0 [2,3] []
 refine qQ (bf h4)<|qA<|qj mxd [] [ps 2 se,ps 3 (iv (qv l))] (oz) ?_
 have hT:yw l=([],qv l):=if_neg (by omega)
 rw [hT]
 exact zy hc0 [2,3] []
open Fr
theorem qid {v:Int}:∀ (l:List Br) (s:(Int × Int) × List Nt × Nat),(∀ y∈l,(wE y.2.2 1 4095).1=true∧y.2.2.length≠0)→ZQ (s.2.1,s.2.2,0)→(vj v l s).1=0→(vj v l s).2.2.1.length≤s.2.1.length+l.length*65536
 | [],s,_,_,_=>by rw [vj];exact Nat.le_add_right _ _
 | y :: l,s,hy,hs,h=>by
  obtain ⟨⟨a,b⟩,N,z⟩:=s
  rw [vj] at h ⊢
  split at h
  ·rename_i c
   rw [if_pos c]
   have k:=qcd (hy y (List.mem_cons_self ..)).1 (hy y (List.mem_cons_self ..)).2 hs c
   have ih:=qid l (vV v y ((a,b),N,z)).2 (fun q hq=>hy q (List.mem_cons_of_mem _ hq)) k.1 h
   have k2:=k.2.1
   rw [List.length_cons]
   dsimp only at k2 ⊢
   omega
  ·rename_i c
   exact absurd h c
theorem qfk:∀ (l:List Vo) (k:Int) (N:List Nt),(∀ x∈l,x.2.length≤1024∧∀ y∈x.2,(wE y.2.2 1 4095).1=true∧y.2.2.length≠0)→(wT l k N).1=0→(wT l k N).2.length≤N.length+l.length*70000000
 | [],k,N,_,_=>by rw [wT];exact Nat.le_add_right _ _
 | x :: l,k,N,hx,h=>by
  rw [wT] at h ⊢
  split at h
  ·rename_i c
   rw [if_pos c]
   have h1:=hx x (List.mem_cons_self ..)
   have k1:=qid x.2 ((0,1),[],0) h1.2 ⟨Nat.le_refl _,fun n hn=>by cases hn⟩ c
   have ih:=qfk l (k+1) _ (fun q hq=>hx q (List.mem_cons_of_mem _ hq)) h
   rw [List.length_append] at ih
   rw [List.length_cons]
   have h2:=h1.1
   simp only [List.length_nil] at k1
   omega
  ·rename_i c
   exact absurd h c
theorem mem_at {α:Type} {l:List α} {x d:α} (h:x∈l):∃ i,i<l.length∧l.getD i d=x:=by
 obtain ⟨i,hi,e⟩:=List.mem_iff_getElem.1 h
 exact ⟨i,hi,by rw [List.getD_eq_getElem?_getD,List.getElem?_eq_getElem hi];exact e⟩
theorem notes_len {l:List Vo} (h:(zS l).1=0):(zS l).2.length≤5000000000:=by
 unfold zS at h ⊢
 split at h
 ·rename_i c
  rw [if_pos c]
  have hw:=WB c
  have:=qfk l 0 [] (fun x hx=>by
   obtain ⟨i,hi,rfl⟩:=mem_at (d:=qC) hx
   refine ⟨(hw.2 i hi).1,fun y hy=>?_⟩
   obtain ⟨j,hj,rfl⟩:=mem_at (d:=zA) hy
   exact (hw.2 i hi).2 j hj) h
  have h1:=hw.1
  simp only [List.length_nil] at this
  omega
 ·rename_i c
  exact absurd h c
theorem qfj (l:List Nt) (hl:l.length≤5000000000):PC Tryz.prog 14 [(.ssl (qz l) 0 l.length),(.ssl (qz l) 0 l.length)] [] (bv true) []:=by
 refine zH Tryz.func14 rfl (by kernel_rfl) (Nat.le_of_ble_eq_true rfl) (by kernel_rfl) (l0:=[ps 0 (.ssl (qz l) 0 l.length),ps 1 (.ssl (qz l) 0 l.length)]) rfl (fun c0 Bor hc0=>?_)
 refine qA<|qK mxd [.r] []<|qA<|qA<|qK mxd [.k2,.n] [ps 10 (bv (!(decide (((l.length:Nat):Int)=(l.length:Int)))))] ?_
 have h1:(l.length:Int)=(l.length:Int):=rfl
 refine qT (bt h1)<|qE<|qA<|qA<|qK mxd [.k2,.d,.n,.n] [ps 12 (nv l.length),ps 13 (iv 0)]<|qU<|yB (α:={x:Nat // x≤l.length}) (fun x=>[ps 0 (.ssl (qz l) 0 l.length),ps 1 (.ssl (qz l) 0 l.length),ps 12 (nv l.length),ps 13 (nv x.1)]) (fun x=>l.length-x.1) 0 ⟨0,Nat.zero_le _⟩ (Wk.ren2 _ 0 hc0 [] rfl rfl (by kernel_rfl) (by kernel_rfl)) ?_
 rintro ⟨i,hi⟩
 refine qA<|qj mxd [] [ps 0 (.ssl (qz l) 0 l.length),ps 1 (.ssl (qz l) 0 l.length),ps 12 (nv l.length),ps 13 (nv i),ps 14 (bv (decide (((i:Nat):Int)<(l.length:Int))))] (oz)<|qA ?_
 by_cases h2:(i:Int)<(l.length:Int)
 ·refine qQ (zO h2)<|qE<|qA<|qU<|qA<|qK mxd [.k2,.n,.k2,.d] [ps 5 (nv i)]<|qA<|QJ mxd [(2,.nat (i*9)),(3,.cells [(iv ((l.getD i yD).1)),(iv ((l.getD i yD).2.1.1)),(iv ((l.getD i yD).2.1.2)),(iv ((l.getD i yD).2.2.1.1)),(iv ((l.getD i yD).2.2.1.2)),(iv ((l.getD i yD).2.2.2.1.1)),(iv ((l.getD i yD).2.2.2.1.2.1)),(iv ((l.getD i yD).2.2.2.1.2.2)),(sv (st ((l.getD i yD).2.2.2.2)))]),(6,.nat (i*9)),(7,.cells [(iv ((l.getD i yD).1)),(iv ((l.getD i yD).2.1.1)),(iv ((l.getD i yD).2.1.2)),(iv ((l.getD i yD).2.2.1.1)),(iv ((l.getD i yD).2.2.1.2)),(iv ((l.getD i yD).2.2.2.1.1)),(iv ((l.getD i yD).2.2.2.1.2.1)),(iv ((l.getD i yD).2.2.2.1.2.2)),(sv (st ((l.getD i yD).2.2.2.2)))])] [[],[],[0,1],[0,1,2],[],[],[4,5],[4,5,6],[0,1,2,3,4,5,6,7]] [([32],[0]),([34],[10]),([36],[32,34]),([38],[36]),([40],[2]),([42],[10]),([44],[40,42]),([46],[44]),([48],[38,46])] [.k2,.d,.k2,.n] [ps 24 (bv (!((decide (((l.getD i yD).1)=((l.getD i yD).1))) && (((decide (((l.getD i yD).2.1.1)=((l.getD i yD).2.1.1))) && (decide (((l.getD i yD).2.1.2)=((l.getD i yD).2.1.2)))) && (((decide (((l.getD i yD).2.2.1.1)=((l.getD i yD).2.2.1.1))) && (decide (((l.getD i yD).2.2.1.2)=((l.getD i yD).2.2.1.2)))) && (((decide (((l.getD i yD).2.2.2.1.1)=((l.getD i yD).2.2.2.1.1))) && ((decide (((l.getD i yD).2.2.2.1.2.1)=((l.getD i yD).2.2.2.1.2.1))) && (decide (((l.getD i yD).2.2.2.1.2.2)=((l.getD i yD).2.2.2.1.2.2))))) && ((st ((l.getD i yD).2.2.2.2)).toList == (st ((l.getD i yD).2.2.2.2)).toList)))))))] (oc (by omega:(0:Int)≤(i:Int)∧(i:Int)<(l.length:Int)) (oc (by omega:0+(((i:Nat):Int):Int).toNat*9=(i*9)) (oc (yF noC 9 (fun _=>rfl) yD l i 0 9 (by omega) (by decide):(i*9)+9≤((qz l)).length∧(((qz l)).drop (i*9)).take 9=[(iv ((l.getD i yD).1)),(iv ((l.getD i yD).2.1.1)),(iv ((l.getD i yD).2.1.2)),(iv ((l.getD i yD).2.2.1.1)),(iv ((l.getD i yD).2.2.1.2)),(iv ((l.getD i yD).2.2.2.1.1)),(iv ((l.getD i yD).2.2.2.1.2.1)),(iv ((l.getD i yD).2.2.2.1.2.2)),(sv (st ((l.getD i yD).2.2.2.2)))]) (oc (by omega:(0:Int)≤(i:Int)∧(i:Int)<(l.length:Int)) (oc (by omega:0+(((i:Nat):Int):Int).toNat*9=(i*9)) (oc (yF noC 9 (fun _=>rfl) yD l i 0 9 (by omega) (by decide):(i*9)+9≤((qz l)).length∧(((qz l)).drop (i*9)).take 9=[(iv ((l.getD i yD).1)),(iv ((l.getD i yD).2.1.1)),(iv ((l.getD i yD).2.1.2)),(iv ((l.getD i yD).2.2.1.1)),(iv ((l.getD i yD).2.2.1.2)),(iv ((l.getD i yD).2.2.2.1.1)),(iv ((l.getD i yD).2.2.2.1.2.1)),(iv ((l.getD i yD).2.2.2.1.2.2)),(sv (st ((l.getD i yD).2.2.2.2)))]) oz)))))) ?_
  have h3:((decide (((l.getD i yD).1)=((l.getD i yD).1))) && (((decide (((l.getD i yD).2.1.1)=((l.getD i yD).2.1.1))) && (decide (((l.getD i yD).2.1.2)=((l.getD i yD).2.1.2)))) && (((decide (((l.getD i yD).2.2.1.1)=((l.getD i yD).2.2.1.1))) && (decide (((l.getD i yD).2.2.1.2)=((l.getD i yD).2.2.1.2)))) && (((decide (((l.getD i yD).2.2.2.1.1)=((l.getD i yD).2.2.2.1.1))) && ((decide (((l.getD i yD).2.2.2.1.2.1)=((l.getD i yD).2.2.2.1.2.1))) && (decide (((l.getD i yD).2.2.2.1.2.2)=((l.getD i yD).2.2.2.1.2.2))))) && ((st ((l.getD i yD).2.2.2.2)).toList == (st ((l.getD i yD).2.2.2.2)).toList)))))=true:=(by simp)
  refine qT (congrArg Bool.not h3)<|qE<|zE<|zX mxd [] [.k3,.d,.n,.d] [ps 13 (iv (((i:Nat):Int)+1))] (oi (((i:Nat):Int)+1) (by omega) oz) ?_
  exact zQ ⟨i+1,by show i+1≤l.length;omega⟩ (Wk.trans (Wk.eq (show _=[ps 0 (.ssl (qz l) 0 l.length),ps 1 (.ssl (qz l) 0 l.length),ps 12 (nv l.length),ps 13 (nv (i+1))] from by rfl)) (Wk.ren2 _ 0 hc0 [] rfl rfl (by kernel_rfl) (by kernel_rfl))) (show l.length-(i+1)<l.length-i from by show l.length-(i+1)<l.length-i;omega)
 refine qT (zM h2)<|zR rfl rfl<|qA<|qj mxd [] [ps 4 (bv true)] (oz) ?_
 exact zy hc0 [4] []
theorem law_notes (l:List Vo) (hf:qbz l) (hwd:wdVs l):PC Tryz.prog 3 [(.ssl (yI l) 0 l.length)] [] (bv true) []:=by
 refine zH Tryz.func3 rfl (by kernel_rfl) (Nat.le_of_ble_eq_true rfl) (by kernel_rfl) (l0:=[ps 0 (.ssl (yI l) 0 l.length)]) rfl (fun c0 Bor hc0=>?_)
 refine qA<|qK mxd [.r] []<|qA<|qA<|zX mxd [(1,.call [] [(.ssl (yI l) 0 l.length)] [] (iv (qv l)) []),(3,.call [] [(.ssl (yI l) 0 l.length)] [] (iv (qv l)) [])] [.k1,.n] [ps 13 (bv (!(decide ((qv l)=(qv l)))))] (yC 16 (wW l hf) (yC 32 (qcr l hf hwd) oz)) ?_
 have h1:(qv l)=(qv l):=rfl
 refine qT (bt h1)<|qE<|qA<|vJ mxd 1 [.k1,.n,.n,.d] [ps 3 (sv (st ((yw l).1))),ps 4 (iv ((yw l).2))] (yC 56 (qjj l hf) oz)<|qA<|vJ mxd 1 [.k3,.n,.n] [ps 5 (sv (st ((yw l).1))),ps 6 (iv ((yw l).2))] (yC 112 (nprint_pc l hf hwd) oz)<|qA<|qA ?_
 have h2:((yw l).1)=((yw l).1):=rfl
 refine zX mxd ([(2,.val (.av (.bool (!decide (((yw l).1)=((yw l).1))))))]++gn 4 3++[(7,.yes false)]) [.k1,.d,.d,.d,.d,.n] [ps 31 (bv (!(decide (((yw l).2)=((yw l).2)))))] (oc (jA _ _:(!((st ((yw l).1)).toList == (st ((yw l).1)).toList)) = !decide (((yw l).1)=((yw l).1))) (on 4 (bt h2) oz)) ?_
 have h3:((yw l).2)=((yw l).2):=rfl
 refine qT (bt h3)<|qE<|qA ?_
 by_cases h4:(zS l).1=0
 ·refine vJ mxd 1 [.k1,.n,.n,.d,.n] [ps 4 (iv 0),ps 7 (.osl 232 0 ((zS l).2.length)),pb 232 58 (qM (yH [] 232) (qz ((zS l).2)))] (yC 232 (qbm l hf h4) oz)<|qX (Wk.eq (show _=[ps 0 (.ssl (yI l) 0 l.length),ps 4 (iv 0),ps 7 (.osl 232 0 ((zS l).2.length)),pb 232 58 (qz ((zS l).2))] from by simp only [qG (qk _)])) ?_
  refine qA<|vJ mxd 1 [.d,.k1,.n,.k1,.n,.k1,.n] [ps 6 (iv 0),ps 8 (.osl 288 0 ((zS l).2.length)),pb 288 58 (qM (yH [] 288) (qz ((zS l).2)))] (yC 288 (pc_yes (qhk l hf hwd) h4) oz)<|qX (Wk.eq (show _=[ps 4 (iv 0),ps 6 (iv 0),ps 7 (.osl 232 0 ((zS l).2.length)),ps 8 (.osl 288 0 ((zS l).2.length)),pb 232 58 (qz ((zS l).2)),pb 288 58 (qz ((zS l).2))] from by simp only [qG (qk _)])) ?_
  refine qA<|qj mxd ([(2,.lay [232,288] (.call [] [(.ssl (qz ((zS l).2)) 0 ((zS l).2.length)),(.ssl (qz ((zS l).2)) 0 ((zS l).2.length))] [] (bv true) []))]++gy 4 3) [ps 2 (bv true)] (oc (qk _:jV (qz ((zS l).2))) (oc (qk _:jV (qz ((zS l).2))) (yC 352 (qfj (zS l).2 (notes_len h4)) (on 3 tt oz)))) ?_
  exact zy hc0 [2] []
 refine vJ mxd 1 [.k1,.n,.n,.d] [ps 4 (iv ((zS l).1)),ps 7 (.ssl [] 0 0)] (yC 232 (qbn l hf h4) oz)<|qA<|vJ mxd 1 [.d,.k1,.n,.k1,.n] [ps 6 (iv ((zS l).1)),ps 8 (.ssl [] 0 0)] (yC 288 (pc_no (qhk l hf hwd) h4) oz)<|qA<|qj mxd ([(2,.call [] [(.ssl (qz ([]:List Nt)) 0 (([]:List Nt).length)),(.ssl (qz ([]:List Nt)) 0 (([]:List Nt).length))] [] (bv true) [])]++gy 4 3) [ps 2 (bv (decide (((zS l).1)=((zS l).1))))] (yC 352 (qfj [] (Nat.zero_le _):PC Tryz.prog 14 [(.ssl (qz ([]:List Nt)) 0 (([]:List Nt).length)),(.ssl (qz ([]:List Nt)) 0 (([]:List Nt).length))] [] (bv true) []) (on 3 tt oz))<|qX (Wk.eq (show _=[ps 2 (bv true)] from by rw [show decide ((zS l).1=(zS l).1)=true from zO rfl])) ?_
 exact zy hc0 [2] []
open Go.Deep Go.ChangeShapes Go.WideShapes Go.ChangeAt Go.RowKit
def ShF (r:TypeId→List PV→Prop):List Field→List PV→Prop
 | [],ps=>ps=[]
 | f :: fs,ps=>∃ a b,ps=a++b∧r f.type a∧ShF r fs b
def Sh (P:Program):Nat→TypeId→List PV→Prop
 | 0,_,_=>False
 | n+1,t,ps=>match P.underlying t with
  | some .bool=>∃ b,ps=[.av (.bool b)]
  | some (.int k)=>∃ m,ps=[.av (.int k m)]∧(Lit.int k m).wf=true
  | some (.float k)=>∃ b,ps=[.av (.float k b)]∧(Lit.float k b).wf=true
  | some .string=>∃ s:ByteArray,ps=[.av (.string s)]∧s.size≤maxLen∧s.data.toList.length≤reachBytes
  | some (.slice e)=>∃ ess:List (List PV),ps=[.ssl ess.flatten 0 ess.length]∧ess.length≤maxLen∧ess.length*P.bytesOf e≤reachBytes∧∀ es∈ess,Sh P n e es
  | some (.struct fs)=>ShF (Sh P n) fs.toList ps
  | _=>False
mutual
def vS {H:Type}:DataW H→Nat
 | .lit (.string bytes)=>bytes.length+1
 | .lit _=>1
 | .nil=>1
 | .ptr d=>vS d+1
 | .slice elems spare=>wV elems+wV spare+1
 | .agg parts=>wV parts+1
 | .iface _ d=>vS d+1
 | .map entries=>QI entries+1
 | .held _=>1
def wV {H:Type}:List (DataW H)→Nat
 | []=>0
 | d :: r=>vS d+wV r
def QI {H:Type}:List (Lit × DataW H)→Nat
 | []=>0
 | x :: r=>jw x+QI r
def jw {H:Type}:Lit × DataW H→Nat
 | (.string bytes,d)=>bytes.length+vS d+1
 | (_,d)=>vS d+1
end
mutual
def pvw:PV→Nat
 | .av (.string s)=>s.size+1
 | .ssl cs _ _=>wD cs+1
 | .agg cs=>wD cs+1
 | _=>1
def wD:List PV→Nat
 | []=>0
 | p :: l=>pvw p+wD l
end
theorem VQ:∀ a b:List PV,wD (a++b)=wD a+wD b
 | [],b=>by simp [wD]
 | p :: a,b=>by rw [List.cons_append,wD,wD,VQ a b];omega
theorem qbh:∀ l:List (List PV),wD l.flatten=(l.map wD).sum
 | []=>rfl
 | a :: l=>by rw [List.flatten_cons,VQ,qbh l,List.map_cons,List.sum_cons]
theorem sum_le {H:Type}:∀ (n:Nat) (f:Nat→Nat) (ds:List (DataW H)),ds.length=n→(∀ i (h:i<ds.length),f i≤vS ds[i])→((List.range n).map f).sum≤wV ds
 | 0,f,ds,hl,h=>by simp
 | n+1,f,[],hl,h=>by simp at hl
 | n+1,f,d :: ds,hl,h=>by
  rw [List.range_succ_eq_map,List.map_cons,List.sum_cons,List.map_map,wV]
  have h0:=h 0 (by simp)
  have h1:=sum_le n (f ∘ Nat.succ) ds (by simpa using hl) fun i hi=>by have:=h (i+1) (by simpa using hi);simpa using this
  simp only [List.getElem_cons_zero] at h0
  omega
def qgb (P:Program):List Field→Nat→Option Nat
 | [],o=>some o
 | f :: fs,o=>if f.offset=o then qgb P fs (o+P.cellsOf f.type) else none
def openB (P:Program) (Ts:List TypeId):Bool:=Ts.all fun t=>match P.underlying t with
 | some .bool | some (.int _) | some (.float _) | some .string=>Nat.beq (P.cellsOf t) 1
 | some (.slice e)=>Nat.beq (P.cellsOf t) 1 && Nat.ble 1 (P.cellsOf e) && Ts.contains e
 | some (.struct fs)=>qgb P fs.toList 0 == some (P.cellsOf t) && fs.toList.all fun f=>Ts.contains f.type
 | _=>false
theorem List.getD_app {α:Type} {l m:List α} {i:Nat} {d:α} (h:i<l.length):(l++m).getD i d=l.getD i d:=by
 rw [List.getD_eq_getElem?_getD,List.getD_eq_getElem?_getD,List.getElem?_append_left h]
theorem List.getD_app_r {α:Type} {l m:List α} {i:Nat} {d:α} (h:l.length≤i):(l++m).getD i d=m.getD (i-l.length) d:=by
 rw [List.getD_eq_getElem?_getD,List.getD_eq_getElem?_getD,List.getElem?_append_right h]
theorem qdj {k:Nat}:∀ {ess:List (List PV)},(∀ es∈ess,es.length=k)→ess.flatten.length=ess.length*k∧∀ i j,j<k→i<ess.length→ess.flatten.getD (i*k+j) P0=(ess.getD i []).getD j P0
 | [],_=>⟨by simp,fun i j _ h=>absurd h (Nat.not_lt_zero _)⟩
 | es :: ess,h=>by
  have h0:=h es (by simp)
  obtain ⟨h1,h2⟩:=qdj (ess:=ess) fun x hx=>h x (by simp [hx])
  refine ⟨by rw [List.flatten_cons,List.length_append,h0,h1,List.length_cons,Nat.succ_mul];omega,fun i j hj hi=>?_⟩
  rw [List.flatten_cons]
  cases i with
  | zero=>rw [Nat.zero_mul,Nat.zero_add,List.getD_app (by omega)];rfl
  | succ i =>
   rw [List.getD_app_r (by rw [h0,Nat.succ_mul];omega),h0,show (i+1)*k+j-k=i*k+j from by rw [Nat.succ_mul];omega,h2 i j hj (by simpa using hi)]
   rfl
section
variable {H:Type} {enc:TypeId × Value→H} {P:Program} {w:World} {base:Nat} {held:Bool}
abbrev qcz (w:World) (ps:List PV) (cs:List Value):Prop:=wL ps∧ps.length=cs.length∧∀ i,i<ps.length→SRep w (fun b=>b<w.heap.size) (ps.getD i P0) (cs.getD i undef)
theorem jz {p:PV} {v:Value} (h:p.one=true) (hr:SRep w (fun b=>b<w.heap.size) p v):qcz w [p] [v] :=
 ⟨fun q hq=>by simp only [List.mem_singleton] at hq;rw [hq];exact h,rfl,fun i hi=>by
  have:i=0:=by simp at hi;omega
  subst this;exact hr⟩
theorem open_fs {Ts:List TypeId} {n:Nat} (ih:∀ (t:TypeId) (cs:List Value) (x:DataW H × List MemPlace),t∈Ts→DataW.trod enc P w base (fun _=>true) held n t cs=some x→(x.1.weights P t).all (· ≤ reachBytes)=true →
  ∃ ps,Sh P n t ps∧qcz w ps cs∧cs.length=P.cellsOf t∧wD ps≤vS x.1) (cs:List Value) :
  ∀ (fs:List Field) (xs:List (DataW H × List MemPlace)) (o e:Nat),qgb P fs o=some e→e≤cs.length→(∀ f∈fs,f.type∈Ts)→xs.length=fs.length →
   (∀ (i:Nat) (f:Field),fs[i]? = some f→DataW.trod enc P w base (fun _=>true) held n f.type ((cs.drop f.offset).take (P.cellsOf f.type))=xs[i]?) →
   (DataW.weightsEach P (fs.map (·.type)) (xs.map (·.1))).all (· ≤ reachBytes)=true→∃ ps,ShF (Sh P n) fs ps∧qcz w ps ((cs.drop o).take (e-o))∧o≤e∧wD ps≤wV (xs.map (·.1))
 | [],xs,o,e,hc,he,_,_,_,_=>by
  simp only [qgb,Option.some.injEq] at hc
  subst hc
  exact ⟨[],rfl,⟨fun p hp=>(by cases hp),by simp,fun i hi=>by simp at hi⟩,Nat.le_refl _,Nat.zero_le _⟩
 | f :: fs,[],o,e,hc,he,hT,hx,hf,hw=>by simp at hx
 | f :: fs,x :: xs,o,e,hc,he,hT,hx,hf,hw=>by
  simp only [qgb] at hc
  split at hc
  case isFalse=>cases hc
  rename_i ho
  simp only [List.map_cons,DataW.weightsEach,List.all_append,Bool.and_eq_true] at hw
  obtain ⟨b,hb1,hb2,hb3,hb4⟩:=open_fs ih cs fs xs _ e hc he (fun g hg=>hT g (by simp [hg])) (by simpa using hx) (fun i g hg=>by have:=hf (i+1) g (by simpa using hg);simpa using this) hw.2
  obtain ⟨a,ha1,ha2,ha3,ha4⟩:=ih f.type _ x (hT f (by simp)) (by have:=hf 0 f (by simp);simpa using this) hw.1
  rw [ho] at ha2 ha3
  have hla:(List.take (P.cellsOf f.type) (List.drop o cs)).length=P.cellsOf f.type:=ha3
  have e1:(cs.drop o).take (e-o)=(cs.drop o).take (P.cellsOf f.type)++(cs.drop (o+P.cellsOf f.type)).take (e-(o+P.cellsOf f.type)):=by
   rw [← List.drop_drop,show e-o=P.cellsOf f.type+(e-(o+P.cellsOf f.type)) from by omega,List.take_add]
  refine ⟨a++b,⟨a,b,rfl,ha1,hb1⟩,?_,by omega,by rw [VQ,List.map_cons,wV];omega⟩
  rw [e1]
  refine ⟨fun p hp=>?_,by rw [List.length_append,List.length_append,ha2.2.1,hb2.2.1],fun i hi=>?_⟩
  ·rcases List.mem_append.1 hp with h|h
   ·exact ha2.1 p h
   ·exact hb2.1 p h
  ·have hl:=ha2.2.1
   rw [List.length_append] at hi
   by_cases h:i<a.length
   ·rw [List.getD_app h,List.getD_app (by omega)]
    exact ha2.2.2 i h
   ·rw [List.getD_app_r (by omega),List.getD_app_r (by omega),← hl]
    exact hb2.2.2 _ (by omega)
theorem qfh {Ts:List TypeId} (hT:openB P Ts=true):∀ (n:Nat) (t:TypeId) (cs:List Value) (x:DataW H × List MemPlace),t∈Ts→DataW.trod enc P w base (fun _=>true) held n t cs=some x→(x.1.weights P t).all (· ≤ reachBytes)=true →
  ∃ ps,Sh P n t ps∧qcz w ps cs∧cs.length=P.cellsOf t∧wD ps≤vS x.1
 | 0,_,_,_,_,h,_=>by simp [DataW.trod] at h
 | n+1,t,cs,x,ht,h,hw=>by
  have hB:=List.all_eq_true.1 hT t ht
  split at hB
  ·rename_i hu
   obtain ⟨b,rfl,rfl⟩:=DataW.trod_bool hu h
   exact ⟨[.av (.bool b)],by simp only [Sh,hu];exact ⟨b,rfl⟩,jz rfl (.av _),(Nat.eq_of_beq_eq_true hB).symm,by simp [wD,pvw,vS]⟩
  ·rename_i k hu
   obtain ⟨b,rfl,rfl,hwf⟩:=DataW.trod_int hu h
   exact ⟨[.av (.int k b)],by simp only [Sh,hu];exact ⟨b,rfl,hwf⟩,jz rfl (.av _),(Nat.eq_of_beq_eq_true hB).symm,by simp [wD,pvw,vS]⟩
  ·rename_i k hu
   have:∃ b,cs=[.float k b]∧(Lit.float k b).wf=true∧x=(.lit (.float k b),[]):=by
    unfold DataW.trod at h
    rw [hu] at h
    split at h <;> simp_all
   obtain ⟨b,rfl,hwf,rfl⟩:=this
   exact ⟨[.av (.float k b)],by simp only [Sh,hu];exact ⟨b,rfl,hwf⟩,jz rfl (.av _),(Nat.eq_of_beq_eq_true hB).symm,by simp [wD,pvw,vS]⟩
  ·rename_i hu
   obtain ⟨s,rfl,rfl,hs⟩:=DataW.trod_string hu h
   have hw9:([s.data.toList.length].all (· ≤ reachBytes))=true:=hw
   have hw8:s.data.toList.length≤reachBytes:=of_decide_eq_true (List.all_eq_true.1 hw9 s.data.toList.length (List.mem_singleton.2 rfl))
   exact ⟨[.av (.string s)],by simp only [Sh,hu];exact ⟨s,rfl,hs,hw8⟩,jz rfl (.av _),(Nat.eq_of_beq_eq_true hB).symm,by simp [wD,pvw,vS]⟩
  ·rename_i e hu
   simp only [Bool.and_eq_true] at hB
   obtain ⟨⟨hB1,hB2⟩,hB3⟩:=hB
   have hB1:=Nat.eq_of_beq_eq_true hB1
   have hk:=Nat.le_of_ble_eq_true hB2
   have he:e∈Ts:=by simpa using hB3
   rcases DataW.trod_slice hu h with ⟨rfl,rfl⟩|⟨a,len,cap,elems,rest,m,hm,rfl,rfl,hb,hl,hcap,hel,hE,_,_⟩
   ·refine ⟨[.ssl [] 0 0],?_,jz rfl .emp,hB1.symm,by simp [wD,pvw,vS]⟩
    simp only [Sh,hu]
    exact ⟨[],rfl,Nat.zero_le _,by simp,by simp⟩
   ·obtain rfl:m=n:=by omega
    simp only [DataW.weights,hu,List.length_map,List.all_cons,List.all_append,Bool.and_eq_true,decide_eq_true_eq] at hw
    have hwl:∀ i (hi:i<elems.length),((elems[i].1).weights P e).all (· ≤ reachBytes)=true:=by
     intro i hi
     refine List.all_eq_true.2 fun z hz=>?_
     exact List.all_eq_true.1 hw.2.1 z (YU (List.mem_map.2 ⟨elems[i],List.getElem_mem hi,rfl⟩) z hz)
    have each:∀ i,i<len→∃ q:List PV × List Value,Sh P m e q.1∧qcz w q.1 q.2∧q.2.length=P.cellsOf e∧(∀ j,j<P.cellsOf e→w.cell? (a.add (i*P.cellsOf e+j))=some (q.2.getD j undef))∧∀ h:i<elems.length,wD q.1≤vS (elems[i]).1:=by
     intro i hi
     have h1:=hE i hi
     rw [List.getElem?_eq_getElem (by omega),Option.bind_eq_some_iff] at h1
     obtain ⟨cs',h2,h3⟩:=h1
     obtain ⟨ps,h4,h5,h6,h7⟩:=qfh hT m e cs' _ he h3 (hwl i (by omega))
     refine ⟨(ps,cs'),h4,h5,h6,fun j hj=>?_,fun _=>h7⟩
     rw [← Addr.add_add,(World.cells?_some h2).2.2 j hj]
     have:j<cs'.length:=by omega
     simp [List.getD_eq_getElem?_getD,this]
    let Q:Nat→List PV × List Value:=fun i=>if hi:i<len then (each i hi).choose else ([],[])
    have hQ:∀ i,i<len→Sh P m e (Q i).1∧qcz w (Q i).1 (Q i).2∧(Q i).2.length=P.cellsOf e∧(∀ j,j<P.cellsOf e→w.cell? (a.add (i*P.cellsOf e+j))=some ((Q i).2.getD j undef))∧∀ h:i<elems.length,wD (Q i).1≤vS (elems[i]).1:=by
     intro i hi
     have e1:Q i=(each i hi).choose:=dif_pos hi
     rw [e1]
     exact (each i hi).choose_spec
    have hlen:((List.range len).map fun i=>(Q i).1).length=len:=by simp
    refine ⟨[.ssl ((List.range len).map fun i=>(Q i).1).flatten 0 ((List.range len).map fun i=>(Q i).1).length],?_,jz rfl ?_,hB1.symm,?_⟩
    ·simp only [Sh,hu]
     refine ⟨_,rfl,by rw [hlen];omega,by rw [hlen];exact Nat.le_trans (Nat.mul_le_mul_right _ (by omega)) hw.1,fun es hes=>?_⟩
     obtain ⟨i,hi,rfl⟩:=List.mem_map.1 hes
     exact (hQ i (List.mem_range.1 hi)).1
    ·rw [hlen]
     rcases Nat.eq_zero_or_pos len with h0|h0
     ·subst h0;exact .emp
     ·have hes:∀ es∈(List.range len).map fun i=>(Q i).1,es.length=P.cellsOf e:=fun es hes=>by
       obtain ⟨i,hi,rfl⟩:=List.mem_map.1 hes
       obtain ⟨_,h2,h3,_⟩:=hQ i (List.mem_range.1 hi)
       exact h2.2.1.trans h3
      obtain ⟨hf1,hf2⟩:=qdj hes
      rw [hlen] at hf1 hf2
      have hg:∀ i,i<len→((List.range len).map fun i=>(Q i).1).getD i []=(Q i).1:=fun i hi=>by simp [List.getD_eq_getElem?_getD,hi]
      obtain ⟨b,o,rfl,hbs,hcell⟩:=cells_from (w:=w) (a:=a) (n:=len*P.cellsOf e) (f:=fun c=>(Q (c / P.cellsOf e)).2.getD (c % P.cellsOf e) undef) (fun c hc=>by
       have hd:c / P.cellsOf e<len:=Nat.div_lt_of_lt_mul (by rw [Nat.mul_comm];exact hc)
       have:=(hQ _ hd).2.2.2.1 (c % P.cellsOf e) (Nat.mod_lt _ hk)
       rw [Nat.mul_comm,Nat.div_add_mod] at this
       exact this) (Nat.mul_pos h0 hk)
      refine SRep.ssl (a:=o) (off:=0) (vf:=fun c=>(Q (c / P.cellsOf e)).2.getD (c % P.cellsOf e) undef) hbs (fun j hj=>hcell j (by omega)) (fun j hj=>?_) (fun p hp=>?_) hl
      ·rw [hf1] at hj
       have hd:j / P.cellsOf e<len:=Nat.div_lt_of_lt_mul (by rw [Nat.mul_comm];exact hj)
       have hm:=Nat.mod_lt j hk
       have e1:=hf2 (j / P.cellsOf e) (j % P.cellsOf e) hm hd
       rw [Nat.mul_comm,Nat.div_add_mod,hg _ hd] at e1
       rw [e1]
       obtain ⟨_,h2,h3,_⟩:=hQ _ hd
       exact h2.2.2 _ (by rw [h2.2.1,h3];exact hm)
      ·obtain ⟨es,hes',hp'⟩:=List.mem_flatten.1 hp
       obtain ⟨i,hi,rfl⟩:=List.mem_map.1 hes'
       exact (hQ i (List.mem_range.1 hi)).2.1.1 p hp'
    ·simp only [wD,pvw,vS,qbh,List.map_map]
     have:=sum_le len (wD ∘ fun i=>(Q i).1) (elems.map (·.1)) (by simpa using hel) fun i hi=>by
      have hi':i<elems.length:=by simpa using hi
      have:=(hQ i (by omega)).2.2.2.2 hi'
      simpa using this
     omega
  ·rename_i fs hu
   simp only [Bool.and_eq_true,beq_iff_eq,List.all_eq_true] at hB
   obtain ⟨xs,m,hm,rfl,hl,hxl,hf⟩:=DataW.trod_struct hu h
   obtain rfl:m=n:=by omega
   simp only [DataW.weights,hu] at hw
   obtain ⟨ps,h1,h2,_,h4⟩:=open_fs (qfh hT m) cs fs.toList xs 0 _ hB.1 (by omega) (fun f hf=>by simpa using hB.2 f hf) (by simpa using hxl) (fun i f hif=>hf i f (by simpa using hif)) hw
   rw [List.drop_zero,Nat.sub_zero,← hl,List.take_length] at h2
   exact ⟨ps,by simp only [Sh,hu];exact h1,h2,hl,by simp only [vS];omega⟩
  ·cases hB
end
theorem weights_at {H:Type} {P:Program} {ts:List TypeId} {ds:List (DataW H)} (h:(DataW.weightsEach P ts ds).all (· ≤ reachBytes)=true) {j:Nat} {t:TypeId} {d:DataW H} (ht:ts[j]? = some t) (hd:ds[j]? = some d):(d.weights P t).all (· ≤ reachBytes)=true :=
 List.all_eq_true.2 fun n hn=>List.all_eq_true.1 h n (DataW.weights_mem_each ht hd n hn)
theorem arg_any {H:Type} {enc:TypeId × Value→H} {P:Program} {w:World} {base:Nat} {t:TypeId} {v:Value} {d:DataW H} {pl:List MemPlace} {r:Reach} {b0:Nat} {held:Bool} {Ts:List TypeId}
  (hT:openB P Ts=true) (ht:t∈Ts) (hv:Value.okWide P w r b0 t v) (h:DataW.Trod enc P w base (fun _=>true) held t v d pl)
  {ts:List TypeId} {ds:List (DataW H)} (hs:(DataW.weightsEach P ts ds).all (· ≤ reachBytes)=true) {j:Nat} (hj:ts[j]? = some t) (hd:ds[j]? = some d) :
  ∃ n ps,Sh P n t ps∧wD ps≤vS d∧match wN (P.underlying t) with
   | some true=>SRep w (fun b=>b<w.heap.size) (.agg ps) v
   | _=>∃ p,ps=[p]∧SRep w (fun b=>b<w.heap.size) p v:=by
 obtain ⟨n,hf⟩:=h
 obtain ⟨ps,h1,⟨h2,h3,h4⟩,h5,h6⟩:=qfh hT n t _ _ ht hf (weights_at hs hj hd)
 refine ⟨n,ps,h1,h6,?_⟩
 have hB:=List.all_eq_true.1 hT t ht
 have one:v.cells = #[v]→∃ p,ps=[p]∧SRep w (fun b=>b<w.heap.size) p v:=fun hc=>by
  rw [hc] at h3 h4
  simp only [List.length_cons,List.length_nil] at h3
  obtain ⟨p,rfl⟩:=List.length_eq_one_iff.1 h3
  exact ⟨p,rfl,h4 0 (by simp)⟩
 split at hB
 ·rename_i hu
  obtain ⟨b,rfl⟩:=okWide_bool hu hv
  simp only [hu,wN]
  exact one rfl
 ·rename_i k hu
  obtain ⟨b,rfl⟩:=okWide_int hu hv
  simp only [hu,wN]
  exact one rfl
 ·rename_i k hu
  have:∃ b,v = .float k b:=by
   simp only [Value.okWide,hu,Cell.okWide] at hv
   cases v <;> simp_all [Cell.ok]
  obtain ⟨b,rfl⟩:=this
  simp only [hu,wN]
  exact one rfl
 ·rename_i hu
  obtain ⟨b,rfl⟩:=okWide_string hu hv
  simp only [hu,wN]
  exact one rfl
 ·rename_i e hu
  obtain ⟨a,l,c,rfl⟩:=okWide_slice hu hv
  simp only [hu,wN]
  exact one rfl
 ·rename_i fs hu
  obtain ⟨cs,rfl,hsz⟩:=okWide_struct hu hv
  simp only [hu,wN]
  simp only [Value.cells] at h3 h4
  refine .agg (by simpa using h3.symm) fun i hi=>?_
  have:=h4 i hi
  rwa [show cs.toList.getD i undef=cs.getD i undef from by rw [List.getD_eq_getElem?_getD,Array.getElem?_toList,Array.getD_eq_getD_getElem?]] at this
 ·cases hB
mutual
theorem ZN {H:Type}:∀ d:DataW H,Rows.uptoBulk d=vS d
 | .lit (.string b)=>by simp [Rows.uptoBulk,vS]
 | .lit (.bool _)=>by simp [Rows.uptoBulk,vS]
 | .lit (.int _ _)=>by simp [Rows.uptoBulk,vS]
 | .lit (.float _ _)=>by simp [Rows.uptoBulk,vS]
 | .lit .nil=>by simp [Rows.uptoBulk,vS]
 | .nil=>by simp [Rows.uptoBulk,vS]
 | .ptr d=>by simp [Rows.uptoBulk,vS,ZN d]
 | .slice e s=>by simp [Rows.uptoBulk,vS,Vj e,Vj s]
 | .agg ps=>by simp [Rows.uptoBulk,vS,Vj ps]
 | .iface _ d=>by simp [Rows.uptoBulk,vS,ZN d]
 | .map es=>by simp [Rows.uptoBulk,vS,qcb es]
 | .held _=>by simp [Rows.uptoBulk,vS]
theorem Vj {H:Type}:∀ l:List (DataW H),Rows.uptoBulkAll l=wV l
 | []=>by simp [Rows.uptoBulkAll,wV]
 | d :: l=>by simp [Rows.uptoBulkAll,wV,ZN d,Vj l]
theorem qcb {H:Type}:∀ l:List (Lit × DataW H),Rows.uptoBulkEntries l=QI l
 | []=>by simp [Rows.uptoBulkEntries,QI]
 | x :: l=>by simp [Rows.uptoBulkEntries,QI,bulk_entry x,qcb l]
theorem bulk_entry {H:Type}:∀ x:Lit × DataW H,Rows.uptoBulkEntry x=jw x
 | (.string b,d)=>by simp [Rows.uptoBulkEntry,jw,ZN d]
 | (.bool _,d)=>by simp [Rows.uptoBulkEntry,jw,ZN d]
 | (.int _ _,d)=>by simp [Rows.uptoBulkEntry,jw,ZN d]
 | (.float _ _,d)=>by simp [Rows.uptoBulkEntry,jw,ZN d]
 | (.nil,d)=>by simp [Rows.uptoBulkEntry,jw,ZN d]
end
theorem small_bulk {H:Type} {l:List (DataW H)} (hk:Rows.uptoSmall H l=true):wV l≤1048576:=by
 have h:Rows.uptoBulkAll l≤1048576:=of_decide_eq_true hk
 rwa [Vj] at h
theorem bulk_mem {H:Type} {d:DataW H}:∀ {l:List (DataW H)},d∈l→vS d≤wV l
 | x :: l,h=>by
  rw [wV]
  rcases List.mem_cons.1 h with rfl|h
  ·omega
  ·have:=bulk_mem h;omega
theorem list_of {α:Type} {g:α→List PV} {q:α→Prop}:∀ {ess:List (List PV)},(∀ es∈ess,∃ x,es=g x∧q x)→∃ l:List α,ess=l.map g∧∀ x∈l,q x
 | [],_=>⟨[],rfl,by simp⟩
 | es :: ess,h=>by
  obtain ⟨x,rfl,hx⟩:=h es (by simp)
  obtain ⟨l,rfl,hl⟩:=list_of (ess:=ess) fun e he=>h e (by simp [he])
  exact ⟨x :: l,rfl,fun y hy=>by
   rcases List.mem_cons.1 hy with rfl|hy
   ·exact hx
   ·exact hl y hy⟩
theorem flat_of {α:Type} (g:α→List PV) (l:List α):(l.map g).flatten=l.flatMap g:=List.flatMap_def.symm
theorem sh_num {P:Program} {t:TypeId} {k:IntKind} (ht:P.underlying t=some (.int k)) {n:Nat} {ps:List PV} (h:Sh P n t ps):∃ m,ps=[.av (.int k m)]∧(Lit.int k m).wf=true:=by
 cases n with
 | zero=>exact h.elim
 | succ n=>simpa only [Sh,ht] using h
theorem sh_str' {P:Program} {t:TypeId} (ht:P.underlying t=some .string) {n:Nat} {ps:List PV} (h:Sh P n t ps):∃ s:ByteArray,ps=[.av (.string s)]∧s.size≤maxLen∧s.data.toList.length≤reachBytes:=by
 cases n with
 | zero=>exact h.elim
 | succ n=>simpa only [Sh,ht] using h
theorem qbd {P:Program} {t e:TypeId} (ht:P.underlying t=some (.slice e)) {α:Type} {g:α→List PV} {q:α→Prop} {n:Nat} {ps:List PV} (h:Sh P n t ps) (hg:∀ m es,m<n→Sh P m e es→∃ x,es=g x∧q x) :
  ∃ l:List α,ps=[.ssl (l.flatMap g) 0 l.length]∧(∀ x∈l,q x)∧l.length≤maxLen∧l.length*P.bytesOf e≤reachBytes:=by
 cases n with
 | zero=>exact h.elim
 | succ n =>
  simp only [Sh,ht] at h
  obtain ⟨ess,rfl,h1,h2,h3⟩:=h
  obtain ⟨l,rfl,hl⟩:=list_of fun es hes=>hg n es (Nat.lt_succ_self _) (h3 es hes)
  rw [List.length_map] at h1 h2
  refine ⟨l,by rw [flat_of,List.length_map],hl,h1,h2⟩
theorem wf_of {m:Int} (h:(Lit.int .i64 m).wf=true):ZS m:=by
 simp [Lit.wf,IntKind.min,IntKind.max,IntKind.signed,IntKind.bits] at h;unfold ZS;omega
theorem Zx {n:Nat} {ps:List PV} (h:Sh Tryz.prog n 3 ps):∃ m,ps=[iv m]∧ZS m:=by
 obtain ⟨m,h1,h2⟩:=sh_num Tryz.underlying3 h
 exact ⟨m,h1,wf_of h2⟩
theorem sc_str {n:Nat} {ps:List PV} (h:Sh Tryz.prog n 9 ps):∃ s:qP,ps=[sv (st s)]∧s.length≤140737488351232:=by
 obtain ⟨s,h1,_,h2⟩:=sh_str' Tryz.underlying9 h
 exact ⟨s.data.toList,h1,h2⟩
theorem sc_iv {n:Nat} {ps:List PV} (h:Sh Tryz.prog n 41 ps):∃ i:Int × Int,ps=[iv i.1,iv i.2]∧ZS i.1∧ZS i.2:=by
 cases n with
 | zero=>exact h.elim
 | succ n =>
  simp only [Sh,Tryz.underlying41,ShF] at h
  obtain ⟨a,b,rfl,h1,c,d,rfl,h2,rfl⟩:=h
  obtain ⟨x,rfl,hx⟩:=Zx h1
  obtain ⟨y,rfl,hy⟩:=Zx h2
  exact ⟨(x,y),rfl,hx,hy⟩
theorem qkd:∀ {l:List It},(∀ x∈l,QO x)→wx l
 | [],_=>trivial
 | x :: l,h=>⟨h x (by simp),qkd fun y hy=>h y (by simp [hy])⟩
theorem sc_pitW {n:Nat} {ps:List PV} (h:Sh Tryz.prog n 52 ps):∃ p:Pt,ps=ptC p∧ZS p.2.1:=by
 cases n with
 | zero=>exact h.elim
 | succ n =>
  simp only [Sh,Tryz.underlying52,ShF] at h
  obtain ⟨a,b,rfl,h1,c,d,rfl,h2,e,f,rfl,h3,rfl⟩:=h
  obtain ⟨x,rfl,_⟩:=Zx h1
  obtain ⟨y,rfl,hy⟩:=Zx h2
  obtain ⟨z,rfl,_⟩:=Zx h3
  exact ⟨(x,y,z),rfl,hy⟩
theorem sc_ptsW {n:Nat} {ps:List PV} (h:Sh Tryz.prog n 48 ps):∃ l:List Pt,ps=[.ssl (zF l) 0 l.length]∧l.length≤5864062014634∧∀ i,i<l.length→Pi.I64 (l.getD i zT).2.1:=by
 obtain ⟨l,h1,h2,_,h4⟩:=qbd (g:=ptC) (q:=fun p=>ZS p.2.1) Tryz.underlying48 h fun m es _ hs=>sc_pitW hs
 rw [show Tryz.prog.bytesOf 52=24 from by kernel_rfl] at h4
 have h5:l.length*24≤140737488351232:=h4
 refine ⟨l,h1,by omega,fun i hi=>?_⟩
 rw [List.getD_eq_getElem?_getD,List.getElem?_eq_getElem hi]
 exact h2 _ (List.getElem_mem hi)
theorem wdL_of:∀ {l:List It},(∀ x∈l,wdI x)→wdL l
 | [],_=>by rw [wdL];trivial
 | x :: l,h=>by rw [wdL];exact ⟨h x (by simp),wdL_of fun y hy=>h y (by simp [hy])⟩
theorem item_ofW:∀ (n:Nat) (ps:List PV),Sh Tryz.prog n 50 ps→∃ x,ps=gI x∧(QO x∧wdI x):=by
 intro n
 induction n using Nat.strongRecOn with
 | ind n ih =>
  intro ps h
  cases n with
  | zero=>exact h.elim
  | succ n =>
   simp only [Sh,Tryz.underlying50,ShF] at h
   obtain ⟨_,_,rfl,h1,_,_,rfl,h2,_,_,rfl,h3,_,_,rfl,h4,_,_,rfl,h5,_,_,rfl,h6,rfl⟩:=h
   obtain ⟨k,rfl,_⟩:=Zx h1
   obtain ⟨s,rfl,_⟩:=Zx h2
   obtain ⟨P,rfl,hP,hPs⟩:=sc_ptsW h3
   obtain ⟨i,rfl,hi1,hi2⟩:=sc_iv h4
   obtain ⟨y,rfl,hy⟩:=sc_str h5
   obtain ⟨l,rfl,hl,_,hb⟩:=qbd (g:=gI) (q:=fun x=>QO x∧wdI x) Tryz.underlying45 h6 fun m es hm hs=>ih m (by omega) es hs
   rw [show Tryz.prog.bytesOf 50=96 from by kernel_rfl] at hb
   have hb':l.length*96≤140737488351232:=hb
   refine ⟨.mk k s P i y l,?_,⟨⟨hi1,hi2⟩,hP,hy,by omega,qkd fun x hx=>(hl x hx).1⟩,by rw [wdI];exact ⟨hPs,wdL_of fun x hx=>(hl x hx).2⟩⟩
   simp only [gI,iK,iS,iP,iB,iL,iC,Zq]
   rfl
theorem sc_itemsW {n:Nat} {ps:List PV} (h:Sh Tryz.prog n 45 ps):∃ l:List It,ps=[.ssl (qN l) 0 l.length]∧l.length≤1466015503658∧wx l∧wdL l:=by
 obtain ⟨l,h1,hl,_,hb⟩:=qbd (g:=gI) (q:=fun x=>QO x∧wdI x) Tryz.underlying45 h fun m es _ hs=>item_ofW m es hs
 rw [show Tryz.prog.bytesOf 50=96 from by kernel_rfl] at hb
 have hb':l.length*96≤140737488351232:=hb
 exact ⟨l,by rw [Zq];exact h1,by omega,qkd fun x hx=>(hl x hx).1,wdL_of fun x hx=>(hl x hx).2⟩
theorem bar_ofW (n:Nat) (ps:List PV) (h:Sh Tryz.prog n 47 ps):∃ b:Br,ps=brC b∧(qav b∧wdL b.2.2):=by
 cases n with
 | zero=>exact h.elim
 | succ n =>
  simp only [Sh,Tryz.underlying47,ShF] at h
  obtain ⟨_,_,rfl,h1,_,_,rfl,h2,_,_,rfl,h3,rfl⟩:=h
  obtain ⟨u,rfl,hu⟩:=Zx h1
  obtain ⟨d,rfl,hd⟩:=Zx h2
  obtain ⟨l,rfl,hl,hf,hw⟩:=sc_itemsW h3
  exact ⟨(u,d,l),rfl,⟨hu,hd,hl,hf⟩,hw⟩
theorem vo_ofW (n:Nat) (ps:List PV) (h:Sh Tryz.prog n 44 ps):∃ v:Vo,ps=voC v∧(fitVo v∧∀ i,i<v.2.length→wdL (v.2.getD i zA).2.2):=by
 cases n with
 | zero=>exact h.elim
 | succ n =>
  simp only [Sh,Tryz.underlying44,ShF] at h
  obtain ⟨_,_,rfl,h1,_,_,rfl,h2,rfl⟩:=h
  obtain ⟨nm,rfl,hn⟩:=sc_str h1
  obtain ⟨B,rfl,hB,_,hb⟩:=qbd (g:=brC) (q:=fun b=>qav b∧wdL b.2.2) Tryz.underlying42 h2 fun m es _ hs=>bar_ofW m es hs
  rw [show Tryz.prog.bytesOf 47=40 from by kernel_rfl] at hb
  have hb':B.length*40≤140737488351232:=hb
  have hat:∀ i,i<B.length→qav (B.getD i zA)∧wdL (B.getD i zA).2.2:=fun i hi=>by
   rw [List.getD_eq_getElem?_getD,List.getElem?_eq_getElem hi]
   exact hB _ (List.getElem_mem hi)
  exact ⟨(nm,B),rfl,⟨hn,by show B.length≤_;omega,fun i hi=>(hat i hi).1⟩,fun i hi=>(hat i hi).2⟩
/-! ### how many items -/
theorem pvws_mem {p:PV}:∀ {l:List PV},p∈l→pvw p≤wD l
 | [],h=>by cases h
 | q :: l,h=>by
  rw [wD]
  rcases List.mem_cons.1 h with rfl|h
  ·exact Nat.le_add_right _ _
  ·have:=pvws_mem h
   omega
theorem qji {α:Type} {g:α→List PV} {x:α}:∀ {l:List α},x∈l→wD (g x)≤wD (l.flatMap g)
 | [],h=>by cases h
 | y :: l,h=>by
  rw [List.flatMap_cons,VQ]
  rcases List.mem_cons.1 h with rfl|h
  ·exact Nat.le_add_right _ _
  ·have:=qji (g:=g) h
   omega
theorem qbg {cs l:List PV} {o n:Nat} (h:PV.ssl cs o n∈l):wD cs+1≤wD l:=by
 have:=pvws_mem h
 rwa [pvw] at this
mutual
theorem cnI_pv:∀ x:It,cnI x≤wD (gI x)
 | .mk k s ps b ly ks=>by
  have h1:=cnL_pv ks
  have h2:wD (qN ks)+1≤wD (gI (.mk k s ps b ly ks)):=qbg (o:=0) (n:=ks.length) (by unfold gI;simp [iC])
  rw [cnI]
  omega
theorem cnL_pv:∀ l:List It,jS l≤wD (qN l)
 | []=>Nat.zero_le _
 | x :: l=>by
  have h1:=cnI_pv x
  have h2:=cnL_pv l
  rw [jS,Zq,List.flatMap_cons,VQ,← Zq]
  omega
end
theorem vos_ofW (n:Nat) (p:PV) (h:Sh Tryz.prog n 22 [p]):∃ l:List Vo,p = .ssl (yI l) 0 l.length∧qbz l∧(wD [p]≤1048576→wdVs l):=by
 obtain ⟨l,h1,hl,_,hb⟩:=qbd (g:=voC) (q:=fun v=>fitVo v∧∀ i,i<v.2.length→wdL (v.2.getD i zA).2.2) Tryz.underlying22 h fun m es _ hs=>vo_ofW m es hs
 simp only [List.cons.injEq,and_true] at h1
 rw [show Tryz.prog.bytesOf 44=40 from by kernel_rfl] at hb
 have hb':l.length*40≤140737488351232:=hb
 have hm:∀ i,i<l.length→l.getD i qC∈l:=fun i hi=>by
  rw [List.getD_eq_getElem?_getD,List.getElem?_eq_getElem hi]
  exact List.getElem_mem hi
 refine ⟨l,h1,⟨by omega,fun i hi=>(hl _ (hm i hi)).1⟩,fun hp i hi j hj=>⟨(hl _ (hm i hi)).2 j hj,?_⟩⟩
 rw [h1] at hp
 have e1:wD (l.flatMap voC)+1≤wD [PV.ssl (l.flatMap voC) 0 l.length]:=qbg (List.mem_cons_self ..)
 have e2:=qji (g:=voC) (hm i hi)
 have e3:wD (vE (l.getD i qC).2)+1≤wD (voC (l.getD i qC)):=qbg (o:=0) (n:=(l.getD i qC).2.length) (List.mem_cons_of_mem _ (List.mem_cons_self ..))
 have hm2:(l.getD i qC).2.getD j zA∈(l.getD i qC).2:=by
  generalize (l.getD i qC).2=B at hj
  rw [List.getD_eq_getElem?_getD,List.getElem?_eq_getElem hj]
  exact List.getElem_mem hj
 have e4:wD (brC ((l.getD i qC).2.getD j zA))≤wD (vE (l.getD i qC).2):=qji (g:=brC) hm2
 have e5:wD (qN ((l.getD i qC).2.getD j zA).2.2)+1≤wD (brC ((l.getD i qC).2.getD j zA)):=qbg (o:=0) (n:=((l.getD i qC).2.getD j zA).2.2.length) (List.mem_cons_of_mem _ (List.mem_cons_of_mem _ (List.mem_cons_self ..)))
 have e6:=cnL_pv ((l.getD i qC).2.getD j zA).2.2
 omega
section
variable {H:Type} {enc:TypeId × Value→H}
theorem QY {a:Assume} {C:Checked} {os:Os} {f:FuncId} {fn:Func} {s:OpenSpec} {k:(H:Type)→List (DataW H)→Bool} (hk:s.cond=some k) {F:Stop.Interp} {conds:List PathCond} {apart fresh handsOn again:Bool} {X:World→Array Value→Prop}
  (hX:∀ (w w':World) (args:Array Value),w.heap=w'.heap→X w args→X w' args)
  (own:ownKnob C.prog.godebug=none) (started:os.Started) (noInit:C.prog.inits.idxOf? f=none) (hfn:C.prog.funcs[f]? = some fn)
  (witness:∃ (w:World) (tape:Tape) (i:Input),w.os=os∧(w.forCall tape i).Shaped C.prog∧i.vars=[]∧Input.okWide C.prog (w.forCall tape i) .any w.heap.size f i ∧
   ((s.pre enc C.prog fn conds apart (w.forCall tape i).memory i.args∧X (w.forCall tape i).memory i.args)∧sizedMet enc C.prog fn s apart (w.forCall tape i).memory i.args)∧a.holds C.prog (lone (Frame.enter C.prog f i.args .normal) [] (w.forCall tape i)))
  (contract:∀ (W:World) (base:Nat) (args:Array Value) (ds gs:List (DataW H)) (before:List MemPlace),
   (∀ (j:Nat) t v,fn.params[j]? = some t→args[j]? = some v→Value.okWide C.prog W .any base t v) →
   DataW.Whole enc C.prog fn.params.toList s.vars apart W args.toList ds gs before →
   conds.all (PathCond.test C.prog ⟨fn.params.toList,ds,s.bare.plain.varTypes C.prog,gs⟩)=true→k H (ds++gs)=true →
   (DataW.weightsEach C.prog (fn.params.toList++s.bare.plain.varTypes C.prog) (ds++gs)).all (· ≤ reachBytes)=true→X W args →
   a.holds C.prog (lone (Frame.enter C.prog f args .normal) [] W) →
   Calls C.prog f args W fun e W'=>∃ v,e = .returned v∧(s.at F).post enc C.prog fn apart fresh handsOn again W args v W') :
  ReturnsInHanded a C os f .any (fun w args=>(s.pre enc C.prog fn conds apart w args∧X w args)∧sizedMet enc C.prog fn s apart w args) ((s.at F).post enc C.prog fn apart fresh handsOn again):=by
 refine returnsInHanded_of_calls own started noInit witness ?_
 intro w tape i _ _ _ hok hpre hholds
 obtain ⟨_,_,_,fn',hfn',_,_,_,_,hval⟩:=hok
 have e:fn'=fn:=Option.some.inj (hfn'.symm.trans hfn)
 subst e
 obtain ⟨⟨hp0,hx⟩,hz⟩:=hpre
 obtain ⟨ds,gs,before,hw,hc,hkk⟩:=(OpenSpec.pre_some hk conds apart _ _).1 hp0
 have hw':=DataW.Whole.of_heap (w':=w.forCall tape i) (by rfl) hw
 refine (contract (w.forCall tape i) w.heap.size i.args ds gs before hval hw' hc hkk (hz.weights hw) (hX _ _ _ (by rfl) hx) hholds).mono fun e W' ⟨v,he,hp⟩=>?_
 subst he
 exact ChangeSpec.post_blind hp
theorem WU {C:Checked} {os:Os} {f:FuncId} {fn:Func} {s:OpenSpec} {k:(H:Type)→List (DataW H)→Bool} (hk:s.cond=some k) {conds:List PathCond} {apart:Bool} {X:World→Array Value→Prop} (modest:Bool) (w0:World) (args:Array Value) (fuel:Nat) (hos:w0.os=os)
  (hsh:(w0.forCall (fun _ _=>0) ⟨#[],args,[]⟩).Shaped C.prog)
  (hok:Input.okWideB C.prog (w0.forCall (fun _ _=>0) ⟨#[],args,[]⟩) f ⟨#[],args,[]⟩=true)
  {x:List (DataW H) × List (DataW H) × List MemPlace} (hw:DataW.whole enc C.prog (w0.forCall (fun _ _=>0) ⟨#[],args,[]⟩).memory fn.params.toList s.vars apart args.toList fuel=some x)
  (hconds:conds.all (PathCond.test C.prog ⟨fn.params.toList,x.1,s.bare.plain.varTypes C.prog,x.2.1⟩)=true) (hkk:k H (x.1++x.2.1)=true)
  (hsz:s.bare.sizedB enc C.prog fn apart (w0.forCall (fun _ _=>0) ⟨#[],args,[]⟩).memory args fuel=true)
  (hx:X (w0.forCall (fun _ _=>0) ⟨#[],args,[]⟩).memory args) :
  ∃ (w:World) (tape:Tape) (i:Input),w.os=os∧(w.forCall tape i).Shaped C.prog∧i.vars=[]∧Input.okWide C.prog (w.forCall tape i) .any w.heap.size f i ∧
   ((s.pre enc C.prog fn conds apart (w.forCall tape i).memory i.args∧X (w.forCall tape i).memory i.args)∧sizedMet enc C.prog fn s apart (w.forCall tape i).memory i.args)∧({ modest:=modest }:Assume).holds C.prog (lone (Frame.enter C.prog f i.args .normal) [] (w.forCall tape i)) :=
 ⟨w0,fun _ _=>0,⟨#[],args,[]⟩,hos,hsh,(Input.okWide_of_okWideB (base:=0) hok).1,(Input.okWide_of_okWideB hok).2,⟨⟨(OpenSpec.pre_some hk conds apart _ _).2 ⟨x.1,x.2.1,x.2.2,DataW.Whole_of_whole hw,hconds,hkk⟩,hx⟩,sizedMet_of_sizedB hsz⟩,by
  simp only [Assume.holds]
  exact ⟨by simp,by simp,fun _=>Modest.zero,by simp,by simp⟩⟩
end
end Go.Proofs.YtmlnilkbolcknaaGreatDoor.Pm
