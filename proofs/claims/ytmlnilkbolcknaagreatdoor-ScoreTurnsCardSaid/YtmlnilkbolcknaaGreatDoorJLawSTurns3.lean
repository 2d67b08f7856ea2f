/-
  PITCHES AS TEXTS: printed,read: walks. (Printed by wip/pm.) | INTERVALS AS TEXTS: written: walks. (Printed by wip/pm.) | SCORE: an item counted: walk. (Printed by wip/pm.) | strings.Builder within a struct of the program's own: WriteByte,WriteString,Len: walk. (Printed by wip/pm.) | SCORE: plain: sizes of items and voices (no program in sight). | SCORE: plain: what the reader yields is no longer than a row can be (no program in sight). | SCORE: plain: what is read is right,and small. No program in sight. | SCORE: plain: texts that grow,item by item. No program in sight. | A piece written: pitches: walk. (Printed by wip/pm.) | A piece written: items: walk. (Printed by wip/pm.) | SCORE: plain: how long a piece's text can be. No program in sight.
-/
import Derived.Test.YtmlnilkbolcknaaGreatDoorJLawSTurns2
set_option linter.unusedVariables false
set_option linter.unusedSimpArgs false
set_option linter.deprecated false
set_option maxRecDepth 100000
set_option maxHeartbeats 4000000
namespace Go.Proofs.YtmlnilkbolcknaaGreatDoor.Pm
open Go Go.Proofs.YtmlnilkbolcknaaGreatDoor.Pi
theorem qaf (l a o:Int):PC Tryz.prog 130 [(.agg [(iv l),(iv a),(iv o)])] [] (.tup [(sv (st ((wJ l a o).1))),(iv ((wJ l a o).2))]) []:=by
 refine zZ Tryz.func130 rfl (by kernel_rfl) (Nat.le_of_ble_eq_true rfl) (by kernel_rfl) (l0:=[ps 0 (.agg [(iv l),(iv a),(iv o)])]) rfl (fun c0 Bor hc0=>?_)
 refine qA<|zU qD [] [ps 1 (.opt 0 0),pb 0 52 [(iv l),(iv a),(iv o)]] (oz)<|qA<|qA<|yJ qD 1 [.k1,.n,.r] [ps 7 (bv (!(Pi.rightB l a o)))] (zY 32 (VW l a o) oz) ?_
 by_cases h1:(Pi.rightB l a o)=true
 ·refine qW (congrArg Bool.not h1)<|qF<|qA ?_
  have hr:=Pi.rightB_iff.1 h1
  have hl1:=qdw l
  have hl2:=Qx (o:=o) (by omega) (by omega)
  refine qL qD [.k1,.n,.d,.r] [ps 4 se]<|qA<|qA<|qL qD [.k2,.n,.r] [ps 9 (iv a)]<|zI<|qA<|qL qD [.k3,.n,.r] [ps 10 (bv (decide (a=1)))] ?_
  by_cases h2:a=1
  ·refine qX (zR h2)<|qL qD [.k1,.d,.n,.d,.d,.r] [ps 4 (sv (st ([226,153,175]:TX)))]<|zM<|qA<|jQ qD [(5,.val (.av (.string (st ((letB.drop l.toNat).take 1))))),(7,.val (.av (.string (st (((letB.drop l.toNat).take 1)++([226,153,175]:TX)))))),(10,.call [] [(iv o)] [] (sv (st (Lib.itoa o))) []),(11,.val (.av (.string (st ((((letB.drop l.toNat).take 1)++([226,153,175]:TX))++(Lib.itoa o))))))] (bfr [(0,0),(0,1),(0,0),(2,1),(2,2),(0,5),(0,0),(0,7),(0,0),(8,1),(8,2),(0,11),(0,12),(0,13)]) [([44],[2]),([46],[1,44]),([48],[2]),([50],[1,48]),([52],[50]),([54],[46,52]),([56],[8]),([58],[54,56]),([60],[2]),([62],[1,60]),([64],[62]),([66],[58,64]),([4],[66]),([6],[])] [ps 2 (sv (st ((((letB.drop l.toNat).take 1)++([226,153,175]:TX))++(Lib.itoa o)))),ps 3 (iv 0)] (oi (l+1) (by omega) (oc (by first|omega|(simp <;> omega):(0:Int)≤l∧l≤(l+1)∧(l+1)≤((([67,68,69,70,71,65,66]:TX).length:Nat):Int)) (oc (jE (by omega):(st ([67,68,69,70,71,65,66]:TX)).extract (l:Int).toNat ((l+1):Int).toNat=st ((letB.drop l.toNat).take 1)) (oc (by first|omega|(simp <;> omega):((((letB.drop l.toNat).take 1).length+([226,153,175]:TX).length:Nat):Int)≤9223372036854775807) (oc (qj _ _:st ((letB.drop l.toNat).take 1)++st ([226,153,175]:TX)=st (((letB.drop l.toNat).take 1)++([226,153,175]:TX))) (zY 176 (zz o (by omega) (by omega)) (oc (by first|omega|(simp <;> omega):(((((letB.drop l.toNat).take 1)++([226,153,175]:TX)).length+(Lib.itoa o).length:Nat):Int)≤9223372036854775807) (oc (qj _ _:st (((letB.drop l.toNat).take 1)++([226,153,175]:TX))++st (Lib.itoa o)=st ((((letB.drop l.toNat).take 1)++([226,153,175]:TX))++(Lib.itoa o))) oz)))))))) ?_
   rw [jU (l:=l) (a:=a) (o:=o) (S:=([226,153,175]:TX)) h1 (by unfold vJ;simp [*])]
   exact zN hc0 [2,3] []
  refine qW (zP h2)<|qA<|qL qD [.k3,.d,.n,.r] [ps 12 (bv (decide (a=2)))] ?_
  by_cases h3:a=2
  ·refine qX (zR h3)<|qL qD [.k1,.d,.n,.d,.d,.r] [ps 4 (sv (st ([240,157,132,170]:TX)))]<|zM<|qA<|jQ qD [(5,.val (.av (.string (st ((letB.drop l.toNat).take 1))))),(7,.val (.av (.string (st (((letB.drop l.toNat).take 1)++([240,157,132,170]:TX)))))),(10,.call [] [(iv o)] [] (sv (st (Lib.itoa o))) []),(11,.val (.av (.string (st ((((letB.drop l.toNat).take 1)++([240,157,132,170]:TX))++(Lib.itoa o))))))] (bfr [(0,0),(0,1),(0,0),(2,1),(2,2),(0,5),(0,0),(0,7),(0,0),(8,1),(8,2),(0,11),(0,12),(0,13)]) [([44],[2]),([46],[1,44]),([48],[2]),([50],[1,48]),([52],[50]),([54],[46,52]),([56],[8]),([58],[54,56]),([60],[2]),([62],[1,60]),([64],[62]),([66],[58,64]),([4],[66]),([6],[])] [ps 2 (sv (st ((((letB.drop l.toNat).take 1)++([240,157,132,170]:TX))++(Lib.itoa o)))),ps 3 (iv 0)] (oi (l+1) (by omega) (oc (by first|omega|(simp <;> omega):(0:Int)≤l∧l≤(l+1)∧(l+1)≤((([67,68,69,70,71,65,66]:TX).length:Nat):Int)) (oc (jE (by omega):(st ([67,68,69,70,71,65,66]:TX)).extract (l:Int).toNat ((l+1):Int).toNat=st ((letB.drop l.toNat).take 1)) (oc (by first|omega|(simp <;> omega):((((letB.drop l.toNat).take 1).length+([240,157,132,170]:TX).length:Nat):Int)≤9223372036854775807) (oc (qj _ _:st ((letB.drop l.toNat).take 1)++st ([240,157,132,170]:TX)=st (((letB.drop l.toNat).take 1)++([240,157,132,170]:TX))) (zY 192 (zz o (by omega) (by omega)) (oc (by first|omega|(simp <;> omega):(((((letB.drop l.toNat).take 1)++([240,157,132,170]:TX)).length+(Lib.itoa o).length:Nat):Int)≤9223372036854775807) (oc (qj _ _:st (((letB.drop l.toNat).take 1)++([240,157,132,170]:TX))++st (Lib.itoa o)=st ((((letB.drop l.toNat).take 1)++([240,157,132,170]:TX))++(Lib.itoa o))) oz)))))))) ?_
   rw [jU (l:=l) (a:=a) (o:=o) (S:=([240,157,132,170]:TX)) h1 (by unfold vJ;simp [*])]
   exact zN hc0 [2,3] []
  refine qW (zP h3)<|qA<|qL qD [.k3,.d,.n,.r] [ps 14 (bv (decide (a=3)))] ?_
  by_cases h4:a=3
  ·refine qX (zR h4)<|qL qD [.k1,.d,.n,.d,.d,.r] [ps 4 (sv (st ([240,157,132,170,226,153,175]:TX)))]<|zM<|qA<|jQ qD [(5,.val (.av (.string (st ((letB.drop l.toNat).take 1))))),(7,.val (.av (.string (st (((letB.drop l.toNat).take 1)++([240,157,132,170,226,153,175]:TX)))))),(10,.call [] [(iv o)] [] (sv (st (Lib.itoa o))) []),(11,.val (.av (.string (st ((((letB.drop l.toNat).take 1)++([240,157,132,170,226,153,175]:TX))++(Lib.itoa o))))))] (bfr [(0,0),(0,1),(0,0),(2,1),(2,2),(0,5),(0,0),(0,7),(0,0),(8,1),(8,2),(0,11),(0,12),(0,13)]) [([44],[2]),([46],[1,44]),([48],[2]),([50],[1,48]),([52],[50]),([54],[46,52]),([56],[8]),([58],[54,56]),([60],[2]),([62],[1,60]),([64],[62]),([66],[58,64]),([4],[66]),([6],[])] [ps 2 (sv (st ((((letB.drop l.toNat).take 1)++([240,157,132,170,226,153,175]:TX))++(Lib.itoa o)))),ps 3 (iv 0)] (oi (l+1) (by omega) (oc (by first|omega|(simp <;> omega):(0:Int)≤l∧l≤(l+1)∧(l+1)≤((([67,68,69,70,71,65,66]:TX).length:Nat):Int)) (oc (jE (by omega):(st ([67,68,69,70,71,65,66]:TX)).extract (l:Int).toNat ((l+1):Int).toNat=st ((letB.drop l.toNat).take 1)) (oc (by first|omega|(simp <;> omega):((((letB.drop l.toNat).take 1).length+([240,157,132,170,226,153,175]:TX).length:Nat):Int)≤9223372036854775807) (oc (qj _ _:st ((letB.drop l.toNat).take 1)++st ([240,157,132,170,226,153,175]:TX)=st (((letB.drop l.toNat).take 1)++([240,157,132,170,226,153,175]:TX))) (zY 208 (zz o (by omega) (by omega)) (oc (by first|omega|(simp <;> omega):(((((letB.drop l.toNat).take 1)++([240,157,132,170,226,153,175]:TX)).length+(Lib.itoa o).length:Nat):Int)≤9223372036854775807) (oc (qj _ _:st (((letB.drop l.toNat).take 1)++([240,157,132,170,226,153,175]:TX))++st (Lib.itoa o)=st ((((letB.drop l.toNat).take 1)++([240,157,132,170,226,153,175]:TX))++(Lib.itoa o))) oz)))))))) ?_
   rw [jU (l:=l) (a:=a) (o:=o) (S:=([240,157,132,170,226,153,175]:TX)) h1 (by unfold vJ;simp [*])]
   exact zN hc0 [2,3] []
  refine qW (zP h4)<|qA<|qL qD [.k3,.d,.n,.r] [ps 16 (bv (decide (a=(-1))))] ?_
  by_cases h5:a=(-1)
  ·refine qX (zR h5)<|qL qD [.k1,.d,.n,.d,.d,.r] [ps 4 (sv (st ([226,153,173]:TX)))]<|zM<|qA<|jQ qD [(5,.val (.av (.string (st ((letB.drop l.toNat).take 1))))),(7,.val (.av (.string (st (((letB.drop l.toNat).take 1)++([226,153,173]:TX)))))),(10,.call [] [(iv o)] [] (sv (st (Lib.itoa o))) []),(11,.val (.av (.string (st ((((letB.drop l.toNat).take 1)++([226,153,173]:TX))++(Lib.itoa o))))))] (bfr [(0,0),(0,1),(0,0),(2,1),(2,2),(0,5),(0,0),(0,7),(0,0),(8,1),(8,2),(0,11),(0,12),(0,13)]) [([44],[2]),([46],[1,44]),([48],[2]),([50],[1,48]),([52],[50]),([54],[46,52]),([56],[8]),([58],[54,56]),([60],[2]),([62],[1,60]),([64],[62]),([66],[58,64]),([4],[66]),([6],[])] [ps 2 (sv (st ((((letB.drop l.toNat).take 1)++([226,153,173]:TX))++(Lib.itoa o)))),ps 3 (iv 0)] (oi (l+1) (by omega) (oc (by first|omega|(simp <;> omega):(0:Int)≤l∧l≤(l+1)∧(l+1)≤((([67,68,69,70,71,65,66]:TX).length:Nat):Int)) (oc (jE (by omega):(st ([67,68,69,70,71,65,66]:TX)).extract (l:Int).toNat ((l+1):Int).toNat=st ((letB.drop l.toNat).take 1)) (oc (by first|omega|(simp <;> omega):((((letB.drop l.toNat).take 1).length+([226,153,173]:TX).length:Nat):Int)≤9223372036854775807) (oc (qj _ _:st ((letB.drop l.toNat).take 1)++st ([226,153,173]:TX)=st (((letB.drop l.toNat).take 1)++([226,153,173]:TX))) (zY 224 (zz o (by omega) (by omega)) (oc (by first|omega|(simp <;> omega):(((((letB.drop l.toNat).take 1)++([226,153,173]:TX)).length+(Lib.itoa o).length:Nat):Int)≤9223372036854775807) (oc (qj _ _:st (((letB.drop l.toNat).take 1)++([226,153,173]:TX))++st (Lib.itoa o)=st ((((letB.drop l.toNat).take 1)++([226,153,173]:TX))++(Lib.itoa o))) oz)))))))) ?_
   rw [jU (l:=l) (a:=a) (o:=o) (S:=([226,153,173]:TX)) h1 (by unfold vJ;simp [*])]
   exact zN hc0 [2,3] []
  refine qW (zP h5)<|qA<|qL qD [.k3,.d,.n,.r] [ps 18 (bv (decide (a=(-2))))] ?_
  by_cases h6:a=(-2)
  ·refine qX (zR h6)<|qL qD [.k1,.d,.n,.d,.d,.r] [ps 4 (sv (st ([240,157,132,171]:TX)))]<|zM<|qA<|jQ qD [(5,.val (.av (.string (st ((letB.drop l.toNat).take 1))))),(7,.val (.av (.string (st (((letB.drop l.toNat).take 1)++([240,157,132,171]:TX)))))),(10,.call [] [(iv o)] [] (sv (st (Lib.itoa o))) []),(11,.val (.av (.string (st ((((letB.drop l.toNat).take 1)++([240,157,132,171]:TX))++(Lib.itoa o))))))] (bfr [(0,0),(0,1),(0,0),(2,1),(2,2),(0,5),(0,0),(0,7),(0,0),(8,1),(8,2),(0,11),(0,12),(0,13)]) [([44],[2]),([46],[1,44]),([48],[2]),([50],[1,48]),([52],[50]),([54],[46,52]),([56],[8]),([58],[54,56]),([60],[2]),([62],[1,60]),([64],[62]),([66],[58,64]),([4],[66]),([6],[])] [ps 2 (sv (st ((((letB.drop l.toNat).take 1)++([240,157,132,171]:TX))++(Lib.itoa o)))),ps 3 (iv 0)] (oi (l+1) (by omega) (oc (by first|omega|(simp <;> omega):(0:Int)≤l∧l≤(l+1)∧(l+1)≤((([67,68,69,70,71,65,66]:TX).length:Nat):Int)) (oc (jE (by omega):(st ([67,68,69,70,71,65,66]:TX)).extract (l:Int).toNat ((l+1):Int).toNat=st ((letB.drop l.toNat).take 1)) (oc (by first|omega|(simp <;> omega):((((letB.drop l.toNat).take 1).length+([240,157,132,171]:TX).length:Nat):Int)≤9223372036854775807) (oc (qj _ _:st ((letB.drop l.toNat).take 1)++st ([240,157,132,171]:TX)=st (((letB.drop l.toNat).take 1)++([240,157,132,171]:TX))) (zY 240 (zz o (by omega) (by omega)) (oc (by first|omega|(simp <;> omega):(((((letB.drop l.toNat).take 1)++([240,157,132,171]:TX)).length+(Lib.itoa o).length:Nat):Int)≤9223372036854775807) (oc (qj _ _:st (((letB.drop l.toNat).take 1)++([240,157,132,171]:TX))++st (Lib.itoa o)=st ((((letB.drop l.toNat).take 1)++([240,157,132,171]:TX))++(Lib.itoa o))) oz)))))))) ?_
   rw [jU (l:=l) (a:=a) (o:=o) (S:=([240,157,132,171]:TX)) h1 (by unfold vJ;simp [*])]
   exact zN hc0 [2,3] []
  refine qW (zP h6)<|qA<|qL qD [.k2,.d,.d,.n,.r] [ps 20 (bv (decide (a=(-3))))] ?_
  by_cases h7:a=(-3)
  ·refine qX (zR h7)<|qL qD [.k1,.d,.n,.d,.r] [ps 4 (sv (st ([240,157,132,171,226,153,173]:TX)))]<|zM<|qA<|jQ qD [(5,.val (.av (.string (st ((letB.drop l.toNat).take 1))))),(7,.val (.av (.string (st (((letB.drop l.toNat).take 1)++([240,157,132,171,226,153,173]:TX)))))),(10,.call [] [(iv o)] [] (sv (st (Lib.itoa o))) []),(11,.val (.av (.string (st ((((letB.drop l.toNat).take 1)++([240,157,132,171,226,153,173]:TX))++(Lib.itoa o))))))] (bfr [(0,0),(0,1),(0,0),(2,1),(2,2),(0,5),(0,0),(0,7),(0,0),(8,1),(8,2),(0,11),(0,12),(0,13)]) [([44],[2]),([46],[1,44]),([48],[2]),([50],[1,48]),([52],[50]),([54],[46,52]),([56],[8]),([58],[54,56]),([60],[2]),([62],[1,60]),([64],[62]),([66],[58,64]),([4],[66]),([6],[])] [ps 2 (sv (st ((((letB.drop l.toNat).take 1)++([240,157,132,171,226,153,173]:TX))++(Lib.itoa o)))),ps 3 (iv 0)] (oi (l+1) (by omega) (oc (by first|omega|(simp <;> omega):(0:Int)≤l∧l≤(l+1)∧(l+1)≤((([67,68,69,70,71,65,66]:TX).length:Nat):Int)) (oc (jE (by omega):(st ([67,68,69,70,71,65,66]:TX)).extract (l:Int).toNat ((l+1):Int).toNat=st ((letB.drop l.toNat).take 1)) (oc (by first|omega|(simp <;> omega):((((letB.drop l.toNat).take 1).length+([240,157,132,171,226,153,173]:TX).length:Nat):Int)≤9223372036854775807) (oc (qj _ _:st ((letB.drop l.toNat).take 1)++st ([240,157,132,171,226,153,173]:TX)=st (((letB.drop l.toNat).take 1)++([240,157,132,171,226,153,173]:TX))) (zY 256 (zz o (by omega) (by omega)) (oc (by first|omega|(simp <;> omega):(((((letB.drop l.toNat).take 1)++([240,157,132,171,226,153,173]:TX)).length+(Lib.itoa o).length:Nat):Int)≤9223372036854775807) (oc (qj _ _:st (((letB.drop l.toNat).take 1)++([240,157,132,171,226,153,173]:TX))++st (Lib.itoa o)=st ((((letB.drop l.toNat).take 1)++([240,157,132,171,226,153,173]:TX))++(Lib.itoa o))) oz)))))))) ?_
   rw [jU (l:=l) (a:=a) (o:=o) (S:=([240,157,132,171,226,153,173]:TX)) h1 (by unfold vJ;simp [*])]
   exact zN hc0 [2,3] []
  refine qW (zP h7)<|qF<|zM<|qA<|jQ qD [(5,.val (.av (.string (st ((letB.drop l.toNat).take 1))))),(7,.val (.av (.string (st (((letB.drop l.toNat).take 1)++([]:TX)))))),(10,.call [] [(iv o)] [] (sv (st (Lib.itoa o))) []),(11,.val (.av (.string (st ((((letB.drop l.toNat).take 1)++([]:TX))++(Lib.itoa o))))))] (bfr [(0,0),(0,1),(0,0),(2,1),(2,2),(0,5),(0,0),(0,7),(0,0),(8,1),(8,2),(0,11),(0,12),(0,13)]) [([44],[2]),([46],[1,44]),([48],[2]),([50],[1,48]),([52],[50]),([54],[46,52]),([56],[8]),([58],[54,56]),([60],[2]),([62],[1,60]),([64],[62]),([66],[58,64]),([4],[66]),([6],[])] [ps 2 (sv (st ((((letB.drop l.toNat).take 1)++([]:TX))++(Lib.itoa o)))),ps 3 (iv 0)] (oi (l+1) (by omega) (oc (by first|omega|(simp <;> omega):(0:Int)≤l∧l≤(l+1)∧(l+1)≤((([67,68,69,70,71,65,66]:TX).length:Nat):Int)) (oc (jE (by omega):(st ([67,68,69,70,71,65,66]:TX)).extract (l:Int).toNat ((l+1):Int).toNat=st ((letB.drop l.toNat).take 1)) (oc (by first|omega|(simp <;> omega):((((letB.drop l.toNat).take 1).length+([]:TX).length:Nat):Int)≤9223372036854775807) (oc (qj _ _:st ((letB.drop l.toNat).take 1)++st ([]:TX)=st (((letB.drop l.toNat).take 1)++([]:TX))) (zY 248 (zz o (by omega) (by omega)) (oc (by first|omega|(simp <;> omega):(((((letB.drop l.toNat).take 1)++([]:TX)).length+(Lib.itoa o).length:Nat):Int)≤9223372036854775807) (oc (qj _ _:st (((letB.drop l.toNat).take 1)++([]:TX))++st (Lib.itoa o)=st ((((letB.drop l.toNat).take 1)++([]:TX))++(Lib.itoa o))) oz)))))))) ?_
  rw [jU (l:=l) (a:=a) (o:=o) (S:=([]:TX)) h1 (by unfold vJ;simp [*])]
  exact zN hc0 [2,3] []
 refine qX (congrArg Bool.not (Bool.eq_false_iff.2 h1))<|qA<|zU qD [] [ps 2 se,ps 3 (iv 2)] (oz) ?_
 rw [printS_no (l:=l) (a:=a) (o:=o) h1]
 exact zN hc0 [2,3] []
theorem bad_pc0 (e n:Int):PC Tryz.prog 179 [(iv e),(iv n)] [] (.tup [(.agg [(iv 0),(iv 0),(iv 0)]),(.agg [(iv e),(iv n)])]) [none,none]:=by
 refine zZ Tryz.func179 rfl (by kernel_rfl) (Nat.le_of_ble_eq_true rfl) (by kernel_rfl) (l0:=[ps 0 (iv e),ps 1 (iv n)]) rfl (fun c0 Bor hc0=>?_)
 refine qA<|qL qD [.k2,.n,.n,.n,.n] [ps 4 (.opt 0 0),ps 5 (.opt 8 0),pb 0 52 [(iv 0),(iv 0),(iv 0)],pb 8 33 [(iv 0),(iv 0)]]<|qA<|qL qD [.d,.d,.k3,.d,.n] [pb 8 33 [(iv e),(iv n)]] ?_
 exact zN hc0 [4,5] [0,8]
theorem VK (e n:Int):PC Tryz.prog 179 [(iv e),(iv n)] [] ((.tup [(.agg [(iv 0),(iv 0),(iv 0)]),(.agg [(iv e),(iv n)])])) []:=qhd [none,none] rfl (fun i=>by rcases i with _|_|i <;> rfl) (bad_pc0 e n)
theorem read_pc0 (s:List UInt8) (hs:s.length≤9223372036854775807):PC Tryz.prog 165 [(sv (st s))] [] (.tup [(.agg [(iv ((zq s).1.1)),(iv ((zq s).1.2.1)),(iv ((zq s).1.2.2))]),(.agg [(iv ((zq s).2.1)),(iv ((zq s).2.2))])]) [none,none]:=by
 refine zZ Tryz.func165 rfl (by kernel_rfl) (Nat.le_of_ble_eq_true rfl) (by kernel_rfl) (l0:=[ps 0 (sv (st s))]) rfl (fun c0 Bor hc0=>?_)
 refine qA<|zU qD [] [ps 0 (sv (st s)),ps 2 (.opt 0 0),ps 3 (.opt 8 0),pb 0 52 [(iv 0),(iv 0),(iv 0)],pb 8 33 [(iv 0),(iv 0)]] (oz)<|qA<|qL qD [.k3,.n,.r] [ps 4 (fv 179)]<|qA<|qA ?_
 by_cases h1:s=([]:TX)
 ·refine zE qD ([(1,.val (.av (.bool (decide (s=([]:TX))))))]++gy 3 4++[(7,.yes true)]) [.k4,.n,.r] [ps 21 (bv true)] (oc (zj _ _:((st s).toList == (st ([]:TX)).toList)=decide (s=([]:TX))) (on 5 (zR h1) oz))<|qU (b:=true) rfl rfl<|qA<|yJ qD 1 [.d,.k2,.d,.d,.k1,.d,.n] [pb 8 33 [(iv 2),(iv 0)]] (zY 96 (VK (2:Int) (0:Int)) oz) ?_
  rw [qfh (s:=s) (.inl h1)]
  exact zN hc0 [2,3] [0,8]
 refine zE qD [(1,.val (.av (.bool (decide (s=([]:TX)))))),(3,.gd false .no),(4,.gd false (.val (.av (.string (st [s.getD 0 0]))))),(5,.gd false (.call [] [(sv (st letB)),(sv (st [s.getD 0 0]))] [] (bv (decide (0≤Lib.indexByte letB (s.getD 0 0)))) [])),(6,.gd false .no),(7,.yes false)] [.k4,.n,.r] [ps 21 (bv (!(decide (0≤Lib.indexByte letB (s.getD 0 0)))))] (oc (zj _ _:((st s).toList == (st ([]:TX)).toList)=decide (s=([]:TX))) (on 2 (zP h1) (oc (by have:=len_pos h1;omega:(0:Int)≤(0:Int)∧(0:Int)≤(1:Int)∧(1:Int)≤(s.length:Int)) (oc (qgd h1:(st s).extract ((0:Int):Int).toNat ((1:Int):Int).toNat=st [s.getD 0 0]) (oc (zP h1) (zY 64 (qki letB (s.getD 0 0)) (on 2 (zP h1) oz))))))) ?_
 by_cases h2:0≤Lib.indexByte letB (s.getD 0 0)
 ·refine qW (bt h2)<|qF<|qA ?_
  have hp1:=len_pos h1
  have hbd:∀ r,-2≤(zV r).1∧(zV r).1≤2:=signB_bd
  refine zE qD [(1,.val (.av (.string (st [s.getD 0 0])))),(2,.call [] [(sv (st letB)),(sv (st [s.getD 0 0]))] [] (iv (Lib.indexByte letB (s.getD 0 0))) [])] [.k4,.n,.d,.k2,.n] [ps 5 (.opt 120 0),pb 120 52 [(iv (Lib.indexByte letB (s.getD 0 0))),(iv 0),(iv 0)]] (oc (by first|omega|(simp <;> omega):(0:Int)≤(0:Int)∧(0:Int)≤(1:Int)∧(1:Int)≤(s.length:Int)) (oc (qgd h1:(st s).extract ((0:Int):Int).toNat ((1:Int):Int).toNat=st [s.getD 0 0]) (zY 104 (index_pc letB (s.getD 0 0)) oz)))<|qA<|qL qD [.k5,.n,.r] [ps 6 (iv 1)]<|qA<|qA<|zE qD [(2,.val (.av (.string (st (s.drop 1))))),(3,.call [] [(sv (st (s.drop 1))),(sv (st ([226,153,174]:TX)))] [] (bv (Lib.hasPrefix (s.drop 1) ([226,153,174]:TX))) [])] [.k6,.n,.r] [ps 33 (bv (Lib.hasPrefix (s.drop 1) ([226,153,174]:TX)))] (oc (by first|omega|(simp <;> omega):(0:Int)≤(1:Int)∧(1:Int)≤(s.length:Int)∧(s.length:Int)≤(s.length:Int)) (oc (QQ _ _ _ rfl:(st s).extract ((1:Int):Int).toNat (((s.length:Nat):Int):Int).toNat=st (s.drop 1)) (zY 168 (qar (s.drop 1) ([226,153,174]:TX)) oz))) ?_
  by_cases h3:(Lib.hasPrefix (s.drop 1) ([226,153,174]:TX))=true
  ·refine qU (b:=(Lib.hasPrefix (s.drop 1) ([226,153,174]:TX))) rfl h3 ?_
   have hp3:=pre3_len h3
   rw [List.length_drop] at hp3
   refine zE qD [] [.k5,.d,.n,.d,.r] [ps 6 (iv 4)] (oc (by simp [InK]:InK .i64 4) oz)<|qA<|zE qD [(2,.val (.av (.string (st (s.drop 4))))),(3,.call [] [(sv (st (s.drop 4)))] [] (.tup [(iv ((qG (s.drop 4)).1)),(bv ((qG (s.drop 4)).2))]) [])] [.d,.k5,.n,.n,.r] [ps 12 (iv ((qG (s.drop 4)).1)),ps 13 (bv ((qG (s.drop 4)).2))] (oc (by first|omega|(simp <;> omega):(0:Int)≤(4:Int)∧(4:Int)≤(s.length:Int)∧(s.length:Int)≤(s.length:Int)) (oc (QQ _ _ _ rfl:(st s).extract ((4:Int):Int).toNat (((s.length:Nat):Int):Int).toNat=st (s.drop 4)) (zY 224 (qbp (s.drop 4) (by rw [List.length_drop];omega)) oz)))<|qA<|qA<|qL qD [.k6,.d,.n,.r] [ps 87 (bv (!((qG (s.drop 4)).2)))] ?_
   by_cases h4:((qG (s.drop 4)).2)=true
   ·refine qW (congrArg Bool.not h4)<|qF<|qA<|qA ?_
    have hnb:=num_bd (s.drop 4)
    refine qL qD [.k5,.d,.d,.k2,.d,.n] [pb 120 52 [(iv (Lib.indexByte letB (s.getD 0 0))),(iv 0),(iv ((qG (s.drop 4)).1))]]<|qA<|yJ qD 1 [.k5,.n,.r] [ps 97 (bv (!(Pi.rightB (Lib.indexByte letB (s.getD 0 0)) 0 ((qG (s.drop 4)).1))))] (zY 320 (VW (Lib.indexByte letB (s.getD 0 0)) 0 ((qG (s.drop 4)).1)) oz) ?_
    by_cases h5:(Pi.rightB (Lib.indexByte letB (s.getD 0 0)) 0 ((qG (s.drop 4)).1))=true
    ·refine qW (congrArg Bool.not h5)<|qF<|qA<|qL qD [.k2,.d,.d,.d,.d,.d,.n,.k1,.d] [pb 0 52 [(iv (Lib.indexByte letB (s.getD 0 0))),(iv 0),(iv ((qG (s.drop 4)).1))]] ?_
     rw [qbj (s:=s) h1 h2 (WW h3) h4 h5]
     exact zN hc0 [2,3] [0,8]
    refine qX (congrArg Bool.not (Bool.eq_false_iff.2 h5))<|qA<|yJ qD 2 [.k2,.d,.d,.d,.d,.k1,.d,.n,.d] [pb 8 33 [(iv 3),(iv 4)]] (zY 352 (VK (3:Int) (4:Int)) oz) ?_
    rw [qff (s:=s) h1 h2 (WW h3) h4 h5]
    exact zN hc0 [2,3] [0,8]
   refine qX (congrArg Bool.not (Bool.eq_false_iff.2 h4))<|qA<|yJ qD 2 [.k2,.d,.d,.d,.d,.d,.k1,.d,.n,.d] [pb 8 33 [(iv 2),(iv 4)]] (zY 304 (VK (2:Int) (4:Int)) oz) ?_
   rw [qfg (s:=s) h1 h2 (WW h3) h4]
   exact zN hc0 [2,3] [0,8]
  refine zD (b:=(Lib.hasPrefix (s.drop 1) ([226,153,174]:TX))) rfl (Bool.eq_false_iff.2 h3)<|qA<|qL qD [.k6,.n,.d,.r] [ps 7 (iv 0)]<|zI<|vW (α:={x:Nat × Nat × Int // x.1<x.2.1∧x.2.1≤s.length ∧ -3≤x.2.2∧x.2.2≤3∧vB (s.drop x.2.1) x.2.2 x.2.1=vB (s.drop 1) 0 1}) (fun x=>[ps 0 (sv (st s)),ps 2 (.opt 0 0),ps 3 (.opt 1 0),ps 4 (fv 179),ps 5 (.opt 2 0),ps 6 (nv x.1.2.1),ps 7 (nv x.1.1),pb 0 52 [(iv 0),(iv 0),(iv 0)],pb 1 33 [(iv 0),(iv 0)],pb 2 52 [(iv (Lib.indexByte letB (s.getD 0 0))),(iv x.1.2.2),(iv 0)]]) (fun x=>s.length-x.1.2.1) 3 ⟨(0,1,0),⟨by decide,by show 1≤s.length;omega,by decide,by decide,rfl⟩⟩ (Wk.ren2 _ 0 hc0 [0,8,120] rfl rfl (by kernel_rfl) (by kernel_rfl)) ?_
  rintro ⟨⟨k,n,a⟩,⟨hk,hn,ha1,ha2,hS⟩⟩
  dsimp only at hk hn ha1 ha2 hS
  refine qA<|zI<|qA ?_
  have hdl:=jy (s.drop n)
  rw [List.length_drop] at hdl
  have hby:=hbd (zS (s.drop n):Int)
  have hml:=mul_small (x:=a+(zV (zS (s.drop n):Int)).1) (y:=(zV (zS (s.drop n):Int)).1) (by omega) (by omega) hby.1 hby.2
  refine zU qD [(2,.val (.av (.string (st (s.drop n))))),(3,.call [] [(sv (st (s.drop n)))] [] (.tup [(.av (.int .i32 (zS (s.drop n):Int))),(nv (zB (s.drop n)))]) [])] [ps 0 (sv (st s)),ps 2 (.opt 0 0),ps 3 (.opt 1 0),ps 4 (fv 179),ps 5 (.opt 2 0),ps 6 (nv n),ps 7 (nv k),ps 8 (.av (.int .i32 (zS (s.drop n):Int))),ps 9 (nv (zB (s.drop n))),pb 0 52 [(iv 0),(iv 0),(iv 0)],pb 1 33 [(iv 0),(iv 0)],pb 2 52 [(iv (Lib.indexByte letB (s.getD 0 0))),(iv a),(iv 0)]] (oc (by first|omega|(simp <;> omega):(0:Int)≤(n:Int)∧(n:Int)≤(s.length:Int)∧(s.length:Int)≤(s.length:Int)) (oc (QQ _ _ _ rfl:(st s).extract (((n:Nat):Int):Int).toNat (((s.length:Nat):Int):Int).toNat=st (s.drop n)) (zY 27 (qbv (s.drop n)) oz)))<|qA<|yJ qD 1 [.k7,.d,.k1,.n,.n,.r] [ps 10 (iv ((zV (zS (s.drop n):Int)).1)),ps 11 (bv ((zV (zS (s.drop n):Int)).2))] (zY 83 (sign_pc (zS (s.drop n):Int)) oz)<|qA<|qA<|qL qD [.k8,.k1,.d,.n,.r] [ps 51 (bv (!((zV (zS (s.drop n):Int)).2)))] ?_
  by_cases h6:((zV (zS (s.drop n):Int)).2)=true
  ·refine qW (congrArg Bool.not h6)<|qF<|qA<|qA<|zE qD [] [.k8,.k1,.d,.k2,.d,.n] [pb 2 52 [(iv (Lib.indexByte letB (s.getD 0 0))),(iv (a+((zV (zS (s.drop n):Int)).1))),(iv 0)]] (oi (a+((zV (zS (s.drop n):Int)).1)) (by omega) oz)<|qA ?_
   by_cases h7:((a+((zV (zS (s.drop n):Int)).1))*((zV (zS (s.drop n):Int)).1))<0
   ·refine zE qD (gy 6 7++[(13,.yes true)]) [.k8,.d,.n,.r] [ps 70 (bv true)] (oi ((a+((zV (zS (s.drop n):Int)).1))*((zV (zS (s.drop n):Int)).1)) (by omega) (on 8 (zR h7) oz))<|qU (b:=true) rfl rfl<|qA<|yJ qD 2 [.d,.k2,.d,.d,.d,.d,.d,.d,.k1,.d,.n,.d] [pb 1 33 [(iv 3),(iv (n:Int))]] (zY 323 (VK (3:Int) (n:Int)) oz) ?_
    rw [qfi (s:=s) h1 h2 (jN h3 hS (qdf h6 (.inl h7)))]
    exact wV fun cx_ a_ hI_=>yv (rt hc0 [ps 2 (.opt 0 0),ps 3 (.opt 1 0),pb 0 52 [(iv 0),(iv 0),(iv 0)],pb 1 33 [(iv 3),(iv (n:Int))]] [0,1] hI_)
   refine zE qD (gn 6 7++[(13,.yes false)]) [.k8,.d,.n,.r] [ps 70 (bv (decide (3<(max (a+((zV (zS (s.drop n):Int)).1)) (0-(a+((zV (zS (s.drop n):Int)).1)))))))] (oi ((a+((zV (zS (s.drop n):Int)).1))*((zV (zS (s.drop n):Int)).1)) (by omega) (on 5 (zP h7) (oi (0-(a+((zV (zS (s.drop n):Int)).1))) (by omega) (on 3 (zP h7) oz)))) ?_
   by_cases h8:3<(max (a+((zV (zS (s.drop n):Int)).1)) (0-(a+((zV (zS (s.drop n):Int)).1))))
   ·refine qX (zR h8)<|qA<|yJ qD 2 [.d,.k2,.d,.d,.d,.d,.d,.d,.k1,.d,.n,.d] [pb 1 33 [(iv 3),(iv (n:Int))]] (zY 323 (VK (3:Int) (n:Int)) oz) ?_
    rw [qfi (s:=s) h1 h2 (jN h3 hS (qdf h6 (.inr h8)))]
    exact wV fun cx_ a_ hI_=>yv (rt hc0 [ps 2 (.opt 0 0),ps 3 (.opt 1 0),pb 0 52 [(iv 0),(iv 0),(iv 0)],pb 1 33 [(iv 3),(iv (n:Int))]] [0,1] hI_)
   refine qW (zP h8)<|qF<|zE qD [] [.k5,.d,.n,.k1,.d,.d,.r] [ps 6 (iv (((n:Nat):Int)+(zB (s.drop n):Int)))] (oi (((n:Nat):Int)+(zB (s.drop n):Int)) (by omega) oz)<|zM<|zE qD [] [.k6,.d,.n,.r] [ps 7 (iv (((k:Nat):Int)+1))] (oi (((k:Nat):Int)+1) (by omega) oz) ?_
   have hon:=qbf (l:=s.drop n) (a:=a) (n:=n) h6 (by rintro (h|h);exact h7 h;exact h8 h)
   rw [List.drop_drop] at hon
   have hd1:=(qbg h6).2
   exact vH ⟨(k+1,n+zB (s.drop n),a+(zV (zS (s.drop n):Int)).1),⟨by show k+1<n+zB (s.drop n);omega,by show n+zB (s.drop n)≤s.length;omega,by show -3≤a+(zV (zS (s.drop n):Int)).1;omega,by show a+(zV (zS (s.drop n):Int)).1≤3;omega,hon.symm.trans hS⟩⟩ (Wk.ren2 _ 0 hc0 [0,1,2] rfl rfl (by kernel_rfl) (by kernel_rfl)) (show s.length-(n+zB (s.drop n))<s.length-n from by show s.length-(n+zB (s.drop n))<s.length-n;omega)
  refine qX (congrArg Bool.not (Bool.eq_false_iff.2 h6))<|vL rfl rfl<|qA<|zE qD [(2,.val (.av (.string (st (s.drop n))))),(3,.call [] [(sv (st (s.drop n)))] [] (.tup [(iv ((qG (s.drop n)).1)),(bv ((qG (s.drop n)).2))]) [])] [.d,.k5,.d,.d,.d,.n,.n,.d,.r] [ps 12 (iv ((qG (s.drop n)).1)),ps 13 (bv ((qG (s.drop n)).2))] (oc (by first|omega|(simp <;> omega):(0:Int)≤(n:Int)∧(n:Int)≤(s.length:Int)∧(s.length:Int)≤(s.length:Int)) (oc (QQ _ _ _ rfl:(st s).extract (((n:Nat):Int):Int).toNat (((s.length:Nat):Int):Int).toNat=st (s.drop n)) (zY 171 (qbp (s.drop n) (by rw [List.length_drop];omega)) oz)))<|qA<|qA<|qL qD [.k6,.d,.n,.r] [ps 87 (bv (!((qG (s.drop n)).2)))] ?_
  by_cases h9:((qG (s.drop n)).2)=true
  ·refine qW (congrArg Bool.not h9)<|qF<|qA<|qA ?_
   have hnb:=num_bd (s.drop n)
   refine qL qD [.k5,.d,.d,.k2,.d,.n] [pb 2 52 [(iv (Lib.indexByte letB (s.getD 0 0))),(iv a),(iv ((qG (s.drop n)).1))]]<|qA<|yJ qD 1 [.k5,.n,.r] [ps 97 (bv (!(Pi.rightB (Lib.indexByte letB (s.getD 0 0)) a ((qG (s.drop n)).1))))] (zY 267 (VW (Lib.indexByte letB (s.getD 0 0)) a ((qG (s.drop n)).1)) oz) ?_
   by_cases h10:(Pi.rightB (Lib.indexByte letB (s.getD 0 0)) a ((qG (s.drop n)).1))=true
   ·refine qW (congrArg Bool.not h10)<|qF<|qA<|qL qD [.k2,.d,.d,.d,.d,.d,.n,.k1,.d] [pb 0 52 [(iv (Lib.indexByte letB (s.getD 0 0))),(iv a),(iv ((qG (s.drop n)).1))]] ?_
    rw [qbj (s:=s) h1 h2 (jN h3 hS (YE h6)) h9 h10]
    exact zN hc0 [2,3] [0,1]
   refine qX (congrArg Bool.not (Bool.eq_false_iff.2 h10))<|qA<|yJ qD 2 [.k2,.d,.d,.d,.d,.k1,.d,.n,.d] [pb 1 33 [(iv 3),(iv (n:Int))]] (zY 299 (VK (3:Int) (n:Int)) oz) ?_
   rw [qff (s:=s) h1 h2 (jN h3 hS (YE h6)) h9 h10]
   exact zN hc0 [2,3] [0,1]
  refine qX (congrArg Bool.not (Bool.eq_false_iff.2 h9))<|qA<|yJ qD 2 [.k2,.d,.d,.d,.d,.d,.k1,.d,.n,.d] [pb 1 33 [(iv 2),(iv (n:Int))]] (zY 251 (VK (2:Int) (n:Int)) oz) ?_
  rw [qfg (s:=s) h1 h2 (jN h3 hS (YE h6)) h9]
  exact zN hc0 [2,3] [0,1]
 refine qX (bf h2)<|qA<|yJ qD 1 [.d,.k2,.d,.d,.k1,.d,.n] [pb 8 33 [(iv 2),(iv 0)]] (zY 96 (VK (2:Int) (0:Int)) oz) ?_
 rw [qfh (s:=s) (.inr h2)]
 exact zN hc0 [2,3] [0,8]
theorem read_pc (s:List UInt8) (hs:s.length≤9223372036854775807):PC Tryz.prog 165 [(sv (st s))] [] ((.tup [(.agg [(iv ((zq s).1.1)),(iv ((zq s).1.2.1)),(iv ((zq s).1.2.2))]),(.agg [(iv ((zq s).2.1)),(iv ((zq s).2.2))])])) []:=qhd [none,none] rfl (fun i=>by rcases i with _|_|i <;> rfl) (read_pc0 s hs)
theorem yN (s:Int) (hs:0≤s):PC Tryz.prog 125 [(iv s)] [] (bv (zL s)) []:=by
 refine zZ Tryz.func125 rfl (by kernel_rfl) (Nat.le_of_ble_eq_true rfl) (by kernel_rfl) (l0:=[ps 0 (iv s)]) rfl (fun c0 Bor hc0=>?_)
 refine qA<|qL qD [.r] []<|qA<|zU qD [] [ps 3 (iv ((s).tmod 7))] (oc (by decide:7≠(0:Int)) oz)<|qA<|qx (Wk.eq (show _=[ps 3 (iv (s % 7))] from by rw [Int.tmod_eq_emod_of_nonneg hs])) ?_
 by_cases h1:(s % 7)=0
 ·refine zU qD (gy 3 2++[(5,.yes true)]++gy 7 2) [ps 2 (bv true)] (on 3 (zR h1) (on 2 tt oz)) ?_
  rw [show zL s=true from zR (by omega)]
  exact zN hc0 [2] []
 by_cases h2:(s % 7)=3
 ·refine zU qD (gn 3 2++[(5,.yes false)]++gy 7 2++[(9,.yes true)]) [ps 2 (bv true)] (on 3 (zP h1) (on 3 (zR h2) oz)) ?_
  rw [show zL s=true from zR (by omega)]
  exact zN hc0 [2] []
 refine zU qD (gn 3 2++[(5,.yes false)]++gn 7 2++[(9,.yes false)]) [ps 2 (bv (decide ((s % 7)=4)))] (on 3 (zP h1) (on 3 (zP h2) oz))<|qx (Wk.eq (show _=[ps 2 (bv (zL s))] from by rw [show decide ((s % 7)=4)=zL s from decide_eq_decide.2 (by omega)])) ?_
 exact zN hc0 [2] []
theorem zx (s h:Int) (i1:Pi.I64 s) (i2:Pi.I64 h):PC Tryz.prog 91 [(.agg [(iv s),(iv h)])] [] (.tup [(sv (st ((qE s h).1))),(iv ((qE s h).2))]) []:=by
 refine zZ Tryz.func91 rfl (by kernel_rfl) (Nat.le_of_ble_eq_true rfl) (by kernel_rfl) (l0:=[ps 0 (.agg [(iv s),(iv h)])]) rfl (fun c0 Bor hc0=>?_)
 refine qA<|zU qD [] [ps 1 (.opt 0 0),pb 0 41 [(iv s),(iv h)]] (oz)<|qA<|qA<|yJ qD 1 [.k1,.n,.r] [ps 11 (bv (!(Pi.withinB s h)))] (zY 32 (pwithin_pc s h i1 i2) oz) ?_
 by_cases h1:(Pi.withinB s h)=true
 ·refine qW (congrArg Bool.not h1)<|qF<|qA<|qL qD [.k1,.n,.d,.r] [ps 4 se]<|qA<|qA ?_
  have hw:=Pi.withinB_iff.1 h1
  by_cases h2:s<0
  ·refine zE qD (gy 4 4++[(11,.gd true .no),(12,.yes true)]) [.k2,.n,.r] [ps 24 (bv true)] (on 6 (zR h2) oz)<|qU (b:=true) rfl rfl<|qA<|qL qD [.k1,.d,.n,.d,.r] [ps 4 (sv (st ([45]:TX)))]<|zE qD [] [.k2,.d,.n] [pb 0 41 [(iv (0-s)),(iv (0-h))]] (oi (0-s) (by omega) (oi (0-h) (by omega) oz))<|qA ?_
   obtain ⟨x,hx⟩:∃ x,x=0-s:=⟨_,rfl⟩
   obtain ⟨y,hy⟩:∃ y,y=0-h:=⟨_,rfl⟩
   refine qx (Wk.eq (show _=[ps 1 (.opt 0 0),ps 4 (sv (st ([45]:TX))),pb 0 41 [(iv x),(iv y)]] from by rw [hx,hy])) ?_
   have hnb:=Pi.nat7_range (x % 7)
   have hl2:=Qx (o:=x+1) (by omega) (by omega)
   refine yJ qD 2 [.k2,.n,.n,.r] [ps 5 (iv (x / 7)),ps 6 (iv (x % 7))] (zY 264 (ZX x (by omega) (by omega)) oz)<|qA<|ZG qD [(6,.call [] [(iv (x % 7))] [] (iv (Pi.nat7 (x % 7))) [])] (bfr [(0,0),(0,1),(0,0),(2,1),(0,4),(0,0),(5,1),(0,7),(0,8)]) [([78],[2]),([80],[1,78]),([82],[10]),([84],[82]),([86],[80,84]),([88],[12]),([90],[88]),([92],[86,90]),([14],[92])] [.k2,.d,.d,.n,.r] [ps 7 (iv ((y-(12*(x / 7)))-(Pi.nat7 (x % 7))))] (oi (12*(x / 7)) (by omega) (oi (y-(12*(x / 7))) (by omega) (zY 360 (Qj (x % 7)) (oi ((y-(12*(x / 7)))-(Pi.nat7 (x % 7))) (by omega) oz))))<|qA ?_
   obtain ⟨m,hm⟩:∃ m,m=vq x y:=⟨_,rfl⟩
   have hmb : -9000≤m∧m≤9000:=by rw [hm];unfold vq;omega
   refine qx (Wk.eq (show _=[ps 1 (.opt 0 0),ps 4 (sv (st ([45]:TX))),ps 7 (iv m),pb 0 41 [(iv x),(iv y)]] from by rw [hm];rfl)) ?_
   refine qL qD [.r] []<|qA<|zI<|qA<|qL qD [.k3,.n,.r] [ps 52 (bv (decide (0<m)))] ?_
   by_cases h3:0<m
   ·refine qX (zR h3)<|zE qD [(2,.call [] [(sv (st ([65]:TX))),(nv ((min m 7).toNat))] [] (sv (st (Lib.repeatL ([65]:TX) ((min m 7).toNat)))) [])] [.k2,.d,.n,.d,.r] [ps 8 (sv (st (Lib.repeatL ([65]:TX) ((min m 7).toNat))))] (oc (vz ([65]:TX) ((min m 7).toNat) (by omega) (by simp only [List.length_cons,List.length_nil];omega)) (oc (congrArg (fun z=>[(sv (st ([65]:TX))),iv z]) (show min m 7=(((min m 7).toNat:Nat):Int) from by omega):[(sv (st ([65]:TX))),(iv (min m 7))]=qT (qY [] 432) [(sv (st ([65]:TX))),(nv ((min m 7).toNat))]) oz)) ?_
    refine zM<|qA<|qA<|qL qD [.k3,.n,.r] [ps 82 (bv (decide (6<(((Lib.repeatL ([65]:TX) ((min m 7).toNat)).length:Nat):Int))))] ?_
    by_cases h4:6<(((Lib.repeatL ([65]:TX) ((min m 7).toNat)).length:Nat):Int)
    ·refine qX (zR h4)<|qA<|zU qD [] [ps 2 se,ps 3 (iv 3)] (oz) ?_
     rw [yY (s:=s) (h:=h) h1 (.inl h2) (Eq.trans (by rw [← hx,← hy]) (vS (by rw [← hm];exact (ZJ h3)) h4))]
     exact zN hc0 [2,3] []
    refine qW (zP h4)<|qF<|qA<|zU qD [(2,.val (.av (.string (st (([45]:TX)++(Lib.repeatL ([65]:TX) ((min m 7).toNat))))))),(6,.call [] [(iv (x+1))] [] (sv (st (Lib.itoa (x+1)))) []),(7,.val (.av (.string (st ((([45]:TX)++(Lib.repeatL ([65]:TX) ((min m 7).toNat)))++(Lib.itoa (x+1)))))))] [ps 2 (sv (st ((([45]:TX)++(Lib.repeatL ([65]:TX) ((min m 7).toNat)))++(Lib.itoa (x+1))))),ps 3 (iv 0)] (oc (by first|omega|(simp <;> omega):((([45]:TX).length+(Lib.repeatL ([65]:TX) ((min m 7).toNat)).length:Nat):Int)≤9223372036854775807) (oc (qj _ _:st ([45]:TX)++st (Lib.repeatL ([65]:TX) ((min m 7).toNat))=st (([45]:TX)++(Lib.repeatL ([65]:TX) ((min m 7).toNat)))) (oi (x+1) (by omega) (zY 520 (zz (x+1) (by omega) (by omega)) (oc (by first|omega|(simp <;> omega):(((([45]:TX)++(Lib.repeatL ([65]:TX) ((min m 7).toNat))).length+(Lib.itoa (x+1)).length:Nat):Int)≤9223372036854775807) (oc (qj _ _:st (([45]:TX)++(Lib.repeatL ([65]:TX) ((min m 7).toNat)))++st (Lib.itoa (x+1))=st ((([45]:TX)++(Lib.repeatL ([65]:TX) ((min m 7).toNat)))++(Lib.itoa (x+1)))) oz)))))) ?_
    rw [yY (s:=s) (h:=h) h1 (.inl h2) (Eq.trans (by rw [← hx,← hy]) (yQ (by rw [← hm];exact (ZJ h3)) h4))]
    exact zN hc0 [2,3] []
   refine qW (zP h3)<|qA ?_
   by_cases h5:m=0
   ·refine zE qD (gy 3 2++[(5,.gd true (.call [] [(iv x)] [] (bv (zL x)) [])),(6,.yes true)]) [.k3,.d,.n,.r] [ps 58 (bv (zL x))] (on 3 (zR h5) (zY 456 (yN x (by omega)) (oc (zR h5) oz))) ?_
    by_cases h6:(zL x)=true
    ·refine qU (b:=(zL x)) rfl h6<|qL qD [.k2,.d,.n,.d,.r] [ps 8 (sv (st ([80]:TX)))]<|zM<|qA<|qA<|qL qD [.k3,.n,.r] [ps 82 (bv false)]<|zD (b:=false) rfl rfl<|qF<|qA<|zU qD [(2,.val (.av (.string (st (([45]:TX)++([80]:TX)))))),(6,.call [] [(iv (x+1))] [] (sv (st (Lib.itoa (x+1)))) []),(7,.val (.av (.string (st ((([45]:TX)++([80]:TX))++(Lib.itoa (x+1)))))))] [ps 2 (sv (st ((([45]:TX)++([80]:TX))++(Lib.itoa (x+1))))),ps 3 (iv 0)] (oc (by first|omega|(simp <;> omega):((([45]:TX).length+([80]:TX).length:Nat):Int)≤9223372036854775807) (oc (qj _ _:st ([45]:TX)++st ([80]:TX)=st (([45]:TX)++([80]:TX))) (oi (x+1) (by omega) (zY 560 (zz (x+1) (by omega) (by omega)) (oc (by first|omega|(simp <;> omega):(((([45]:TX)++([80]:TX)).length+(Lib.itoa (x+1)).length:Nat):Int)≤9223372036854775807) (oc (qj _ _:st (([45]:TX)++([80]:TX))++st (Lib.itoa (x+1))=st ((([45]:TX)++([80]:TX))++(Lib.itoa (x+1)))) oz)))))) ?_
     rw [yY (s:=s) (h:=h) h1 (.inl h2) (Eq.trans (by rw [← hx,← hy]) (yQ (q:=[80]) (by rw [← hm];exact (qgz h5 h6)) (by decide)))]
     exact zN hc0 [2,3] []
    refine zD (b:=(zL x)) rfl (Bool.eq_false_iff.2 h6)<|qA<|qL qD [.k3,.d,.n,.r] [ps 66 (bv (decide (m=0)))]<|qX (zR h5)<|qL qD [.k2,.d,.n,.d,.r] [ps 8 (sv (st ([77]:TX)))]<|zM<|qA<|qA<|qL qD [.k3,.n,.r] [ps 82 (bv false)]<|zD (b:=false) rfl rfl<|qF<|qA<|zU qD [(2,.val (.av (.string (st (([45]:TX)++([77]:TX)))))),(6,.call [] [(iv (x+1))] [] (sv (st (Lib.itoa (x+1)))) []),(7,.val (.av (.string (st ((([45]:TX)++([77]:TX))++(Lib.itoa (x+1)))))))] [ps 2 (sv (st ((([45]:TX)++([77]:TX))++(Lib.itoa (x+1))))),ps 3 (iv 0)] (oc (by first|omega|(simp <;> omega):((([45]:TX).length+([77]:TX).length:Nat):Int)≤9223372036854775807) (oc (qj _ _:st ([45]:TX)++st ([77]:TX)=st (([45]:TX)++([77]:TX))) (oi (x+1) (by omega) (zY 584 (zz (x+1) (by omega) (by omega)) (oc (by first|omega|(simp <;> omega):(((([45]:TX)++([77]:TX)).length+(Lib.itoa (x+1)).length:Nat):Int)≤9223372036854775807) (oc (qj _ _:st (([45]:TX)++([77]:TX))++st (Lib.itoa (x+1))=st ((([45]:TX)++([77]:TX))++(Lib.itoa (x+1)))) oz)))))) ?_
    rw [yY (s:=s) (h:=h) h1 (.inl h2) (Eq.trans (by rw [← hx,← hy]) (yQ (q:=[77]) (by rw [← hm];exact (qha h5 h6)) (by decide)))]
    exact zN hc0 [2,3] []
   refine zE qD (gn 3 3++[(6,.yes false)]) [.k3,.d,.n,.r] [ps 58 (bv false)] (on 4 (zP h5) oz)<|zD (b:=false) rfl rfl<|qA<|qL qD [.k3,.d,.n,.r] [ps 66 (bv (decide (m=0)))]<|qW (zP h5)<|qA<|yJ qD 2 [.k3,.d,.n,.r] [ps 69 (bv (zL x))] (zY 520 (yN x (by omega)) oz) ?_
   by_cases h7:(zL x)=true
   ·refine qU (b:=(zL x)) rfl h7<|zE qD [(3,.call [] [(sv (st ([100]:TX))),(nv ((min (0-m) 7).toNat))] [] (sv (st (Lib.repeatL ([100]:TX) ((min (0-m) 7).toNat)))) [])] [.k2,.d,.n,.d,.r] [ps 8 (sv (st (Lib.repeatL ([100]:TX) ((min (0-m) 7).toNat))))] (oi (0-m) (by omega) (oc (vz ([100]:TX) ((min (0-m) 7).toNat) (by omega) (by simp only [List.length_cons,List.length_nil];omega)) (oc (congrArg (fun z=>[(sv (st ([100]:TX))),iv z]) (show min (0-m) 7=(((min (0-m) 7).toNat:Nat):Int) from by omega):[(sv (st ([100]:TX))),(iv (min (0-m) 7))]=qT (qY [] 560) [(sv (st ([100]:TX))),(nv ((min (0-m) 7).toNat))]) oz))) ?_
    refine zM<|qA<|qA<|qL qD [.k3,.n,.r] [ps 82 (bv (decide (6<(((Lib.repeatL ([100]:TX) ((min (0-m) 7).toNat)).length:Nat):Int))))] ?_
    by_cases h8:6<(((Lib.repeatL ([100]:TX) ((min (0-m) 7).toNat)).length:Nat):Int)
    ·refine qX (zR h8)<|qA<|zU qD [] [ps 2 se,ps 3 (iv 3)] (oz) ?_
     rw [yY (s:=s) (h:=h) h1 (.inl h2) (Eq.trans (by rw [← hx,← hy]) (vS (by rw [← hm];exact (VD h3 h5 h7)) h8))]
     exact zN hc0 [2,3] []
    refine qW (zP h8)<|qF<|qA<|zU qD [(2,.val (.av (.string (st (([45]:TX)++(Lib.repeatL ([100]:TX) ((min (0-m) 7).toNat))))))),(6,.call [] [(iv (x+1))] [] (sv (st (Lib.itoa (x+1)))) []),(7,.val (.av (.string (st ((([45]:TX)++(Lib.repeatL ([100]:TX) ((min (0-m) 7).toNat)))++(Lib.itoa (x+1)))))))] [ps 2 (sv (st ((([45]:TX)++(Lib.repeatL ([100]:TX) ((min (0-m) 7).toNat)))++(Lib.itoa (x+1))))),ps 3 (iv 0)] (oc (by first|omega|(simp only [List.length_append,List.length_cons,List.length_nil];omega):((([45]:TX).length+(Lib.repeatL ([100]:TX) ((min (0-m) 7).toNat)).length:Nat):Int)≤9223372036854775807) (oc (qj _ _:st ([45]:TX)++st (Lib.repeatL ([100]:TX) ((min (0-m) 7).toNat))=st (([45]:TX)++(Lib.repeatL ([100]:TX) ((min (0-m) 7).toNat)))) (oi (x+1) (by omega) (zY 648 (zz (x+1) (by omega) (by omega)) (oc (by first|omega|(simp only [List.length_append,List.length_cons,List.length_nil];omega):(((([45]:TX)++(Lib.repeatL ([100]:TX) ((min (0-m) 7).toNat))).length+(Lib.itoa (x+1)).length:Nat):Int)≤9223372036854775807) (oc (qj _ _:st (([45]:TX)++(Lib.repeatL ([100]:TX) ((min (0-m) 7).toNat)))++st (Lib.itoa (x+1))=st ((([45]:TX)++(Lib.repeatL ([100]:TX) ((min (0-m) 7).toNat)))++(Lib.itoa (x+1)))) oz)))))) ?_
    rw [yY (s:=s) (h:=h) h1 (.inl h2) (Eq.trans (by rw [← hx,← hy]) (yQ (by rw [← hm];exact (VD h3 h5 h7)) h8))]
    exact zN hc0 [2,3] []
   refine zD (b:=(zL x)) rfl (Bool.eq_false_iff.2 h7)<|qA<|qL qD [.k3,.d,.n,.r] [ps 77 (bv (decide (m=(-1))))] ?_
   by_cases h9:m=(-1)
   ·refine qX (zR h9)<|qL qD [.k2,.d,.n,.d,.r] [ps 8 (sv (st ([109]:TX)))]<|zM<|qA<|qA<|qL qD [.k3,.n,.r] [ps 82 (bv false)]<|zD (b:=false) rfl rfl<|qF<|qA<|zU qD [(2,.val (.av (.string (st (([45]:TX)++([109]:TX)))))),(6,.call [] [(iv (x+1))] [] (sv (st (Lib.itoa (x+1)))) []),(7,.val (.av (.string (st ((([45]:TX)++([109]:TX))++(Lib.itoa (x+1)))))))] [ps 2 (sv (st ((([45]:TX)++([109]:TX))++(Lib.itoa (x+1))))),ps 3 (iv 0)] (oc (by first|omega|(simp <;> omega):((([45]:TX).length+([109]:TX).length:Nat):Int)≤9223372036854775807) (oc (qj _ _:st ([45]:TX)++st ([109]:TX)=st (([45]:TX)++([109]:TX))) (oi (x+1) (by omega) (zY 640 (zz (x+1) (by omega) (by omega)) (oc (by first|omega|(simp <;> omega):(((([45]:TX)++([109]:TX)).length+(Lib.itoa (x+1)).length:Nat):Int)≤9223372036854775807) (oc (qj _ _:st (([45]:TX)++([109]:TX))++st (Lib.itoa (x+1))=st ((([45]:TX)++([109]:TX))++(Lib.itoa (x+1)))) oz)))))) ?_
    rw [yY (s:=s) (h:=h) h1 (.inl h2) (Eq.trans (by rw [← hx,← hy]) (yQ (q:=[109]) (by rw [← hm];exact (qgy h9 h7)) (by decide)))]
    exact zN hc0 [2,3] []
   refine qW (zP h9)<|zE qD [(4,.call [] [(sv (st ([100]:TX))),(nv ((min ((0-m)-1) 7).toNat))] [] (sv (st (Lib.repeatL ([100]:TX) ((min ((0-m)-1) 7).toNat)))) [])] [.k2,.d,.n,.d,.r] [ps 8 (sv (st (Lib.repeatL ([100]:TX) ((min ((0-m)-1) 7).toNat))))] (oi (0-m) (by omega) (oi ((0-m)-1) (by omega) (oc (vz ([100]:TX) ((min ((0-m)-1) 7).toNat) (by omega) (by simp only [List.length_cons,List.length_nil];omega)) (oc (congrArg (fun z=>[(sv (st ([100]:TX))),iv z]) (show min ((0-m)-1) 7=(((min ((0-m)-1) 7).toNat:Nat):Int) from by omega):[(sv (st ([100]:TX))),(iv (min ((0-m)-1) 7))]=qT (qY [] 592) [(sv (st ([100]:TX))),(nv ((min ((0-m)-1) 7).toNat))]) oz)))) ?_
   refine zM<|qA<|qA<|qL qD [.k3,.n,.r] [ps 82 (bv (decide (6<(((Lib.repeatL ([100]:TX) ((min ((0-m)-1) 7).toNat)).length:Nat):Int))))] ?_
   by_cases h10:6<(((Lib.repeatL ([100]:TX) ((min ((0-m)-1) 7).toNat)).length:Nat):Int)
   ·refine qX (zR h10)<|qA<|zU qD [] [ps 2 se,ps 3 (iv 3)] (oz) ?_
    rw [yY (s:=s) (h:=h) h1 (.inl h2) (Eq.trans (by rw [← hx,← hy]) (vS (by rw [← hm];exact (ZK h3 h5 h7 h9)) h10))]
    exact zN hc0 [2,3] []
   refine qW (zP h10)<|qF<|qA<|zU qD [(2,.val (.av (.string (st (([45]:TX)++(Lib.repeatL ([100]:TX) ((min ((0-m)-1) 7).toNat))))))),(6,.call [] [(iv (x+1))] [] (sv (st (Lib.itoa (x+1)))) []),(7,.val (.av (.string (st ((([45]:TX)++(Lib.repeatL ([100]:TX) ((min ((0-m)-1) 7).toNat)))++(Lib.itoa (x+1)))))))] [ps 2 (sv (st ((([45]:TX)++(Lib.repeatL ([100]:TX) ((min ((0-m)-1) 7).toNat)))++(Lib.itoa (x+1))))),ps 3 (iv 0)] (oc (by first|omega|(simp only [List.length_append,List.length_cons,List.length_nil];omega):((([45]:TX).length+(Lib.repeatL ([100]:TX) ((min ((0-m)-1) 7).toNat)).length:Nat):Int)≤9223372036854775807) (oc (qj _ _:st ([45]:TX)++st (Lib.repeatL ([100]:TX) ((min ((0-m)-1) 7).toNat))=st (([45]:TX)++(Lib.repeatL ([100]:TX) ((min ((0-m)-1) 7).toNat)))) (oi (x+1) (by omega) (zY 680 (zz (x+1) (by omega) (by omega)) (oc (by first|omega|(simp only [List.length_append,List.length_cons,List.length_nil];omega):(((([45]:TX)++(Lib.repeatL ([100]:TX) ((min ((0-m)-1) 7).toNat))).length+(Lib.itoa (x+1)).length:Nat):Int)≤9223372036854775807) (oc (qj _ _:st (([45]:TX)++(Lib.repeatL ([100]:TX) ((min ((0-m)-1) 7).toNat)))++st (Lib.itoa (x+1))=st ((([45]:TX)++(Lib.repeatL ([100]:TX) ((min ((0-m)-1) 7).toNat)))++(Lib.itoa (x+1)))) oz)))))) ?_
   rw [yY (s:=s) (h:=h) h1 (.inl h2) (Eq.trans (by rw [← hx,← hy]) (yQ (by rw [← hm];exact (ZK h3 h5 h7 h9)) h10))]
   exact zN hc0 [2,3] []
  by_cases h11:s=0
  ·refine zE qD (gn 4 4++gy 8 3++[(11,.gd false (.yes true)),(12,.yes false)]) [.k2,.n,.r] [ps 24 (bv (decide (h<0)))] (on 4 (zP h2) (on 3 (zR h11) (oc (zP h2) (oc (zR h11) (oc (zP h2) oz))))) ?_
   by_cases h12:h<0
   ·refine qX (zR h12)<|qA<|qL qD [.k1,.d,.n,.d,.r] [ps 4 (sv (st ([45]:TX)))]<|zE qD [] [.k2,.d,.n] [pb 0 41 [(iv (0-s)),(iv (0-h))]] (oi (0-s) (by omega) (oi (0-h) (by omega) oz))<|qA ?_
    obtain ⟨x,hx⟩:∃ x,x=0-s:=⟨_,rfl⟩
    obtain ⟨y,hy⟩:∃ y,y=0-h:=⟨_,rfl⟩
    refine qx (Wk.eq (show _=[ps 1 (.opt 0 0),ps 4 (sv (st ([45]:TX))),pb 0 41 [(iv x),(iv y)]] from by rw [hx,hy])) ?_
    have hnb:=Pi.nat7_range (x % 7)
    have hl2:=Qx (o:=x+1) (by omega) (by omega)
    refine yJ qD 2 [.k2,.n,.n,.r] [ps 5 (iv (x / 7)),ps 6 (iv (x % 7))] (zY 264 (ZX x (by omega) (by omega)) oz)<|qA<|ZG qD [(6,.call [] [(iv (x % 7))] [] (iv (Pi.nat7 (x % 7))) [])] (bfr [(0,0),(0,1),(0,0),(2,1),(0,4),(0,0),(5,1),(0,7),(0,8)]) [([78],[2]),([80],[1,78]),([82],[10]),([84],[82]),([86],[80,84]),([88],[12]),([90],[88]),([92],[86,90]),([14],[92])] [.k2,.d,.d,.n,.r] [ps 7 (iv ((y-(12*(x / 7)))-(Pi.nat7 (x % 7))))] (oi (12*(x / 7)) (by omega) (oi (y-(12*(x / 7))) (by omega) (zY 360 (Qj (x % 7)) (oi ((y-(12*(x / 7)))-(Pi.nat7 (x % 7))) (by omega) oz))))<|qA ?_
    obtain ⟨m,hm⟩:∃ m,m=vq x y:=⟨_,rfl⟩
    have hmb : -9000≤m∧m≤9000:=by rw [hm];unfold vq;omega
    refine qx (Wk.eq (show _=[ps 1 (.opt 0 0),ps 4 (sv (st ([45]:TX))),ps 7 (iv m),pb 0 41 [(iv x),(iv y)]] from by rw [hm];rfl)) ?_
    refine qL qD [.r] []<|qA<|zI<|qA<|qL qD [.k3,.n,.r] [ps 52 (bv (decide (0<m)))] ?_
    by_cases h13:0<m
    ·refine qX (zR h13)<|zE qD [(2,.call [] [(sv (st ([65]:TX))),(nv ((min m 7).toNat))] [] (sv (st (Lib.repeatL ([65]:TX) ((min m 7).toNat)))) [])] [.k2,.d,.n,.d,.r] [ps 8 (sv (st (Lib.repeatL ([65]:TX) ((min m 7).toNat))))] (oc (vz ([65]:TX) ((min m 7).toNat) (by omega) (by simp only [List.length_cons,List.length_nil];omega)) (oc (congrArg (fun z=>[(sv (st ([65]:TX))),iv z]) (show min m 7=(((min m 7).toNat:Nat):Int) from by omega):[(sv (st ([65]:TX))),(iv (min m 7))]=qT (qY [] 432) [(sv (st ([65]:TX))),(nv ((min m 7).toNat))]) oz)) ?_
     refine zM<|qA<|qA<|qL qD [.k3,.n,.r] [ps 82 (bv (decide (6<(((Lib.repeatL ([65]:TX) ((min m 7).toNat)).length:Nat):Int))))] ?_
     by_cases h14:6<(((Lib.repeatL ([65]:TX) ((min m 7).toNat)).length:Nat):Int)
     ·refine qX (zR h14)<|qA<|zU qD [] [ps 2 se,ps 3 (iv 3)] (oz) ?_
      rw [yY (s:=s) (h:=h) h1 (.inr ⟨h11,h12⟩) (Eq.trans (by rw [← hx,← hy]) (vS (by rw [← hm];exact (ZJ h13)) h14))]
      exact zN hc0 [2,3] []
     refine qW (zP h14)<|qF<|qA<|zU qD [(2,.val (.av (.string (st (([45]:TX)++(Lib.repeatL ([65]:TX) ((min m 7).toNat))))))),(6,.call [] [(iv (x+1))] [] (sv (st (Lib.itoa (x+1)))) []),(7,.val (.av (.string (st ((([45]:TX)++(Lib.repeatL ([65]:TX) ((min m 7).toNat)))++(Lib.itoa (x+1)))))))] [ps 2 (sv (st ((([45]:TX)++(Lib.repeatL ([65]:TX) ((min m 7).toNat)))++(Lib.itoa (x+1))))),ps 3 (iv 0)] (oc (by first|omega|(simp <;> omega):((([45]:TX).length+(Lib.repeatL ([65]:TX) ((min m 7).toNat)).length:Nat):Int)≤9223372036854775807) (oc (qj _ _:st ([45]:TX)++st (Lib.repeatL ([65]:TX) ((min m 7).toNat))=st (([45]:TX)++(Lib.repeatL ([65]:TX) ((min m 7).toNat)))) (oi (x+1) (by omega) (zY 520 (zz (x+1) (by omega) (by omega)) (oc (by first|omega|(simp <;> omega):(((([45]:TX)++(Lib.repeatL ([65]:TX) ((min m 7).toNat))).length+(Lib.itoa (x+1)).length:Nat):Int)≤9223372036854775807) (oc (qj _ _:st (([45]:TX)++(Lib.repeatL ([65]:TX) ((min m 7).toNat)))++st (Lib.itoa (x+1))=st ((([45]:TX)++(Lib.repeatL ([65]:TX) ((min m 7).toNat)))++(Lib.itoa (x+1)))) oz)))))) ?_
     rw [yY (s:=s) (h:=h) h1 (.inr ⟨h11,h12⟩) (Eq.trans (by rw [← hx,← hy]) (yQ (by rw [← hm];exact (ZJ h13)) h14))]
     exact zN hc0 [2,3] []
    refine qW (zP h13)<|qA ?_
    by_cases h15:m=0
    ·refine zE qD (gy 3 2++[(5,.gd true (.call [] [(iv x)] [] (bv (zL x)) [])),(6,.yes true)]) [.k3,.d,.n,.r] [ps 58 (bv (zL x))] (on 3 (zR h15) (zY 456 (yN x (by omega)) (oc (zR h15) oz))) ?_
     by_cases h16:(zL x)=true
     ·refine qU (b:=(zL x)) rfl h16<|qL qD [.k2,.d,.n,.d,.r] [ps 8 (sv (st ([80]:TX)))]<|zM<|qA<|qA<|qL qD [.k3,.n,.r] [ps 82 (bv false)]<|zD (b:=false) rfl rfl<|qF<|qA<|zU qD [(2,.val (.av (.string (st (([45]:TX)++([80]:TX)))))),(6,.call [] [(iv (x+1))] [] (sv (st (Lib.itoa (x+1)))) []),(7,.val (.av (.string (st ((([45]:TX)++([80]:TX))++(Lib.itoa (x+1)))))))] [ps 2 (sv (st ((([45]:TX)++([80]:TX))++(Lib.itoa (x+1))))),ps 3 (iv 0)] (oc (by first|omega|(simp <;> omega):((([45]:TX).length+([80]:TX).length:Nat):Int)≤9223372036854775807) (oc (qj _ _:st ([45]:TX)++st ([80]:TX)=st (([45]:TX)++([80]:TX))) (oi (x+1) (by omega) (zY 560 (zz (x+1) (by omega) (by omega)) (oc (by first|omega|(simp <;> omega):(((([45]:TX)++([80]:TX)).length+(Lib.itoa (x+1)).length:Nat):Int)≤9223372036854775807) (oc (qj _ _:st (([45]:TX)++([80]:TX))++st (Lib.itoa (x+1))=st ((([45]:TX)++([80]:TX))++(Lib.itoa (x+1)))) oz)))))) ?_
      rw [yY (s:=s) (h:=h) h1 (.inr ⟨h11,h12⟩) (Eq.trans (by rw [← hx,← hy]) (yQ (q:=[80]) (by rw [← hm];exact (qgz h15 h16)) (by decide)))]
      exact zN hc0 [2,3] []
     refine zD (b:=(zL x)) rfl (Bool.eq_false_iff.2 h16)<|qA<|qL qD [.k3,.d,.n,.r] [ps 66 (bv (decide (m=0)))]<|qX (zR h15)<|qL qD [.k2,.d,.n,.d,.r] [ps 8 (sv (st ([77]:TX)))]<|zM<|qA<|qA<|qL qD [.k3,.n,.r] [ps 82 (bv false)]<|zD (b:=false) rfl rfl<|qF<|qA<|zU qD [(2,.val (.av (.string (st (([45]:TX)++([77]:TX)))))),(6,.call [] [(iv (x+1))] [] (sv (st (Lib.itoa (x+1)))) []),(7,.val (.av (.string (st ((([45]:TX)++([77]:TX))++(Lib.itoa (x+1)))))))] [ps 2 (sv (st ((([45]:TX)++([77]:TX))++(Lib.itoa (x+1))))),ps 3 (iv 0)] (oc (by first|omega|(simp <;> omega):((([45]:TX).length+([77]:TX).length:Nat):Int)≤9223372036854775807) (oc (qj _ _:st ([45]:TX)++st ([77]:TX)=st (([45]:TX)++([77]:TX))) (oi (x+1) (by omega) (zY 584 (zz (x+1) (by omega) (by omega)) (oc (by first|omega|(simp <;> omega):(((([45]:TX)++([77]:TX)).length+(Lib.itoa (x+1)).length:Nat):Int)≤9223372036854775807) (oc (qj _ _:st (([45]:TX)++([77]:TX))++st (Lib.itoa (x+1))=st ((([45]:TX)++([77]:TX))++(Lib.itoa (x+1)))) oz)))))) ?_
     rw [yY (s:=s) (h:=h) h1 (.inr ⟨h11,h12⟩) (Eq.trans (by rw [← hx,← hy]) (yQ (q:=[77]) (by rw [← hm];exact (qha h15 h16)) (by decide)))]
     exact zN hc0 [2,3] []
    refine zE qD (gn 3 3++[(6,.yes false)]) [.k3,.d,.n,.r] [ps 58 (bv false)] (on 4 (zP h15) oz)<|zD (b:=false) rfl rfl<|qA<|qL qD [.k3,.d,.n,.r] [ps 66 (bv (decide (m=0)))]<|qW (zP h15)<|qA<|yJ qD 2 [.k3,.d,.n,.r] [ps 69 (bv (zL x))] (zY 520 (yN x (by omega)) oz) ?_
    by_cases h17:(zL x)=true
    ·refine qU (b:=(zL x)) rfl h17<|zE qD [(3,.call [] [(sv (st ([100]:TX))),(nv ((min (0-m) 7).toNat))] [] (sv (st (Lib.repeatL ([100]:TX) ((min (0-m) 7).toNat)))) [])] [.k2,.d,.n,.d,.r] [ps 8 (sv (st (Lib.repeatL ([100]:TX) ((min (0-m) 7).toNat))))] (oi (0-m) (by omega) (oc (vz ([100]:TX) ((min (0-m) 7).toNat) (by omega) (by simp only [List.length_cons,List.length_nil];omega)) (oc (congrArg (fun z=>[(sv (st ([100]:TX))),iv z]) (show min (0-m) 7=(((min (0-m) 7).toNat:Nat):Int) from by omega):[(sv (st ([100]:TX))),(iv (min (0-m) 7))]=qT (qY [] 560) [(sv (st ([100]:TX))),(nv ((min (0-m) 7).toNat))]) oz))) ?_
     refine zM<|qA<|qA<|qL qD [.k3,.n,.r] [ps 82 (bv (decide (6<(((Lib.repeatL ([100]:TX) ((min (0-m) 7).toNat)).length:Nat):Int))))] ?_
     by_cases h18:6<(((Lib.repeatL ([100]:TX) ((min (0-m) 7).toNat)).length:Nat):Int)
     ·refine qX (zR h18)<|qA<|zU qD [] [ps 2 se,ps 3 (iv 3)] (oz) ?_
      rw [yY (s:=s) (h:=h) h1 (.inr ⟨h11,h12⟩) (Eq.trans (by rw [← hx,← hy]) (vS (by rw [← hm];exact (VD h13 h15 h17)) h18))]
      exact zN hc0 [2,3] []
     refine qW (zP h18)<|qF<|qA<|zU qD [(2,.val (.av (.string (st (([45]:TX)++(Lib.repeatL ([100]:TX) ((min (0-m) 7).toNat))))))),(6,.call [] [(iv (x+1))] [] (sv (st (Lib.itoa (x+1)))) []),(7,.val (.av (.string (st ((([45]:TX)++(Lib.repeatL ([100]:TX) ((min (0-m) 7).toNat)))++(Lib.itoa (x+1)))))))] [ps 2 (sv (st ((([45]:TX)++(Lib.repeatL ([100]:TX) ((min (0-m) 7).toNat)))++(Lib.itoa (x+1))))),ps 3 (iv 0)] (oc (by first|omega|(simp only [List.length_append,List.length_cons,List.length_nil];omega):((([45]:TX).length+(Lib.repeatL ([100]:TX) ((min (0-m) 7).toNat)).length:Nat):Int)≤9223372036854775807) (oc (qj _ _:st ([45]:TX)++st (Lib.repeatL ([100]:TX) ((min (0-m) 7).toNat))=st (([45]:TX)++(Lib.repeatL ([100]:TX) ((min (0-m) 7).toNat)))) (oi (x+1) (by omega) (zY 648 (zz (x+1) (by omega) (by omega)) (oc (by first|omega|(simp only [List.length_append,List.length_cons,List.length_nil];omega):(((([45]:TX)++(Lib.repeatL ([100]:TX) ((min (0-m) 7).toNat))).length+(Lib.itoa (x+1)).length:Nat):Int)≤9223372036854775807) (oc (qj _ _:st (([45]:TX)++(Lib.repeatL ([100]:TX) ((min (0-m) 7).toNat)))++st (Lib.itoa (x+1))=st ((([45]:TX)++(Lib.repeatL ([100]:TX) ((min (0-m) 7).toNat)))++(Lib.itoa (x+1)))) oz)))))) ?_
     rw [yY (s:=s) (h:=h) h1 (.inr ⟨h11,h12⟩) (Eq.trans (by rw [← hx,← hy]) (yQ (by rw [← hm];exact (VD h13 h15 h17)) h18))]
     exact zN hc0 [2,3] []
    refine zD (b:=(zL x)) rfl (Bool.eq_false_iff.2 h17)<|qA<|qL qD [.k3,.d,.n,.r] [ps 77 (bv (decide (m=(-1))))] ?_
    by_cases h19:m=(-1)
    ·refine qX (zR h19)<|qL qD [.k2,.d,.n,.d,.r] [ps 8 (sv (st ([109]:TX)))]<|zM<|qA<|qA<|qL qD [.k3,.n,.r] [ps 82 (bv false)]<|zD (b:=false) rfl rfl<|qF<|qA<|zU qD [(2,.val (.av (.string (st (([45]:TX)++([109]:TX)))))),(6,.call [] [(iv (x+1))] [] (sv (st (Lib.itoa (x+1)))) []),(7,.val (.av (.string (st ((([45]:TX)++([109]:TX))++(Lib.itoa (x+1)))))))] [ps 2 (sv (st ((([45]:TX)++([109]:TX))++(Lib.itoa (x+1))))),ps 3 (iv 0)] (oc (by first|omega|(simp <;> omega):((([45]:TX).length+([109]:TX).length:Nat):Int)≤9223372036854775807) (oc (qj _ _:st ([45]:TX)++st ([109]:TX)=st (([45]:TX)++([109]:TX))) (oi (x+1) (by omega) (zY 640 (zz (x+1) (by omega) (by omega)) (oc (by first|omega|(simp <;> omega):(((([45]:TX)++([109]:TX)).length+(Lib.itoa (x+1)).length:Nat):Int)≤9223372036854775807) (oc (qj _ _:st (([45]:TX)++([109]:TX))++st (Lib.itoa (x+1))=st ((([45]:TX)++([109]:TX))++(Lib.itoa (x+1)))) oz)))))) ?_
     rw [yY (s:=s) (h:=h) h1 (.inr ⟨h11,h12⟩) (Eq.trans (by rw [← hx,← hy]) (yQ (q:=[109]) (by rw [← hm];exact (qgy h19 h17)) (by decide)))]
     exact zN hc0 [2,3] []
    refine qW (zP h19)<|zE qD [(4,.call [] [(sv (st ([100]:TX))),(nv ((min ((0-m)-1) 7).toNat))] [] (sv (st (Lib.repeatL ([100]:TX) ((min ((0-m)-1) 7).toNat)))) [])] [.k2,.d,.n,.d,.r] [ps 8 (sv (st (Lib.repeatL ([100]:TX) ((min ((0-m)-1) 7).toNat))))] (oi (0-m) (by omega) (oi ((0-m)-1) (by omega) (oc (vz ([100]:TX) ((min ((0-m)-1) 7).toNat) (by omega) (by simp only [List.length_cons,List.length_nil];omega)) (oc (congrArg (fun z=>[(sv (st ([100]:TX))),iv z]) (show min ((0-m)-1) 7=(((min ((0-m)-1) 7).toNat:Nat):Int) from by omega):[(sv (st ([100]:TX))),(iv (min ((0-m)-1) 7))]=qT (qY [] 592) [(sv (st ([100]:TX))),(nv ((min ((0-m)-1) 7).toNat))]) oz)))) ?_
    refine zM<|qA<|qA<|qL qD [.k3,.n,.r] [ps 82 (bv (decide (6<(((Lib.repeatL ([100]:TX) ((min ((0-m)-1) 7).toNat)).length:Nat):Int))))] ?_
    by_cases h20:6<(((Lib.repeatL ([100]:TX) ((min ((0-m)-1) 7).toNat)).length:Nat):Int)
    ·refine qX (zR h20)<|qA<|zU qD [] [ps 2 se,ps 3 (iv 3)] (oz) ?_
     rw [yY (s:=s) (h:=h) h1 (.inr ⟨h11,h12⟩) (Eq.trans (by rw [← hx,← hy]) (vS (by rw [← hm];exact (ZK h13 h15 h17 h19)) h20))]
     exact zN hc0 [2,3] []
    refine qW (zP h20)<|qF<|qA<|zU qD [(2,.val (.av (.string (st (([45]:TX)++(Lib.repeatL ([100]:TX) ((min ((0-m)-1) 7).toNat))))))),(6,.call [] [(iv (x+1))] [] (sv (st (Lib.itoa (x+1)))) []),(7,.val (.av (.string (st ((([45]:TX)++(Lib.repeatL ([100]:TX) ((min ((0-m)-1) 7).toNat)))++(Lib.itoa (x+1)))))))] [ps 2 (sv (st ((([45]:TX)++(Lib.repeatL ([100]:TX) ((min ((0-m)-1) 7).toNat)))++(Lib.itoa (x+1))))),ps 3 (iv 0)] (oc (by first|omega|(simp only [List.length_append,List.length_cons,List.length_nil];omega):((([45]:TX).length+(Lib.repeatL ([100]:TX) ((min ((0-m)-1) 7).toNat)).length:Nat):Int)≤9223372036854775807) (oc (qj _ _:st ([45]:TX)++st (Lib.repeatL ([100]:TX) ((min ((0-m)-1) 7).toNat))=st (([45]:TX)++(Lib.repeatL ([100]:TX) ((min ((0-m)-1) 7).toNat)))) (oi (x+1) (by omega) (zY 680 (zz (x+1) (by omega) (by omega)) (oc (by first|omega|(simp only [List.length_append,List.length_cons,List.length_nil];omega):(((([45]:TX)++(Lib.repeatL ([100]:TX) ((min ((0-m)-1) 7).toNat))).length+(Lib.itoa (x+1)).length:Nat):Int)≤9223372036854775807) (oc (qj _ _:st (([45]:TX)++(Lib.repeatL ([100]:TX) ((min ((0-m)-1) 7).toNat)))++st (Lib.itoa (x+1))=st ((([45]:TX)++(Lib.repeatL ([100]:TX) ((min ((0-m)-1) 7).toNat)))++(Lib.itoa (x+1)))) oz)))))) ?_
    rw [yY (s:=s) (h:=h) h1 (.inr ⟨h11,h12⟩) (Eq.trans (by rw [← hx,← hy]) (yQ (by rw [← hm];exact (ZK h13 h15 h17 h19)) h20))]
    exact zN hc0 [2,3] []
   refine qW (zP h12)<|qF<|qA ?_
   obtain ⟨x,hx⟩:∃ x,x=s:=⟨_,rfl⟩
   obtain ⟨y,hy⟩:∃ y,y=h:=⟨_,rfl⟩
   refine qx (Wk.eq (show _=[ps 1 (.opt 0 0),ps 4 se,ps 24 (bv (decide (h<0))),pb 0 41 [(iv x),(iv y)]] from by rw [hx,hy])) ?_
   have hnb:=Pi.nat7_range (x % 7)
   have hl2:=Qx (o:=x+1) (by omega) (by omega)
   refine yJ qD 2 [.k2,.n,.n,.d,.r] [ps 5 (iv (x / 7)),ps 6 (iv (x % 7))] (zY 176 (ZX x (by omega) (by omega)) oz)<|qA<|ZG qD [(6,.call [] [(iv (x % 7))] [] (iv (Pi.nat7 (x % 7))) [])] (bfr [(0,0),(0,1),(0,0),(2,1),(0,4),(0,0),(5,1),(0,7),(0,8)]) [([78],[2]),([80],[1,78]),([82],[10]),([84],[82]),([86],[80,84]),([88],[12]),([90],[88]),([92],[86,90]),([14],[92])] [.k2,.d,.d,.n,.r] [ps 7 (iv ((y-(12*(x / 7)))-(Pi.nat7 (x % 7))))] (oi (12*(x / 7)) (by omega) (oi (y-(12*(x / 7))) (by omega) (zY 272 (Qj (x % 7)) (oi ((y-(12*(x / 7)))-(Pi.nat7 (x % 7))) (by omega) oz))))<|qA ?_
   obtain ⟨m,hm⟩:∃ m,m=vq x y:=⟨_,rfl⟩
   have hmb : -9000≤m∧m≤9000:=by rw [hm];unfold vq;omega
   refine qx (Wk.eq (show _=[ps 1 (.opt 0 0),ps 4 se,ps 7 (iv m),pb 0 41 [(iv x),(iv y)]] from by rw [hm];rfl)) ?_
   refine qL qD [.r] []<|qA<|zI<|qA<|qL qD [.k3,.n,.r] [ps 52 (bv (decide (0<m)))] ?_
   by_cases h21:0<m
   ·refine qX (zR h21)<|zE qD [(2,.call [] [(sv (st ([65]:TX))),(nv ((min m 7).toNat))] [] (sv (st (Lib.repeatL ([65]:TX) ((min m 7).toNat)))) [])] [.k2,.d,.n,.d,.r] [ps 8 (sv (st (Lib.repeatL ([65]:TX) ((min m 7).toNat))))] (oc (vz ([65]:TX) ((min m 7).toNat) (by omega) (by simp only [List.length_cons,List.length_nil];omega)) (oc (congrArg (fun z=>[(sv (st ([65]:TX))),iv z]) (show min m 7=(((min m 7).toNat:Nat):Int) from by omega):[(sv (st ([65]:TX))),(iv (min m 7))]=qT (qY [] 344) [(sv (st ([65]:TX))),(nv ((min m 7).toNat))]) oz)) ?_
    refine zM<|qA<|qA<|qL qD [.k3,.n,.r] [ps 82 (bv (decide (6<(((Lib.repeatL ([65]:TX) ((min m 7).toNat)).length:Nat):Int))))] ?_
    by_cases h22:6<(((Lib.repeatL ([65]:TX) ((min m 7).toNat)).length:Nat):Int)
    ·refine qX (zR h22)<|qA<|zU qD [] [ps 2 se,ps 3 (iv 3)] (oz) ?_
     rw [yX (s:=s) (h:=h) h1 (by omega) (Eq.trans (by rw [← hx,← hy]) (vS (by rw [← hm];exact (ZJ h21)) h22))]
     exact zN hc0 [2,3] []
    refine qW (zP h22)<|qF<|qA<|zU qD [(2,.val (.av (.string (st (([]:TX)++(Lib.repeatL ([65]:TX) ((min m 7).toNat))))))),(6,.call [] [(iv (x+1))] [] (sv (st (Lib.itoa (x+1)))) []),(7,.val (.av (.string (st ((([]:TX)++(Lib.repeatL ([65]:TX) ((min m 7).toNat)))++(Lib.itoa (x+1)))))))] [ps 2 (sv (st ((([]:TX)++(Lib.repeatL ([65]:TX) ((min m 7).toNat)))++(Lib.itoa (x+1))))),ps 3 (iv 0)] (oc (by first|omega|(simp <;> omega):((([]:TX).length+(Lib.repeatL ([65]:TX) ((min m 7).toNat)).length:Nat):Int)≤9223372036854775807) (oc (qj _ _:st ([]:TX)++st (Lib.repeatL ([65]:TX) ((min m 7).toNat))=st (([]:TX)++(Lib.repeatL ([65]:TX) ((min m 7).toNat)))) (oi (x+1) (by omega) (zY 432 (zz (x+1) (by omega) (by omega)) (oc (by first|omega|(simp <;> omega):(((([]:TX)++(Lib.repeatL ([65]:TX) ((min m 7).toNat))).length+(Lib.itoa (x+1)).length:Nat):Int)≤9223372036854775807) (oc (qj _ _:st (([]:TX)++(Lib.repeatL ([65]:TX) ((min m 7).toNat)))++st (Lib.itoa (x+1))=st ((([]:TX)++(Lib.repeatL ([65]:TX) ((min m 7).toNat)))++(Lib.itoa (x+1)))) oz)))))) ?_
    rw [yX (s:=s) (h:=h) h1 (by omega) (Eq.trans (by rw [← hx,← hy]) (yQ (by rw [← hm];exact (ZJ h21)) h22))]
    exact zN hc0 [2,3] []
   refine qW (zP h21)<|qA ?_
   by_cases h23:m=0
   ·refine zE qD (gy 3 2++[(5,.gd true (.call [] [(iv x)] [] (bv (zL x)) [])),(6,.yes true)]) [.k3,.d,.n,.r] [ps 58 (bv (zL x))] (on 3 (zR h23) (zY 368 (yN x (by omega)) (oc (zR h23) oz))) ?_
    by_cases h24:(zL x)=true
    ·refine qU (b:=(zL x)) rfl h24<|qL qD [.k2,.d,.n,.d,.r] [ps 8 (sv (st ([80]:TX)))]<|zM<|qA<|qA<|qL qD [.k3,.n,.r] [ps 82 (bv false)]<|zD (b:=false) rfl rfl<|qF<|qA<|zU qD [(2,.val (.av (.string (st (([]:TX)++([80]:TX)))))),(6,.call [] [(iv (x+1))] [] (sv (st (Lib.itoa (x+1)))) []),(7,.val (.av (.string (st ((([]:TX)++([80]:TX))++(Lib.itoa (x+1)))))))] [ps 2 (sv (st ((([]:TX)++([80]:TX))++(Lib.itoa (x+1))))),ps 3 (iv 0)] (oc (by first|omega|(simp <;> omega):((([]:TX).length+([80]:TX).length:Nat):Int)≤9223372036854775807) (oc (qj _ _:st ([]:TX)++st ([80]:TX)=st (([]:TX)++([80]:TX))) (oi (x+1) (by omega) (zY 472 (zz (x+1) (by omega) (by omega)) (oc (by first|omega|(simp <;> omega):(((([]:TX)++([80]:TX)).length+(Lib.itoa (x+1)).length:Nat):Int)≤9223372036854775807) (oc (qj _ _:st (([]:TX)++([80]:TX))++st (Lib.itoa (x+1))=st ((([]:TX)++([80]:TX))++(Lib.itoa (x+1)))) oz)))))) ?_
     rw [yX (s:=s) (h:=h) h1 (by omega) (Eq.trans (by rw [← hx,← hy]) (yQ (q:=[80]) (by rw [← hm];exact (qgz h23 h24)) (by decide)))]
     exact zN hc0 [2,3] []
    refine zD (b:=(zL x)) rfl (Bool.eq_false_iff.2 h24)<|qA<|qL qD [.k3,.d,.n,.r] [ps 66 (bv (decide (m=0)))]<|qX (zR h23)<|qL qD [.k2,.d,.n,.d,.r] [ps 8 (sv (st ([77]:TX)))]<|zM<|qA<|qA<|qL qD [.k3,.n,.r] [ps 82 (bv false)]<|zD (b:=false) rfl rfl<|qF<|qA<|zU qD [(2,.val (.av (.string (st (([]:TX)++([77]:TX)))))),(6,.call [] [(iv (x+1))] [] (sv (st (Lib.itoa (x+1)))) []),(7,.val (.av (.string (st ((([]:TX)++([77]:TX))++(Lib.itoa (x+1)))))))] [ps 2 (sv (st ((([]:TX)++([77]:TX))++(Lib.itoa (x+1))))),ps 3 (iv 0)] (oc (by first|omega|(simp <;> omega):((([]:TX).length+([77]:TX).length:Nat):Int)≤9223372036854775807) (oc (qj _ _:st ([]:TX)++st ([77]:TX)=st (([]:TX)++([77]:TX))) (oi (x+1) (by omega) (zY 496 (zz (x+1) (by omega) (by omega)) (oc (by first|omega|(simp <;> omega):(((([]:TX)++([77]:TX)).length+(Lib.itoa (x+1)).length:Nat):Int)≤9223372036854775807) (oc (qj _ _:st (([]:TX)++([77]:TX))++st (Lib.itoa (x+1))=st ((([]:TX)++([77]:TX))++(Lib.itoa (x+1)))) oz)))))) ?_
    rw [yX (s:=s) (h:=h) h1 (by omega) (Eq.trans (by rw [← hx,← hy]) (yQ (q:=[77]) (by rw [← hm];exact (qha h23 h24)) (by decide)))]
    exact zN hc0 [2,3] []
   refine zE qD (gn 3 3++[(6,.yes false)]) [.k3,.d,.n,.r] [ps 58 (bv false)] (on 4 (zP h23) oz)<|zD (b:=false) rfl rfl<|qA<|qL qD [.k3,.d,.n,.r] [ps 66 (bv (decide (m=0)))]<|qW (zP h23)<|qA<|yJ qD 2 [.k3,.d,.n,.r] [ps 69 (bv (zL x))] (zY 432 (yN x (by omega)) oz) ?_
   by_cases h25:(zL x)=true
   ·refine qU (b:=(zL x)) rfl h25<|zE qD [(3,.call [] [(sv (st ([100]:TX))),(nv ((min (0-m) 7).toNat))] [] (sv (st (Lib.repeatL ([100]:TX) ((min (0-m) 7).toNat)))) [])] [.k2,.d,.n,.d,.r] [ps 8 (sv (st (Lib.repeatL ([100]:TX) ((min (0-m) 7).toNat))))] (oi (0-m) (by omega) (oc (vz ([100]:TX) ((min (0-m) 7).toNat) (by omega) (by simp only [List.length_cons,List.length_nil];omega)) (oc (congrArg (fun z=>[(sv (st ([100]:TX))),iv z]) (show min (0-m) 7=(((min (0-m) 7).toNat:Nat):Int) from by omega):[(sv (st ([100]:TX))),(iv (min (0-m) 7))]=qT (qY [] 472) [(sv (st ([100]:TX))),(nv ((min (0-m) 7).toNat))]) oz))) ?_
    refine zM<|qA<|qA<|qL qD [.k3,.n,.r] [ps 82 (bv (decide (6<(((Lib.repeatL ([100]:TX) ((min (0-m) 7).toNat)).length:Nat):Int))))] ?_
    by_cases h26:6<(((Lib.repeatL ([100]:TX) ((min (0-m) 7).toNat)).length:Nat):Int)
    ·refine qX (zR h26)<|qA<|zU qD [] [ps 2 se,ps 3 (iv 3)] (oz) ?_
     rw [yX (s:=s) (h:=h) h1 (by omega) (Eq.trans (by rw [← hx,← hy]) (vS (by rw [← hm];exact (VD h21 h23 h25)) h26))]
     exact zN hc0 [2,3] []
    refine qW (zP h26)<|qF<|qA<|zU qD [(2,.val (.av (.string (st (([]:TX)++(Lib.repeatL ([100]:TX) ((min (0-m) 7).toNat))))))),(6,.call [] [(iv (x+1))] [] (sv (st (Lib.itoa (x+1)))) []),(7,.val (.av (.string (st ((([]:TX)++(Lib.repeatL ([100]:TX) ((min (0-m) 7).toNat)))++(Lib.itoa (x+1)))))))] [ps 2 (sv (st ((([]:TX)++(Lib.repeatL ([100]:TX) ((min (0-m) 7).toNat)))++(Lib.itoa (x+1))))),ps 3 (iv 0)] (oc (by first|omega|(simp only [List.length_append,List.length_cons,List.length_nil];omega):((([]:TX).length+(Lib.repeatL ([100]:TX) ((min (0-m) 7).toNat)).length:Nat):Int)≤9223372036854775807) (oc (qj _ _:st ([]:TX)++st (Lib.repeatL ([100]:TX) ((min (0-m) 7).toNat))=st (([]:TX)++(Lib.repeatL ([100]:TX) ((min (0-m) 7).toNat)))) (oi (x+1) (by omega) (zY 560 (zz (x+1) (by omega) (by omega)) (oc (by first|omega|(simp only [List.length_append,List.length_cons,List.length_nil];omega):(((([]:TX)++(Lib.repeatL ([100]:TX) ((min (0-m) 7).toNat))).length+(Lib.itoa (x+1)).length:Nat):Int)≤9223372036854775807) (oc (qj _ _:st (([]:TX)++(Lib.repeatL ([100]:TX) ((min (0-m) 7).toNat)))++st (Lib.itoa (x+1))=st ((([]:TX)++(Lib.repeatL ([100]:TX) ((min (0-m) 7).toNat)))++(Lib.itoa (x+1)))) oz)))))) ?_
    rw [yX (s:=s) (h:=h) h1 (by omega) (Eq.trans (by rw [← hx,← hy]) (yQ (by rw [← hm];exact (VD h21 h23 h25)) h26))]
    exact zN hc0 [2,3] []
   refine zD (b:=(zL x)) rfl (Bool.eq_false_iff.2 h25)<|qA<|qL qD [.k3,.d,.n,.r] [ps 77 (bv (decide (m=(-1))))] ?_
   by_cases h27:m=(-1)
   ·refine qX (zR h27)<|qL qD [.k2,.d,.n,.d,.r] [ps 8 (sv (st ([109]:TX)))]<|zM<|qA<|qA<|qL qD [.k3,.n,.r] [ps 82 (bv false)]<|zD (b:=false) rfl rfl<|qF<|qA<|zU qD [(2,.val (.av (.string (st (([]:TX)++([109]:TX)))))),(6,.call [] [(iv (x+1))] [] (sv (st (Lib.itoa (x+1)))) []),(7,.val (.av (.string (st ((([]:TX)++([109]:TX))++(Lib.itoa (x+1)))))))] [ps 2 (sv (st ((([]:TX)++([109]:TX))++(Lib.itoa (x+1))))),ps 3 (iv 0)] (oc (by first|omega|(simp <;> omega):((([]:TX).length+([109]:TX).length:Nat):Int)≤9223372036854775807) (oc (qj _ _:st ([]:TX)++st ([109]:TX)=st (([]:TX)++([109]:TX))) (oi (x+1) (by omega) (zY 552 (zz (x+1) (by omega) (by omega)) (oc (by first|omega|(simp <;> omega):(((([]:TX)++([109]:TX)).length+(Lib.itoa (x+1)).length:Nat):Int)≤9223372036854775807) (oc (qj _ _:st (([]:TX)++([109]:TX))++st (Lib.itoa (x+1))=st ((([]:TX)++([109]:TX))++(Lib.itoa (x+1)))) oz)))))) ?_
    rw [yX (s:=s) (h:=h) h1 (by omega) (Eq.trans (by rw [← hx,← hy]) (yQ (q:=[109]) (by rw [← hm];exact (qgy h27 h25)) (by decide)))]
    exact zN hc0 [2,3] []
   refine qW (zP h27)<|zE qD [(4,.call [] [(sv (st ([100]:TX))),(nv ((min ((0-m)-1) 7).toNat))] [] (sv (st (Lib.repeatL ([100]:TX) ((min ((0-m)-1) 7).toNat)))) [])] [.k2,.d,.n,.d,.r] [ps 8 (sv (st (Lib.repeatL ([100]:TX) ((min ((0-m)-1) 7).toNat))))] (oi (0-m) (by omega) (oi ((0-m)-1) (by omega) (oc (vz ([100]:TX) ((min ((0-m)-1) 7).toNat) (by omega) (by simp only [List.length_cons,List.length_nil];omega)) (oc (congrArg (fun z=>[(sv (st ([100]:TX))),iv z]) (show min ((0-m)-1) 7=(((min ((0-m)-1) 7).toNat:Nat):Int) from by omega):[(sv (st ([100]:TX))),(iv (min ((0-m)-1) 7))]=qT (qY [] 504) [(sv (st ([100]:TX))),(nv ((min ((0-m)-1) 7).toNat))]) oz)))) ?_
   refine zM<|qA<|qA<|qL qD [.k3,.n,.r] [ps 82 (bv (decide (6<(((Lib.repeatL ([100]:TX) ((min ((0-m)-1) 7).toNat)).length:Nat):Int))))] ?_
   by_cases h28:6<(((Lib.repeatL ([100]:TX) ((min ((0-m)-1) 7).toNat)).length:Nat):Int)
   ·refine qX (zR h28)<|qA<|zU qD [] [ps 2 se,ps 3 (iv 3)] (oz) ?_
    rw [yX (s:=s) (h:=h) h1 (by omega) (Eq.trans (by rw [← hx,← hy]) (vS (by rw [← hm];exact (ZK h21 h23 h25 h27)) h28))]
    exact zN hc0 [2,3] []
   refine qW (zP h28)<|qF<|qA<|zU qD [(2,.val (.av (.string (st (([]:TX)++(Lib.repeatL ([100]:TX) ((min ((0-m)-1) 7).toNat))))))),(6,.call [] [(iv (x+1))] [] (sv (st (Lib.itoa (x+1)))) []),(7,.val (.av (.string (st ((([]:TX)++(Lib.repeatL ([100]:TX) ((min ((0-m)-1) 7).toNat)))++(Lib.itoa (x+1)))))))] [ps 2 (sv (st ((([]:TX)++(Lib.repeatL ([100]:TX) ((min ((0-m)-1) 7).toNat)))++(Lib.itoa (x+1))))),ps 3 (iv 0)] (oc (by first|omega|(simp only [List.length_append,List.length_cons,List.length_nil];omega):((([]:TX).length+(Lib.repeatL ([100]:TX) ((min ((0-m)-1) 7).toNat)).length:Nat):Int)≤9223372036854775807) (oc (qj _ _:st ([]:TX)++st (Lib.repeatL ([100]:TX) ((min ((0-m)-1) 7).toNat))=st (([]:TX)++(Lib.repeatL ([100]:TX) ((min ((0-m)-1) 7).toNat)))) (oi (x+1) (by omega) (zY 592 (zz (x+1) (by omega) (by omega)) (oc (by first|omega|(simp only [List.length_append,List.length_cons,List.length_nil];omega):(((([]:TX)++(Lib.repeatL ([100]:TX) ((min ((0-m)-1) 7).toNat))).length+(Lib.itoa (x+1)).length:Nat):Int)≤9223372036854775807) (oc (qj _ _:st (([]:TX)++(Lib.repeatL ([100]:TX) ((min ((0-m)-1) 7).toNat)))++st (Lib.itoa (x+1))=st ((([]:TX)++(Lib.repeatL ([100]:TX) ((min ((0-m)-1) 7).toNat)))++(Lib.itoa (x+1)))) oz)))))) ?_
   rw [yX (s:=s) (h:=h) h1 (by omega) (Eq.trans (by rw [← hx,← hy]) (yQ (by rw [← hm];exact (ZK h21 h23 h25 h27)) h28))]
   exact zN hc0 [2,3] []
  refine zE qD (gn 4 7++[(11,.gd false (.yes false)),(12,.yes false)]) [.k2,.n,.r] [ps 24 (bv false)] (on 4 (zP h2) (on 3 (zP h11) (oc (zP h2) (oc (zP h11) (oc (zP h2) oz)))))<|zD (b:=false) rfl rfl<|qF<|qA ?_
  obtain ⟨x,hx⟩:∃ x,x=s:=⟨_,rfl⟩
  obtain ⟨y,hy⟩:∃ y,y=h:=⟨_,rfl⟩
  refine qx (Wk.eq (show _=[ps 1 (.opt 0 0),ps 4 se,ps 24 (bv false),pb 0 41 [(iv x),(iv y)]] from by rw [hx,hy])) ?_
  have hnb:=Pi.nat7_range (x % 7)
  have hl2:=Qx (o:=x+1) (by omega) (by omega)
  refine yJ qD 2 [.k2,.n,.n,.d,.r] [ps 5 (iv (x / 7)),ps 6 (iv (x % 7))] (zY 176 (ZX x (by omega) (by omega)) oz)<|qA<|ZG qD [(6,.call [] [(iv (x % 7))] [] (iv (Pi.nat7 (x % 7))) [])] (bfr [(0,0),(0,1),(0,0),(2,1),(0,4),(0,0),(5,1),(0,7),(0,8)]) [([78],[2]),([80],[1,78]),([82],[10]),([84],[82]),([86],[80,84]),([88],[12]),([90],[88]),([92],[86,90]),([14],[92])] [.k2,.d,.d,.n,.r] [ps 7 (iv ((y-(12*(x / 7)))-(Pi.nat7 (x % 7))))] (oi (12*(x / 7)) (by omega) (oi (y-(12*(x / 7))) (by omega) (zY 272 (Qj (x % 7)) (oi ((y-(12*(x / 7)))-(Pi.nat7 (x % 7))) (by omega) oz))))<|qA ?_
  obtain ⟨m,hm⟩:∃ m,m=vq x y:=⟨_,rfl⟩
  have hmb : -9000≤m∧m≤9000:=by rw [hm];unfold vq;omega
  refine qx (Wk.eq (show _=[ps 1 (.opt 0 0),ps 4 se,ps 7 (iv m),pb 0 41 [(iv x),(iv y)]] from by rw [hm];rfl)) ?_
  refine qL qD [.r] []<|qA<|zI<|qA<|qL qD [.k3,.n,.r] [ps 52 (bv (decide (0<m)))] ?_
  by_cases h29:0<m
  ·refine qX (zR h29)<|zE qD [(2,.call [] [(sv (st ([65]:TX))),(nv ((min m 7).toNat))] [] (sv (st (Lib.repeatL ([65]:TX) ((min m 7).toNat)))) [])] [.k2,.d,.n,.d,.r] [ps 8 (sv (st (Lib.repeatL ([65]:TX) ((min m 7).toNat))))] (oc (vz ([65]:TX) ((min m 7).toNat) (by omega) (by simp only [List.length_cons,List.length_nil];omega)) (oc (congrArg (fun z=>[(sv (st ([65]:TX))),iv z]) (show min m 7=(((min m 7).toNat:Nat):Int) from by omega):[(sv (st ([65]:TX))),(iv (min m 7))]=qT (qY [] 344) [(sv (st ([65]:TX))),(nv ((min m 7).toNat))]) oz)) ?_
   refine zM<|qA<|qA<|qL qD [.k3,.n,.r] [ps 82 (bv (decide (6<(((Lib.repeatL ([65]:TX) ((min m 7).toNat)).length:Nat):Int))))] ?_
   by_cases h30:6<(((Lib.repeatL ([65]:TX) ((min m 7).toNat)).length:Nat):Int)
   ·refine qX (zR h30)<|qA<|zU qD [] [ps 2 se,ps 3 (iv 3)] (oz) ?_
    rw [yX (s:=s) (h:=h) h1 (by omega) (Eq.trans (by rw [← hx,← hy]) (vS (by rw [← hm];exact (ZJ h29)) h30))]
    exact zN hc0 [2,3] []
   refine qW (zP h30)<|qF<|qA<|zU qD [(2,.val (.av (.string (st (([]:TX)++(Lib.repeatL ([65]:TX) ((min m 7).toNat))))))),(6,.call [] [(iv (x+1))] [] (sv (st (Lib.itoa (x+1)))) []),(7,.val (.av (.string (st ((([]:TX)++(Lib.repeatL ([65]:TX) ((min m 7).toNat)))++(Lib.itoa (x+1)))))))] [ps 2 (sv (st ((([]:TX)++(Lib.repeatL ([65]:TX) ((min m 7).toNat)))++(Lib.itoa (x+1))))),ps 3 (iv 0)] (oc (by first|omega|(simp <;> omega):((([]:TX).length+(Lib.repeatL ([65]:TX) ((min m 7).toNat)).length:Nat):Int)≤9223372036854775807) (oc (qj _ _:st ([]:TX)++st (Lib.repeatL ([65]:TX) ((min m 7).toNat))=st (([]:TX)++(Lib.repeatL ([65]:TX) ((min m 7).toNat)))) (oi (x+1) (by omega) (zY 432 (zz (x+1) (by omega) (by omega)) (oc (by first|omega|(simp <;> omega):(((([]:TX)++(Lib.repeatL ([65]:TX) ((min m 7).toNat))).length+(Lib.itoa (x+1)).length:Nat):Int)≤9223372036854775807) (oc (qj _ _:st (([]:TX)++(Lib.repeatL ([65]:TX) ((min m 7).toNat)))++st (Lib.itoa (x+1))=st ((([]:TX)++(Lib.repeatL ([65]:TX) ((min m 7).toNat)))++(Lib.itoa (x+1)))) oz)))))) ?_
   rw [yX (s:=s) (h:=h) h1 (by omega) (Eq.trans (by rw [← hx,← hy]) (yQ (by rw [← hm];exact (ZJ h29)) h30))]
   exact zN hc0 [2,3] []
  refine qW (zP h29)<|qA ?_
  by_cases h31:m=0
  ·refine zE qD (gy 3 2++[(5,.gd true (.call [] [(iv x)] [] (bv (zL x)) [])),(6,.yes true)]) [.k3,.d,.n,.r] [ps 58 (bv (zL x))] (on 3 (zR h31) (zY 368 (yN x (by omega)) (oc (zR h31) oz))) ?_
   by_cases h32:(zL x)=true
   ·refine qU (b:=(zL x)) rfl h32<|qL qD [.k2,.d,.n,.d,.r] [ps 8 (sv (st ([80]:TX)))]<|zM<|qA<|qA<|qL qD [.k3,.n,.r] [ps 82 (bv false)]<|zD (b:=false) rfl rfl<|qF<|qA<|zU qD [(2,.val (.av (.string (st (([]:TX)++([80]:TX)))))),(6,.call [] [(iv (x+1))] [] (sv (st (Lib.itoa (x+1)))) []),(7,.val (.av (.string (st ((([]:TX)++([80]:TX))++(Lib.itoa (x+1)))))))] [ps 2 (sv (st ((([]:TX)++([80]:TX))++(Lib.itoa (x+1))))),ps 3 (iv 0)] (oc (by first|omega|(simp <;> omega):((([]:TX).length+([80]:TX).length:Nat):Int)≤9223372036854775807) (oc (qj _ _:st ([]:TX)++st ([80]:TX)=st (([]:TX)++([80]:TX))) (oi (x+1) (by omega) (zY 472 (zz (x+1) (by omega) (by omega)) (oc (by first|omega|(simp <;> omega):(((([]:TX)++([80]:TX)).length+(Lib.itoa (x+1)).length:Nat):Int)≤9223372036854775807) (oc (qj _ _:st (([]:TX)++([80]:TX))++st (Lib.itoa (x+1))=st ((([]:TX)++([80]:TX))++(Lib.itoa (x+1)))) oz)))))) ?_
    rw [yX (s:=s) (h:=h) h1 (by omega) (Eq.trans (by rw [← hx,← hy]) (yQ (q:=[80]) (by rw [← hm];exact (qgz h31 h32)) (by decide)))]
    exact zN hc0 [2,3] []
   refine zD (b:=(zL x)) rfl (Bool.eq_false_iff.2 h32)<|qA<|qL qD [.k3,.d,.n,.r] [ps 66 (bv (decide (m=0)))]<|qX (zR h31)<|qL qD [.k2,.d,.n,.d,.r] [ps 8 (sv (st ([77]:TX)))]<|zM<|qA<|qA<|qL qD [.k3,.n,.r] [ps 82 (bv false)]<|zD (b:=false) rfl rfl<|qF<|qA<|zU qD [(2,.val (.av (.string (st (([]:TX)++([77]:TX)))))),(6,.call [] [(iv (x+1))] [] (sv (st (Lib.itoa (x+1)))) []),(7,.val (.av (.string (st ((([]:TX)++([77]:TX))++(Lib.itoa (x+1)))))))] [ps 2 (sv (st ((([]:TX)++([77]:TX))++(Lib.itoa (x+1))))),ps 3 (iv 0)] (oc (by first|omega|(simp <;> omega):((([]:TX).length+([77]:TX).length:Nat):Int)≤9223372036854775807) (oc (qj _ _:st ([]:TX)++st ([77]:TX)=st (([]:TX)++([77]:TX))) (oi (x+1) (by omega) (zY 496 (zz (x+1) (by omega) (by omega)) (oc (by first|omega|(simp <;> omega):(((([]:TX)++([77]:TX)).length+(Lib.itoa (x+1)).length:Nat):Int)≤9223372036854775807) (oc (qj _ _:st (([]:TX)++([77]:TX))++st (Lib.itoa (x+1))=st ((([]:TX)++([77]:TX))++(Lib.itoa (x+1)))) oz)))))) ?_
   rw [yX (s:=s) (h:=h) h1 (by omega) (Eq.trans (by rw [← hx,← hy]) (yQ (q:=[77]) (by rw [← hm];exact (qha h31 h32)) (by decide)))]
   exact zN hc0 [2,3] []
  refine zE qD (gn 3 3++[(6,.yes false)]) [.k3,.d,.n,.r] [ps 58 (bv false)] (on 4 (zP h31) oz)<|zD (b:=false) rfl rfl<|qA<|qL qD [.k3,.d,.n,.r] [ps 66 (bv (decide (m=0)))]<|qW (zP h31)<|qA<|yJ qD 2 [.k3,.d,.n,.r] [ps 69 (bv (zL x))] (zY 432 (yN x (by omega)) oz) ?_
  by_cases h33:(zL x)=true
  ·refine qU (b:=(zL x)) rfl h33<|zE qD [(3,.call [] [(sv (st ([100]:TX))),(nv ((min (0-m) 7).toNat))] [] (sv (st (Lib.repeatL ([100]:TX) ((min (0-m) 7).toNat)))) [])] [.k2,.d,.n,.d,.r] [ps 8 (sv (st (Lib.repeatL ([100]:TX) ((min (0-m) 7).toNat))))] (oi (0-m) (by omega) (oc (vz ([100]:TX) ((min (0-m) 7).toNat) (by omega) (by simp only [List.length_cons,List.length_nil];omega)) (oc (congrArg (fun z=>[(sv (st ([100]:TX))),iv z]) (show min (0-m) 7=(((min (0-m) 7).toNat:Nat):Int) from by omega):[(sv (st ([100]:TX))),(iv (min (0-m) 7))]=qT (qY [] 472) [(sv (st ([100]:TX))),(nv ((min (0-m) 7).toNat))]) oz))) ?_
   refine zM<|qA<|qA<|qL qD [.k3,.n,.r] [ps 82 (bv (decide (6<(((Lib.repeatL ([100]:TX) ((min (0-m) 7).toNat)).length:Nat):Int))))] ?_
   by_cases h34:6<(((Lib.repeatL ([100]:TX) ((min (0-m) 7).toNat)).length:Nat):Int)
   ·refine qX (zR h34)<|qA<|zU qD [] [ps 2 se,ps 3 (iv 3)] (oz) ?_
    rw [yX (s:=s) (h:=h) h1 (by omega) (Eq.trans (by rw [← hx,← hy]) (vS (by rw [← hm];exact (VD h29 h31 h33)) h34))]
    exact zN hc0 [2,3] []
   refine qW (zP h34)<|qF<|qA<|zU qD [(2,.val (.av (.string (st (([]:TX)++(Lib.repeatL ([100]:TX) ((min (0-m) 7).toNat))))))),(6,.call [] [(iv (x+1))] [] (sv (st (Lib.itoa (x+1)))) []),(7,.val (.av (.string (st ((([]:TX)++(Lib.repeatL ([100]:TX) ((min (0-m) 7).toNat)))++(Lib.itoa (x+1)))))))] [ps 2 (sv (st ((([]:TX)++(Lib.repeatL ([100]:TX) ((min (0-m) 7).toNat)))++(Lib.itoa (x+1))))),ps 3 (iv 0)] (oc (by first|omega|(simp only [List.length_append,List.length_cons,List.length_nil];omega):((([]:TX).length+(Lib.repeatL ([100]:TX) ((min (0-m) 7).toNat)).length:Nat):Int)≤9223372036854775807) (oc (qj _ _:st ([]:TX)++st (Lib.repeatL ([100]:TX) ((min (0-m) 7).toNat))=st (([]:TX)++(Lib.repeatL ([100]:TX) ((min (0-m) 7).toNat)))) (oi (x+1) (by omega) (zY 560 (zz (x+1) (by omega) (by omega)) (oc (by first|omega|(simp only [List.length_append,List.length_cons,List.length_nil];omega):(((([]:TX)++(Lib.repeatL ([100]:TX) ((min (0-m) 7).toNat))).length+(Lib.itoa (x+1)).length:Nat):Int)≤9223372036854775807) (oc (qj _ _:st (([]:TX)++(Lib.repeatL ([100]:TX) ((min (0-m) 7).toNat)))++st (Lib.itoa (x+1))=st ((([]:TX)++(Lib.repeatL ([100]:TX) ((min (0-m) 7).toNat)))++(Lib.itoa (x+1)))) oz)))))) ?_
   rw [yX (s:=s) (h:=h) h1 (by omega) (Eq.trans (by rw [← hx,← hy]) (yQ (by rw [← hm];exact (VD h29 h31 h33)) h34))]
   exact zN hc0 [2,3] []
  refine zD (b:=(zL x)) rfl (Bool.eq_false_iff.2 h33)<|qA<|qL qD [.k3,.d,.n,.r] [ps 77 (bv (decide (m=(-1))))] ?_
  by_cases h35:m=(-1)
  ·refine qX (zR h35)<|qL qD [.k2,.d,.n,.d,.r] [ps 8 (sv (st ([109]:TX)))]<|zM<|qA<|qA<|qL qD [.k3,.n,.r] [ps 82 (bv false)]<|zD (b:=false) rfl rfl<|qF<|qA<|zU qD [(2,.val (.av (.string (st (([]:TX)++([109]:TX)))))),(6,.call [] [(iv (x+1))] [] (sv (st (Lib.itoa (x+1)))) []),(7,.val (.av (.string (st ((([]:TX)++([109]:TX))++(Lib.itoa (x+1)))))))] [ps 2 (sv (st ((([]:TX)++([109]:TX))++(Lib.itoa (x+1))))),ps 3 (iv 0)] (oc (by first|omega|(simp <;> omega):((([]:TX).length+([109]:TX).length:Nat):Int)≤9223372036854775807) (oc (qj _ _:st ([]:TX)++st ([109]:TX)=st (([]:TX)++([109]:TX))) (oi (x+1) (by omega) (zY 552 (zz (x+1) (by omega) (by omega)) (oc (by first|omega|(simp <;> omega):(((([]:TX)++([109]:TX)).length+(Lib.itoa (x+1)).length:Nat):Int)≤9223372036854775807) (oc (qj _ _:st (([]:TX)++([109]:TX))++st (Lib.itoa (x+1))=st ((([]:TX)++([109]:TX))++(Lib.itoa (x+1)))) oz)))))) ?_
   rw [yX (s:=s) (h:=h) h1 (by omega) (Eq.trans (by rw [← hx,← hy]) (yQ (q:=[109]) (by rw [← hm];exact (qgy h35 h33)) (by decide)))]
   exact zN hc0 [2,3] []
  refine qW (zP h35)<|zE qD [(4,.call [] [(sv (st ([100]:TX))),(nv ((min ((0-m)-1) 7).toNat))] [] (sv (st (Lib.repeatL ([100]:TX) ((min ((0-m)-1) 7).toNat)))) [])] [.k2,.d,.n,.d,.r] [ps 8 (sv (st (Lib.repeatL ([100]:TX) ((min ((0-m)-1) 7).toNat))))] (oi (0-m) (by omega) (oi ((0-m)-1) (by omega) (oc (vz ([100]:TX) ((min ((0-m)-1) 7).toNat) (by omega) (by simp only [List.length_cons,List.length_nil];omega)) (oc (congrArg (fun z=>[(sv (st ([100]:TX))),iv z]) (show min ((0-m)-1) 7=(((min ((0-m)-1) 7).toNat:Nat):Int) from by omega):[(sv (st ([100]:TX))),(iv (min ((0-m)-1) 7))]=qT (qY [] 504) [(sv (st ([100]:TX))),(nv ((min ((0-m)-1) 7).toNat))]) oz)))) ?_
  refine zM<|qA<|qA<|qL qD [.k3,.n,.r] [ps 82 (bv (decide (6<(((Lib.repeatL ([100]:TX) ((min ((0-m)-1) 7).toNat)).length:Nat):Int))))] ?_
  by_cases h36:6<(((Lib.repeatL ([100]:TX) ((min ((0-m)-1) 7).toNat)).length:Nat):Int)
  ·refine qX (zR h36)<|qA<|zU qD [] [ps 2 se,ps 3 (iv 3)] (oz) ?_
   rw [yX (s:=s) (h:=h) h1 (by omega) (Eq.trans (by rw [← hx,← hy]) (vS (by rw [← hm];exact (ZK h29 h31 h33 h35)) h36))]
   exact zN hc0 [2,3] []
  refine qW (zP h36)<|qF<|qA<|zU qD [(2,.val (.av (.string (st (([]:TX)++(Lib.repeatL ([100]:TX) ((min ((0-m)-1) 7).toNat))))))),(6,.call [] [(iv (x+1))] [] (sv (st (Lib.itoa (x+1)))) []),(7,.val (.av (.string (st ((([]:TX)++(Lib.repeatL ([100]:TX) ((min ((0-m)-1) 7).toNat)))++(Lib.itoa (x+1)))))))] [ps 2 (sv (st ((([]:TX)++(Lib.repeatL ([100]:TX) ((min ((0-m)-1) 7).toNat)))++(Lib.itoa (x+1))))),ps 3 (iv 0)] (oc (by first|omega|(simp only [List.length_append,List.length_cons,List.length_nil];omega):((([]:TX).length+(Lib.repeatL ([100]:TX) ((min ((0-m)-1) 7).toNat)).length:Nat):Int)≤9223372036854775807) (oc (qj _ _:st ([]:TX)++st (Lib.repeatL ([100]:TX) ((min ((0-m)-1) 7).toNat))=st (([]:TX)++(Lib.repeatL ([100]:TX) ((min ((0-m)-1) 7).toNat)))) (oi (x+1) (by omega) (zY 592 (zz (x+1) (by omega) (by omega)) (oc (by first|omega|(simp only [List.length_append,List.length_cons,List.length_nil];omega):(((([]:TX)++(Lib.repeatL ([100]:TX) ((min ((0-m)-1) 7).toNat))).length+(Lib.itoa (x+1)).length:Nat):Int)≤9223372036854775807) (oc (qj _ _:st (([]:TX)++(Lib.repeatL ([100]:TX) ((min ((0-m)-1) 7).toNat)))++st (Lib.itoa (x+1))=st ((([]:TX)++(Lib.repeatL ([100]:TX) ((min ((0-m)-1) 7).toNat)))++(Lib.itoa (x+1)))) oz)))))) ?_
  rw [yX (s:=s) (h:=h) h1 (by omega) (Eq.trans (by rw [← hx,← hy]) (yQ (by rw [← hm];exact (ZK h29 h31 h33 h35)) h36))]
  exact zN hc0 [2,3] []
 refine qX (congrArg Bool.not (Bool.eq_false_iff.2 h1))<|qA<|zU qD [] [ps 2 se,ps 3 (iv 3)] (oz) ?_
 rw [qdu (s:=s) (h:=h) h1]
 exact zN hc0 [2,3] []
theorem item_step (y:It) (lv n:Int) (ihL:∀ (l:List It) (lv n:Int),SizeOf.sizeOf l<SizeOf.sizeOf y→0≤lv→lv≤32→0≤n→n≤4095→jH l→l.length≤140737488351232→PC Tryz.prog 24 [.opt 0 0,.ssl (zT l) 0 l.length,iv lv] [(67,[iv n])] (bv (decide ((wL l lv n).1=true∧0<l.length))) [some (67,[iv (wL l lv n).2])]) (hlv0:0≤lv) (hlv1:lv≤32) (hn0:0≤n) (hn1:n≤4095) (hfx:YZ y):PC Tryz.prog 58 [(.opt 0 0),(.agg [(iv (iK y)),(iv (iS y)),(.ssl (yI (iP y)) 0 ((iP y).length)),(iv ((iB y).1)),(iv ((iB y).2)),(sv (st (iL y))),(.ssl (zT (iC y)) 0 ((iC y).length))]),(iv lv)] [some (67,[(iv n)])] (bv ((vV y lv n).1)) [some (67,[(iv ((vV y lv n).2))])]:=by
 obtain ⟨hx1,hx2,hx3,hx4,hx5⟩:=(qav y).1 hfx
 refine zZ Tryz.func58 rfl (by kernel_rfl) (Nat.le_of_ble_eq_true rfl) (by kernel_rfl) (l0:=[ps 0 (.opt 0 0),ps 1 (.agg [(iv (iK y)),(iv (iS y)),(.ssl (yI (iP y)) 0 ((iP y).length)),(iv ((iB y).1)),(iv ((iB y).2)),(sv (st (iL y))),(.ssl (zT (iC y)) 0 ((iC y).length))]),ps 2 (iv lv),pb 0 67 [(iv n)]]) rfl (fun c0 Bor hc0=>?_)
 refine qA<|qL qD [.k1,.d,.k1,.n,.k1,.n] [ps 4 (.opt 1 0),pb 1 50 [(iv (iK y)),(iv (iS y)),(.ssl (yI (iP y)) 0 ((iP y).length)),(iv ((iB y).1)),(iv ((iB y).2)),(sv (st (iL y))),(.ssl (zT (iC y)) 0 ((iC y).length))]]<|qA<|qA<|zE qD [] [.k3,.d,.n,.r] [pb 0 67 [(iv (n-1))]] (oi (n-1) (by omega) oz)<|qA ?_
 by_cases h1:(n-1)<0
 ·refine zE qD (gy 6 2++[(8,.yes true)]++gy 10 3++gy 15 3) [.k3,.n,.r] [ps 37 (bv true)] (on 3 (zR h1) (on 6 tt oz))<|qU (b:=true) rfl rfl<|qA<|zU qD [] [ps 6 (bv false),pb 0 67 [(iv (n-1))]] (oz) ?_
  have hT:vV y lv n=(false,(n-1)):=by rw [yW];(repeat (first|rw [if_pos (by omega)]|rw [if_neg (by omega)]|rw [if_pos (by assumption)]|rw [if_neg (by assumption)]))
  rw [hT]
  exact zN hc0 [6] [0] (hbk:=by exact oc rfl (oz))
 by_cases h2:31<lv
 ·refine zE qD (gn 6 2++[(8,.yes false)]++gy 10 3++[(13,.yes true)]++gy 15 3) [.k3,.n,.r] [ps 37 (bv true)] (on 3 (zP h1) (on 4 (zR h2) (on 3 tt oz)))<|qU (b:=true) rfl rfl<|qA<|zU qD [] [ps 6 (bv false),pb 0 67 [(iv (n-1))]] (oz) ?_
  have hT:vV y lv n=(false,(n-1)):=by rw [yW];(repeat (first|rw [if_pos (by omega)]|rw [if_neg (by omega)]|rw [if_pos (by assumption)]|rw [if_neg (by assumption)]))
  rw [hT]
  exact zN hc0 [6] [0] (hbk:=by exact oc rfl (oz))
 by_cases h3:(iS y)<1
 ·refine zE qD (gn 6 2++[(8,.yes false)]++gn 10 3++[(13,.yes false)]++gy 15 3++[(18,.yes true)]) [.k3,.n,.r] [ps 37 (bv true)] (on 3 (zP h1) (on 4 (zP h2) (on 4 (zR h3) oz)))<|qU (b:=true) rfl rfl<|qA<|zU qD [] [ps 6 (bv false),pb 0 67 [(iv (n-1))]] (oz) ?_
  have hT:vV y lv n=(false,(n-1)):=by rw [yW];(repeat (first|rw [if_pos (by omega)]|rw [if_neg (by omega)]|rw [if_pos (by assumption)]|rw [if_neg (by assumption)]))
  rw [hT]
  exact zN hc0 [6] [0] (hbk:=by exact oc rfl (oz))
 refine zE qD (gn 6 2++[(8,.yes false)]++gn 10 3++[(13,.yes false)]++gn 15 3++[(18,.yes false)]) [.k3,.n,.r] [ps 37 (bv (decide (65536<(iS y))))] (on 3 (zP h1) (on 4 (zP h2) (on 4 (zP h3) oz))) ?_
 by_cases h4:65536<(iS y)
 ·refine qX (zR h4)<|qA<|zU qD [] [ps 6 (bv false),pb 0 67 [(iv (n-1))]] (oz) ?_
  have hT:vV y lv n=(false,(n-1)):=by rw [yW];(repeat (first|rw [if_pos (by omega)]|rw [if_neg (by omega)]|rw [if_pos (by assumption)]|rw [if_neg (by assumption)]))
  rw [hT]
  exact zN hc0 [6] [0] (hbk:=by exact oc rfl (oz))
 refine qW (zP h4)<|qF<|qA<|qL qD [.k3,.n,.d,.k2,.n] [ps 7 (.opt 241 0),pb 241 41 [(iv 0),(iv 0)]]<|qA<|qA<|qL qD [.k4,.n,.r] [ps 40 (iv (iK y))]<|zI<|qA<|qL qD [.k5,.n,.r] [ps 41 (bv (decide ((iK y)=1)))] ?_
 by_cases h5:(iK y)=1
 ·refine qX (zR h5)<|qA<|qA ?_
  by_cases h6:(((iP y).length:Nat):Int)=0
  ·refine zE qD (gy 5 4++[(9,.yes true)]++gy 11 4++gy 17 4) [.d,.d,.k1,.d,.d,.d,.n,.k2,.d] [ps 64 (bv true)] (on 5 (zR h6) (on 8 tt oz))<|qU (b:=true) rfl rfl<|qA<|qL qD [.d,.n,.d,.k1,.d] [ps 6 (bv false)] ?_
   have hT:vV y lv n=(false,(n-1)):=by rw [yW];(repeat (first|rw [if_pos (by omega)]|rw [if_neg (by omega)]|rw [if_pos (by assumption)]|rw [if_neg (by assumption)]));rw [show vw y=false from by unfold vw;(repeat (first|rw [if_pos (by omega)]|rw [if_neg (by omega)]|rw [if_pos (by assumption)]|rw [if_neg (by assumption)]))]
   rw [hT]
   exact zN hc0 [6] [0] (hbk:=by exact oc rfl (oz))
  by_cases h7:16<(((iP y).length:Nat):Int)
  ·refine zE qD (gn 5 4++[(9,.yes false)]++gy 11 4++[(15,.yes true)]++gy 17 4) [.d,.d,.k1,.d,.d,.d,.n,.k2,.d] [ps 64 (bv true)] (on 5 (zP h6) (on 5 (zR h7) (on 4 tt oz)))<|qU (b:=true) rfl rfl<|qA<|qL qD [.d,.n,.d,.k1,.d] [ps 6 (bv false)] ?_
   have hT:vV y lv n=(false,(n-1)):=by rw [yW];(repeat (first|rw [if_pos (by omega)]|rw [if_neg (by omega)]|rw [if_pos (by assumption)]|rw [if_neg (by assumption)]));rw [show vw y=false from by unfold vw;(repeat (first|rw [if_pos (by omega)]|rw [if_neg (by omega)]|rw [if_pos (by assumption)]|rw [if_neg (by assumption)]))]
   rw [hT]
   exact zN hc0 [6] [0] (hbk:=by exact oc rfl (oz))
  by_cases h8:0<(((iC y).length:Nat):Int)
  ·refine zE qD (gn 5 4++[(9,.yes false)]++gn 11 4++[(15,.yes false)]++gy 17 4++[(21,.yes true)]) [.d,.d,.k1,.d,.d,.d,.n,.k2,.d] [ps 64 (bv true)] (on 5 (zP h6) (on 5 (zP h7) (on 5 (zR h8) oz)))<|qU (b:=true) rfl rfl<|qA<|qL qD [.d,.n,.d,.k1,.d] [ps 6 (bv false)] ?_
   have hT:vV y lv n=(false,(n-1)):=by rw [yW];(repeat (first|rw [if_pos (by omega)]|rw [if_neg (by omega)]|rw [if_pos (by assumption)]|rw [if_neg (by assumption)]));rw [show vw y=false from by unfold vw;(repeat (first|rw [if_pos (by omega)]|rw [if_neg (by omega)]|rw [if_pos (by assumption)]|rw [if_neg (by assumption)]))]
   rw [hT]
   exact zN hc0 [6] [0] (hbk:=by exact oc rfl (oz))
  refine zE qD (gn 5 4++[(9,.yes false)]++gn 11 4++[(15,.yes false)]++gn 17 4++[(21,.yes false)]) [.d,.d,.k1,.d,.d,.d,.n,.k2,.d] [ps 64 (bv (!((decide (((iB y).1)=0)) && (decide (((iB y).2)=0)))))] (on 5 (zP h6) (on 5 (zP h7) (on 5 (zP h8) oz))) ?_
  by_cases h9:((decide (((iB y).1)=0)) && (decide (((iB y).2)=0)))=true
  ·refine qW (congrArg Bool.not h9)<|qF<|qA<|qA<|qL qD [.k1,.d,.n,.n,.n,.r] [ps 66 (.ssl (yI (iP y)) 0 ((iP y).length)),ps 67 (nv ((iP y).length)),ps 68 (iv 0)]<|zI<|vW (α:={x:Nat // x≤(iP y).length∧(∀ i,i<x→rb ((iP y).getD i yO)=true)}) (fun x=>[ps 4 (.opt 1 0),ps 66 (.ssl (yI (iP y)) 0 ((iP y).length)),ps 67 (nv ((iP y).length)),ps 68 (nv x.1),pb 0 67 [(iv (n-1))],pb 1 50 [(iv (iK y)),(iv (iS y)),(.ssl (yI (iP y)) 0 ((iP y).length)),(iv ((iB y).1)),(iv ((iB y).2)),(sv (st (iL y))),(.ssl (zT (iC y)) 0 ((iC y).length))]]) (fun x=>(iP y).length-x.1) 2 ⟨0,⟨Nat.zero_le _,fun i hi=>absurd hi (Nat.not_lt_zero i)⟩⟩ (Wk.ren2 _ 1 hc0 [0,1] rfl rfl (by kernel_rfl) (by kernel_rfl)) ?_
   rintro ⟨j,⟨hj,hin⟩⟩
   refine qA<|zU qD [] [ps 4 (.opt 1 0),ps 66 (.ssl (yI (iP y)) 0 ((iP y).length)),ps 67 (nv ((iP y).length)),ps 68 (nv j),ps 69 (bv (decide (((j:Nat):Int)<(((iP y).length:Nat):Int)))),pb 0 67 [(iv (n-1))],pb 1 50 [(iv (iK y)),(iv (iS y)),(.ssl (yI (iP y)) 0 ((iP y).length)),(iv ((iB y).1)),(iv ((iB y).2)),(sv (st (iL y))),(.ssl (zT (iC y)) 0 ((iC y).length))]] (oz)<|qA ?_
   by_cases h10:(j:Int)<(((iP y).length:Nat):Int)
   ·refine qX (zR h10)<|qF<|qA<|zI<|qA<|zE qD [(0,.nat (j*3)),(1,.cells [(iv (((iP y).getD j yO).1)),(iv (((iP y).getD j yO).2.1)),(iv (((iP y).getD j yO).2.2))])] [.k1,.n,.k3,.d,.k2,.n] [ps 9 (.opt 26 0),pb 26 52 [(iv (((iP y).getD j yO).1)),(iv (((iP y).getD j yO).2.1)),(iv (((iP y).getD j yO).2.2))]] (oc (by omega:(0:Int)≤(j:Int)∧(j:Int)<(((iP y).length:Nat):Int)) (oc (by omega:0+(((j:Nat):Int):Int).toNat*3=(j*3)) (oc (vN ptC 3 (fun _=>rfl) yO (iP y) j 0 3 (by omega) (by decide):(j*3)+3≤((yI (iP y))).length∧(((yI (iP y))).drop (j*3)).take 3=[(iv (((iP y).getD j yO).1)),(iv (((iP y).getD j yO).2.1)),(iv (((iP y).getD j yO).2.2))]) oz))) ?_
    refine qA<|yJ qD 1 [.k1,.d,.k3,.n,.k2,.d] [ps 74 (bv (!(Pi.rightB (((iP y).getD j yO).1) (((iP y).getD j yO).2.1) (((iP y).getD j yO).2.2))))] (zY 50 (VW (((iP y).getD j yO).1) (((iP y).getD j yO).2.1) (((iP y).getD j yO).2.2)) oz) ?_
    by_cases h11:(Pi.rightB (((iP y).getD j yO).1) (((iP y).getD j yO).2.1) (((iP y).getD j yO).2.2))=true
    ·refine qW (congrArg Bool.not h11)<|qF<|zM<|zE qD [] [.k3,.d,.n,.d,.r] [ps 68 (iv (((j:Nat):Int)+1))] (oi (((j:Nat):Int)+1) (by omega) oz) ?_
     exact vH ⟨j+1,⟨by show j+1≤(iP y).length;omega,by show ∀ i,i<j+1→rb ((iP y).getD i yO)=true;intro i hi;by_cases hij:i<j;exact hin i hij;rw [show i=j from by omega];exact h11⟩⟩ (Wk.trans (Wk.eq (show _=[ps 4 (.opt 1 0),ps 66 (.ssl (yI (iP y)) 0 ((iP y).length)),ps 67 (nv ((iP y).length)),ps 68 (nv (j+1)),pb 0 67 [(iv (n-1))],pb 1 50 [(iv (iK y)),(iv (iS y)),(.ssl (yI (iP y)) 0 ((iP y).length)),(iv ((iB y).1)),(iv ((iB y).2)),(sv (st (iL y))),(.ssl (zT (iC y)) 0 ((iC y).length))]] from by rfl)) (Wk.ren2 _ 1 hc0 [0,1] rfl rfl (by kernel_rfl) (by kernel_rfl))) (show (iP y).length-(j+1)<(iP y).length-j from by show (iP y).length-(j+1)<(iP y).length-j;omega)
    refine qX (congrArg Bool.not (Bool.eq_false_iff.2 h11))<|qA<|zU qD [] [ps 6 (bv false),pb 0 67 [(iv (n-1))]] (oz) ?_
    have hall:¬ (iP y).all rb=true:=not_all_rb (show j<(iP y).length from by omega) h11
    have hT:vV y lv n=(false,(n-1)):=by rw [yW];(repeat (first|rw [if_pos (by omega)]|rw [if_neg (by omega)]|rw [if_pos (by assumption)]|rw [if_neg (by assumption)]));rw [show vw y=false from by unfold vw;(repeat (first|rw [if_pos (by omega)]|rw [if_neg (by omega)]|rw [if_pos (by assumption)]|rw [if_neg (by assumption)]))]
    rw [hT]
    exact wV fun cx_ a_ hI_=>yv (rt hc0 [ps 6 (bv false),pb 0 67 [(iv (n-1))]] [0] hI_ (hbk:=by exact oc rfl (oz)))
   refine qW (zP h10)<|vL rfl rfl<|qA ?_
   by_cases h12:(iL y)=([]:TX)
   ·refine zU qD ([(2,.val (.av (.bool (decide ((iL y)=([]:TX))))))]++gy 4 3++[(7,.yes true)]) [ps 6 (bv true),pb 0 67 [(iv (n-1))]] (oc (zj _ _:((st (iL y)).toList == (st ([]:TX)).toList)=decide ((iL y)=([]:TX))) (on 4 (zR h12) oz)) ?_
    have hall:(iP y).all rb=true:=all_rb (fun i hi=>hin i (by omega))
    have hT:vV y lv n=(true,(n-1)):=by rw [yW];(repeat (first|rw [if_pos (by omega)]|rw [if_neg (by omega)]|rw [if_pos (by assumption)]|rw [if_neg (by assumption)]));rw [show vw y=true from by unfold vw;(repeat (first|rw [if_pos (by omega)]|rw [if_neg (by omega)]|rw [if_pos (by assumption)]|rw [if_neg (by assumption)]))]
    rw [hT]
    exact zN hc0 [6] [0] (hbk:=by exact oc rfl (oz))
   refine zU qD ([(2,.val (.av (.bool (decide ((iL y)=([]:TX))))))]++gn 4 2++[(6,.gd false (.call [] [(sv (st (iL y)))] [] (bv (wA (iL y))) [])),(7,.yes false)]) [ps 6 (bv (wA (iL y))),pb 0 67 [(iv (n-1))]] (oc (zj _ _:((st (iL y)).toList == (st ([]:TX)).toList)=decide ((iL y)=([]:TX))) (on 3 (zP h12) (zY 58 (sung_pc (iL y) hx3) (oc (zP h12) oz)))) ?_
   have hall:(iP y).all rb=true:=all_rb (fun i hi=>hin i (by omega))
   have hT:vV y lv n=((wA (iL y)),(n-1)):=by rw [yW];(repeat (first|rw [if_pos (by omega)]|rw [if_neg (by omega)]|rw [if_pos (by assumption)]|rw [if_neg (by assumption)]));rw [show vw y=(wA (iL y)) from by unfold vw;(repeat (first|rw [if_pos (by omega)]|rw [if_neg (by omega)]|rw [if_pos (by assumption)]|rw [if_neg (by assumption)]))]
   rw [hT]
   exact zN hc0 [6] [0] (hbk:=by exact oc rfl (oz))
  refine qX (congrArg Bool.not (Bool.eq_false_iff.2 h9))<|qA<|qL qD [.d,.n,.d,.k1,.d] [ps 6 (bv false)] ?_
  have hT:vV y lv n=(false,(n-1)):=by rw [yW];(repeat (first|rw [if_pos (by omega)]|rw [if_neg (by omega)]|rw [if_pos (by assumption)]|rw [if_neg (by assumption)]));rw [show vw y=false from by unfold vw;(repeat (first|rw [if_pos (by omega)]|rw [if_neg (by omega)]|rw [if_pos (by assumption)]|rw [if_neg (by assumption)]))]
  rw [hT]
  exact zN hc0 [6] [0] (hbk:=by exact oc rfl (oz))
 refine qW (zP h5)<|qA<|qA<|qL qD [.k5,.d,.n,.r] [ps 84 (bv (decide ((iK y)=2)))] ?_
 by_cases h13:(iK y)=2
 ·refine qX (zR h13)<|qF<|qX (zR h13)<|qA ?_
  by_cases h14:(((iP y).length:Nat):Int)=0
  ·by_cases h15:(((iC y).length:Nat):Int)=0
   ·by_cases h16:(iL y)=([]:TX)
    ·refine zU qD (gy 5 4++[(9,.yes true)]++gy 11 2++[(13,.gd true (.val (.av (.bool (decide ((iL y)=([]:TX))))))),(14,.yes true)]++gy 16 4++[(20,.yes true)]) [ps 6 (bv ((decide (((iB y).1)=0)) && (decide (((iB y).2)=0)))),pb 0 67 [(iv (n-1))]] (on 5 (zR h14) (on 3 (zR h15) (oc (zj _ _:((st (iL y)).toList == (st ([]:TX)).toList)=decide ((iL y)=([]:TX))) (oc (zR h15) (on 5 (zR h16) oz))))) ?_
     have hT:vV y lv n=(((decide (((iB y).1)=0)) && (decide (((iB y).2)=0))),(n-1)):=by rw [yW];(repeat (first|rw [if_pos (by omega)]|rw [if_neg (by omega)]|rw [if_pos (by assumption)]|rw [if_neg (by assumption)]));rw [show vZ y=((decide (((iB y).1)=0)) && (decide (((iB y).2)=0))) from by unfold vZ;(repeat (first|rw [if_pos (by omega)]|rw [if_neg (by omega)]|rw [if_pos (by assumption)]|rw [if_neg (by assumption)]))]
     rw [hT]
     exact zN hc0 [6] [0] (hbk:=by exact oc rfl (oz))
    refine zU qD (gy 5 4++[(9,.yes true)]++gy 11 2++[(13,.gd true (.val (.av (.bool (decide ((iL y)=([]:TX))))))),(14,.yes true)]++gn 16 4++[(20,.yes false)]) [ps 6 (bv false),pb 0 67 [(iv (n-1))]] (on 5 (zR h14) (on 3 (zR h15) (oc (zj _ _:((st (iL y)).toList == (st ([]:TX)).toList)=decide ((iL y)=([]:TX))) (oc (zR h15) (on 5 (zP h16) oz))))) ?_
    have hT:vV y lv n=(false,(n-1)):=by rw [yW];(repeat (first|rw [if_pos (by omega)]|rw [if_neg (by omega)]|rw [if_pos (by assumption)]|rw [if_neg (by assumption)]));rw [show vZ y=false from by unfold vZ;(repeat (first|rw [if_pos (by omega)]|rw [if_neg (by omega)]|rw [if_pos (by assumption)]|rw [if_neg (by assumption)]))]
    rw [hT]
    exact zN hc0 [6] [0] (hbk:=by exact oc rfl (oz))
   refine zU qD (gy 5 4++[(9,.yes true)]++gn 11 3++[(14,.yes false)]++gn 16 4) [ps 6 (bv false),pb 0 67 [(iv (n-1))]] (on 5 (zR h14) (on 4 (zP h15) (on 4 ff oz))) ?_
   have hT:vV y lv n=(false,(n-1)):=by rw [yW];(repeat (first|rw [if_pos (by omega)]|rw [if_neg (by omega)]|rw [if_pos (by assumption)]|rw [if_neg (by assumption)]));rw [show vZ y=false from by unfold vZ;(repeat (first|rw [if_pos (by omega)]|rw [if_neg (by omega)]|rw [if_pos (by assumption)]|rw [if_neg (by assumption)]))]
   rw [hT]
   exact zN hc0 [6] [0] (hbk:=by exact oc rfl (oz))
  refine zU qD (gn 5 4++[(9,.yes false)]++gn 11 3++gn 16 4) [ps 6 (bv false),pb 0 67 [(iv (n-1))]] (on 5 (zP h14) (on 7 ff oz)) ?_
  have hT:vV y lv n=(false,(n-1)):=by rw [yW];(repeat (first|rw [if_pos (by omega)]|rw [if_neg (by omega)]|rw [if_pos (by assumption)]|rw [if_neg (by assumption)]));rw [show vZ y=false from by unfold vZ;(repeat (first|rw [if_pos (by omega)]|rw [if_neg (by omega)]|rw [if_pos (by assumption)]|rw [if_neg (by assumption)]))]
  rw [hT]
  exact zN hc0 [6] [0] (hbk:=by exact oc rfl (oz))
 refine qW (zP h13)<|qL qD [.k5,.d,.n,.r] [ps 84 (bv (decide ((iK y)=3)))] ?_
 by_cases h17:(iK y)=3
 ·refine qX (zR h17)<|qA ?_
  by_cases h18:(((iP y).length:Nat):Int)=0
  ·by_cases h19:(((iC y).length:Nat):Int)=0
   ·by_cases h20:(iL y)=([]:TX)
    ·refine zU qD (gy 5 4++[(9,.yes true)]++gy 11 2++[(13,.gd true (.val (.av (.bool (decide ((iL y)=([]:TX))))))),(14,.yes true)]++gy 16 4++[(20,.yes true)]) [ps 6 (bv ((decide (((iB y).1)=0)) && (decide (((iB y).2)=0)))),pb 0 67 [(iv (n-1))]] (on 5 (zR h18) (on 3 (zR h19) (oc (zj _ _:((st (iL y)).toList == (st ([]:TX)).toList)=decide ((iL y)=([]:TX))) (oc (zR h19) (on 5 (zR h20) oz))))) ?_
     have hT:vV y lv n=(((decide (((iB y).1)=0)) && (decide (((iB y).2)=0))),(n-1)):=by rw [yW];(repeat (first|rw [if_pos (by omega)]|rw [if_neg (by omega)]|rw [if_pos (by assumption)]|rw [if_neg (by assumption)]));rw [show vZ y=((decide (((iB y).1)=0)) && (decide (((iB y).2)=0))) from by unfold vZ;(repeat (first|rw [if_pos (by omega)]|rw [if_neg (by omega)]|rw [if_pos (by assumption)]|rw [if_neg (by assumption)]))]
     rw [hT]
     exact zN hc0 [6] [0] (hbk:=by exact oc rfl (oz))
    refine zU qD (gy 5 4++[(9,.yes true)]++gy 11 2++[(13,.gd true (.val (.av (.bool (decide ((iL y)=([]:TX))))))),(14,.yes true)]++gn 16 4++[(20,.yes false)]) [ps 6 (bv false),pb 0 67 [(iv (n-1))]] (on 5 (zR h18) (on 3 (zR h19) (oc (zj _ _:((st (iL y)).toList == (st ([]:TX)).toList)=decide ((iL y)=([]:TX))) (oc (zR h19) (on 5 (zP h20) oz))))) ?_
    have hT:vV y lv n=(false,(n-1)):=by rw [yW];(repeat (first|rw [if_pos (by omega)]|rw [if_neg (by omega)]|rw [if_pos (by assumption)]|rw [if_neg (by assumption)]));rw [show vZ y=false from by unfold vZ;(repeat (first|rw [if_pos (by omega)]|rw [if_neg (by omega)]|rw [if_pos (by assumption)]|rw [if_neg (by assumption)]))]
    rw [hT]
    exact zN hc0 [6] [0] (hbk:=by exact oc rfl (oz))
   refine zU qD (gy 5 4++[(9,.yes true)]++gn 11 3++[(14,.yes false)]++gn 16 4) [ps 6 (bv false),pb 0 67 [(iv (n-1))]] (on 5 (zR h18) (on 4 (zP h19) (on 4 ff oz))) ?_
   have hT:vV y lv n=(false,(n-1)):=by rw [yW];(repeat (first|rw [if_pos (by omega)]|rw [if_neg (by omega)]|rw [if_pos (by assumption)]|rw [if_neg (by assumption)]));rw [show vZ y=false from by unfold vZ;(repeat (first|rw [if_pos (by omega)]|rw [if_neg (by omega)]|rw [if_pos (by assumption)]|rw [if_neg (by assumption)]))]
   rw [hT]
   exact zN hc0 [6] [0] (hbk:=by exact oc rfl (oz))
  refine zU qD (gn 5 4++[(9,.yes false)]++gn 11 3++gn 16 4) [ps 6 (bv false),pb 0 67 [(iv (n-1))]] (on 5 (zP h18) (on 7 ff oz)) ?_
  have hT:vV y lv n=(false,(n-1)):=by rw [yW];(repeat (first|rw [if_pos (by omega)]|rw [if_neg (by omega)]|rw [if_pos (by assumption)]|rw [if_neg (by assumption)]));rw [show vZ y=false from by unfold vZ;(repeat (first|rw [if_pos (by omega)]|rw [if_neg (by omega)]|rw [if_pos (by assumption)]|rw [if_neg (by assumption)]))]
  rw [hT]
  exact zN hc0 [6] [0] (hbk:=by exact oc rfl (oz))
 refine qW (zP h17)<|qA<|qA<|qL qD [.k5,.d,.n,.r] [ps 108 (bv (decide ((iK y)=4)))] ?_
 by_cases h21:(iK y)=4
 ·refine qX (zR h21)<|qF<|qX (zR h21)<|qA<|qA ?_
  by_cases h22:(((iC y).length:Nat):Int)=0
  ·refine zE qD (gy 5 4++[(9,.yes true)]++gy 11 3++gy 16 4++[(24,.gd true .no)]) [.k3,.d,.d,.d,.n,.k2,.d] [ps 136 (bv true)] (on 5 (zR h22) (on 8 tt oz))<|qU (b:=true) rfl rfl<|qA<|zU qD [] [ps 6 (bv false),pb 0 67 [(iv (n-1))]] (oz) ?_
   have hT:vV y lv n=(false,(n-1)):=by rw [yW];(repeat (first|rw [if_pos (by omega)]|rw [if_neg (by omega)]|rw [if_pos (by assumption)]|rw [if_neg (by assumption)]));rw [if_neg (show ¬ yS y=true from by unfold yS;(repeat (first|rw [if_pos (by omega)]|rw [if_neg (by omega)]|rw [if_pos (by assumption)]|rw [if_neg (by assumption)]));simp [*])]
   rw [hT]
   exact zN hc0 [6] [0] (hbk:=by exact oc rfl (oz))
  by_cases h23:0<(((iP y).length:Nat):Int)
  ·refine zE qD (gn 5 4++[(9,.yes false)]++gy 11 3++[(14,.yes true)]++gy 16 4++[(24,.gd true .no)]) [.k3,.d,.d,.d,.n,.k2,.d] [ps 136 (bv true)] (on 5 (zP h22) (on 4 (zR h23) (on 5 tt oz)))<|qU (b:=true) rfl rfl<|qA<|zU qD [] [ps 6 (bv false),pb 0 67 [(iv (n-1))]] (oz) ?_
   have hT:vV y lv n=(false,(n-1)):=by rw [yW];(repeat (first|rw [if_pos (by omega)]|rw [if_neg (by omega)]|rw [if_pos (by assumption)]|rw [if_neg (by assumption)]));rw [if_neg (show ¬ yS y=true from by unfold yS;(repeat (first|rw [if_pos (by omega)]|rw [if_neg (by omega)]|rw [if_pos (by assumption)]|rw [if_neg (by assumption)]));simp [*])]
   rw [hT]
   exact zN hc0 [6] [0] (hbk:=by exact oc rfl (oz))
  by_cases h24:(iL y)=([]:TX)
  ·refine zE qD (gn 5 4++[(9,.yes false)]++gn 11 2++[(13,.gd false (.val (.av (.bool (!decide ((iL y)=([]:TX))))))),(14,.yes false)]++gn 16 4++gy 20 4++[(24,.gd false (.yes true)),(25,.yes false)]) [.k3,.d,.d,.d,.n,.k2,.d] [ps 136 (bv (!((decide (((iB y).1)=0)) && (decide (((iB y).2)=0)))))] (on 5 (zP h22) (on 3 (zP h23) (oc (zw _ _:(!((st (iL y)).toList == (st ([]:TX)).toList)) = !decide ((iL y)=([]:TX))) (oc (zP h23) (on 4 (bt h24) (on 4 (zR h21) (oc (bt h24) (oc (zR h21) (oc (bt h24) oz))))))))) ?_
   by_cases h25:((decide (((iB y).1)=0)) && (decide (((iB y).2)=0)))=true
   ·refine qW (congrArg Bool.not h25)<|qF<|qA<|qA<|yJ qD 2 [.k3,.n,.d,.r] [ps 11 (iv ((qE ((iB y).1) ((iB y).2)).2))] (zY 561 (zx (iB y).1 (iB y).2 hx1.1 hx1.2) oz)<|qA<|qL qD [.k3,.d,.n,.r] [ps 144 (bv (!(decide (((qE ((iB y).1) ((iB y).2)).2)=0))))] ?_
    by_cases h26:((qE ((iB y).1) ((iB y).2)).2)=0
    ·refine qW (bt h26)<|qF<|qA<|zU qD [(5,.call [0] [(.opt 0 0),(.ssl (zT (iC y)) 0 ((iC y).length)),(iv (lv+1))] [some (67,[(iv (n-1))])] (bv (decide ((wL (iC y) (lv+1) (n-1)).1=true∧0<(iC y).length))) [some (67,[(iv ((wL (iC y) (lv+1) (n-1)).2))])])] [ps 6 (bv (decide ((wL (iC y) (lv+1) (n-1)).1=true∧0<(iC y).length))),pb 0 67 [(iv ((wL (iC y) (lv+1) (n-1)).2))]] (oi (lv+1) (by omega) (wM [0] 665 (ihL (iC y) (lv+1) (n-1) (VG y) (by omega) (by omega) (by omega) (by omega) hx5 (by omega)) oz)) ?_
     have hT:vV y lv n=((decide ((wL (iC y) (lv+1) (n-1)).1=true∧0<(iC y).length)),((wL (iC y) (lv+1) (n-1)).2)):=by rw [yW];(repeat (first|rw [if_pos (by omega)]|rw [if_neg (by omega)]|rw [if_pos (by assumption)]|rw [if_neg (by assumption)]));rw [if_pos (show yS y=true from by unfold yS;(repeat (first|rw [if_pos (by omega)]|rw [if_neg (by omega)]|rw [if_pos (by assumption)]|rw [if_neg (by assumption)]));simp [*])];exact itb (by omega)
     rw [hT]
     exact zN hc0 [6] [0] (hbk:=by exact oc rfl (oz))
    refine qX (bf h26)<|qA<|zU qD [] [ps 6 (bv false),pb 0 67 [(iv (n-1))]] (oz) ?_
    have hT:vV y lv n=(false,(n-1)):=by rw [yW];(repeat (first|rw [if_pos (by omega)]|rw [if_neg (by omega)]|rw [if_pos (by assumption)]|rw [if_neg (by assumption)]));rw [if_neg (show ¬ yS y=true from by unfold yS;(repeat (first|rw [if_pos (by omega)]|rw [if_neg (by omega)]|rw [if_pos (by assumption)]|rw [if_neg (by assumption)]));simp [*])]
    rw [hT]
    exact zN hc0 [6] [0] (hbk:=by exact oc rfl (oz))
   refine qX (congrArg Bool.not (Bool.eq_false_iff.2 h25))<|qA<|zU qD [] [ps 6 (bv false),pb 0 67 [(iv (n-1))]] (oz) ?_
   have hT:vV y lv n=(false,(n-1)):=by rw [yW];(repeat (first|rw [if_pos (by omega)]|rw [if_neg (by omega)]|rw [if_pos (by assumption)]|rw [if_neg (by assumption)]));rw [if_neg (show ¬ yS y=true from by unfold yS;(repeat (first|rw [if_pos (by omega)]|rw [if_neg (by omega)]|rw [if_pos (by assumption)]|rw [if_neg (by assumption)]));simp [*])]
   rw [hT]
   exact zN hc0 [6] [0] (hbk:=by exact oc rfl (oz))
  refine zE qD (gn 5 4++[(9,.yes false)]++gn 11 2++[(13,.gd false (.val (.av (.bool (!decide ((iL y)=([]:TX))))))),(14,.yes false)]++gy 16 4++[(24,.gd true .no),(25,.yes true)]) [.k3,.d,.d,.d,.n,.k2,.d] [ps 136 (bv true)] (on 5 (zP h22) (on 3 (zP h23) (oc (zw _ _:(!((st (iL y)).toList == (st ([]:TX)).toList)) = !decide ((iL y)=([]:TX))) (oc (zP h23) (on 6 (bf h24) oz)))))<|qU (b:=true) rfl rfl<|qA<|zU qD [] [ps 6 (bv false),pb 0 67 [(iv (n-1))]] (oz) ?_
  have hT:vV y lv n=(false,(n-1)):=by rw [yW];(repeat (first|rw [if_pos (by omega)]|rw [if_neg (by omega)]|rw [if_pos (by assumption)]|rw [if_neg (by assumption)]));rw [if_neg (show ¬ yS y=true from by unfold yS;(repeat (first|rw [if_pos (by omega)]|rw [if_neg (by omega)]|rw [if_pos (by assumption)]|rw [if_neg (by assumption)]));simp [*])]
  rw [hT]
  exact zN hc0 [6] [0] (hbk:=by exact oc rfl (oz))
 refine qW (zP h21)<|qL qD [.k4,.d,.d,.n,.r] [ps 108 (bv (decide ((iK y)=5)))] ?_
 by_cases h27:(iK y)=5
 ·refine qX (zR h27)<|qA<|qA ?_
  by_cases h28:(((iC y).length:Nat):Int)=0
  ·refine zE qD (gy 5 4++[(9,.yes true)]++gy 11 3++gy 16 4++[(24,.gd true .no)]) [.k3,.d,.d,.n,.k2,.d] [ps 136 (bv true)] (on 5 (zR h28) (on 8 tt oz))<|qU (b:=true) rfl rfl<|qA<|zU qD [] [ps 6 (bv false),pb 0 67 [(iv (n-1))]] (oz) ?_
   have hT:vV y lv n=(false,(n-1)):=by rw [yW];(repeat (first|rw [if_pos (by omega)]|rw [if_neg (by omega)]|rw [if_pos (by assumption)]|rw [if_neg (by assumption)]));rw [if_neg (show ¬ yS y=true from by unfold yS;(repeat (first|rw [if_pos (by omega)]|rw [if_neg (by omega)]|rw [if_pos (by assumption)]|rw [if_neg (by assumption)]));simp [*])]
   rw [hT]
   exact zN hc0 [6] [0] (hbk:=by exact oc rfl (oz))
  by_cases h29:0<(((iP y).length:Nat):Int)
  ·refine zE qD (gn 5 4++[(9,.yes false)]++gy 11 3++[(14,.yes true)]++gy 16 4++[(24,.gd true .no)]) [.k3,.d,.d,.n,.k2,.d] [ps 136 (bv true)] (on 5 (zP h28) (on 4 (zR h29) (on 5 tt oz)))<|qU (b:=true) rfl rfl<|qA<|zU qD [] [ps 6 (bv false),pb 0 67 [(iv (n-1))]] (oz) ?_
   have hT:vV y lv n=(false,(n-1)):=by rw [yW];(repeat (first|rw [if_pos (by omega)]|rw [if_neg (by omega)]|rw [if_pos (by assumption)]|rw [if_neg (by assumption)]));rw [if_neg (show ¬ yS y=true from by unfold yS;(repeat (first|rw [if_pos (by omega)]|rw [if_neg (by omega)]|rw [if_pos (by assumption)]|rw [if_neg (by assumption)]));simp [*])]
   rw [hT]
   exact zN hc0 [6] [0] (hbk:=by exact oc rfl (oz))
  by_cases h30:(iL y)=([]:TX)
  ·refine zE qD (gn 5 4++[(9,.yes false)]++gn 11 2++[(13,.gd false (.val (.av (.bool (!decide ((iL y)=([]:TX))))))),(14,.yes false)]++gn 16 8++[(24,.gd false (.yes false)),(25,.yes false)]) [.k3,.d,.d,.n,.k2,.d] [ps 136 (bv false)] (on 5 (zP h28) (on 3 (zP h29) (oc (zw _ _:(!((st (iL y)).toList == (st ([]:TX)).toList)) = !decide ((iL y)=([]:TX))) (oc (zP h29) (on 4 (bt h30) (on 4 (zP h21) (oc (bt h30) (oc (zP h21) (oc (bt h30) oz)))))))))<|zD (b:=false) rfl rfl<|qF<|qA<|qA<|yJ qD 2 [.k3,.n,.d,.r] [ps 11 (iv ((qE ((iB y).1) ((iB y).2)).2))] (zY 577 (zx (iB y).1 (iB y).2 hx1.1 hx1.2) oz)<|qA<|qL qD [.k3,.d,.n,.r] [ps 144 (bv (!(decide (((qE ((iB y).1) ((iB y).2)).2)=0))))] ?_
   by_cases h31:((qE ((iB y).1) ((iB y).2)).2)=0
   ·refine qW (bt h31)<|qF<|qA<|zU qD [(5,.call [0] [(.opt 0 0),(.ssl (zT (iC y)) 0 ((iC y).length)),(iv (lv+1))] [some (67,[(iv (n-1))])] (bv (decide ((wL (iC y) (lv+1) (n-1)).1=true∧0<(iC y).length))) [some (67,[(iv ((wL (iC y) (lv+1) (n-1)).2))])])] [ps 6 (bv (decide ((wL (iC y) (lv+1) (n-1)).1=true∧0<(iC y).length))),pb 0 67 [(iv ((wL (iC y) (lv+1) (n-1)).2))]] (oi (lv+1) (by omega) (wM [0] 681 (ihL (iC y) (lv+1) (n-1) (VG y) (by omega) (by omega) (by omega) (by omega) hx5 (by omega)) oz)) ?_
    have hT:vV y lv n=((decide ((wL (iC y) (lv+1) (n-1)).1=true∧0<(iC y).length)),((wL (iC y) (lv+1) (n-1)).2)):=by rw [yW];(repeat (first|rw [if_pos (by omega)]|rw [if_neg (by omega)]|rw [if_pos (by assumption)]|rw [if_neg (by assumption)]));rw [if_pos (show yS y=true from by unfold yS;(repeat (first|rw [if_pos (by omega)]|rw [if_neg (by omega)]|rw [if_pos (by assumption)]|rw [if_neg (by assumption)]));simp [*])];exact itb (by omega)
    rw [hT]
    exact zN hc0 [6] [0] (hbk:=by exact oc rfl (oz))
   refine qX (bf h31)<|qA<|zU qD [] [ps 6 (bv false),pb 0 67 [(iv (n-1))]] (oz) ?_
   have hT:vV y lv n=(false,(n-1)):=by rw [yW];(repeat (first|rw [if_pos (by omega)]|rw [if_neg (by omega)]|rw [if_pos (by assumption)]|rw [if_neg (by assumption)]));rw [if_neg (show ¬ yS y=true from by unfold yS;(repeat (first|rw [if_pos (by omega)]|rw [if_neg (by omega)]|rw [if_pos (by assumption)]|rw [if_neg (by assumption)]));simp [*])]
   rw [hT]
   exact zN hc0 [6] [0] (hbk:=by exact oc rfl (oz))
  refine zE qD (gn 5 4++[(9,.yes false)]++gn 11 2++[(13,.gd false (.val (.av (.bool (!decide ((iL y)=([]:TX))))))),(14,.yes false)]++gy 16 4++[(24,.gd true .no),(25,.yes true)]) [.k3,.d,.d,.n,.k2,.d] [ps 136 (bv true)] (on 5 (zP h28) (on 3 (zP h29) (oc (zw _ _:(!((st (iL y)).toList == (st ([]:TX)).toList)) = !decide ((iL y)=([]:TX))) (oc (zP h29) (on 6 (bf h30) oz)))))<|qU (b:=true) rfl rfl<|qA<|zU qD [] [ps 6 (bv false),pb 0 67 [(iv (n-1))]] (oz) ?_
  have hT:vV y lv n=(false,(n-1)):=by rw [yW];(repeat (first|rw [if_pos (by omega)]|rw [if_neg (by omega)]|rw [if_pos (by assumption)]|rw [if_neg (by assumption)]));rw [if_neg (show ¬ yS y=true from by unfold yS;(repeat (first|rw [if_pos (by omega)]|rw [if_neg (by omega)]|rw [if_pos (by assumption)]|rw [if_neg (by assumption)]));simp [*])]
  rw [hT]
  exact zN hc0 [6] [0] (hbk:=by exact oc rfl (oz))
 refine qW (zP h27)<|qF<|zM<|qA<|zU qD [] [ps 6 (bv false),pb 0 67 [(iv (n-1))]] (oz) ?_
 have hT:vV y lv n=(false,(n-1)):=by rw [yW];(repeat (first|rw [if_pos (by omega)]|rw [if_neg (by omega)]|rw [if_pos (by assumption)]|rw [if_neg (by assumption)]))
 rw [hT]
 exact zN hc0 [6] [0] (hbk:=by exact oc rfl (oz))
theorem items_step (l:List It) (lv n:Int) (ihI:∀ (x:It) (lv n:Int),SizeOf.sizeOf x<SizeOf.sizeOf l→0≤lv→lv≤32→0≤n→n≤4095→YZ x→PC Tryz.prog 58 [.opt 0 0,.agg (gI x),iv lv] [(67,[iv n])] (bv (vV x lv n).1) [some (67,[iv (vV x lv n).2])]) (hlv0:0≤lv) (hlv1:lv≤32) (hn0:0≤n) (hn1:n≤4095) (hfl:jH l) (hll:l.length≤140737488351232):PC Tryz.prog 24 [(.opt 0 0),(.ssl (zT l) 0 l.length),(iv lv)] [some (67,[(iv n)])] (bv (decide ((wL l lv n).1=true∧0<l.length))) [some (67,[(iv ((wL l lv n).2))])]:=by
 refine zZ Tryz.func24 rfl (by kernel_rfl) (Nat.le_of_ble_eq_true rfl) (by kernel_rfl) (l0:=[ps 0 (.opt 0 0),ps 1 (.ssl (zT l) 0 l.length),ps 2 (iv lv),pb 0 67 [(iv n)]]) rfl (fun c0 Bor hc0=>?_)
 refine qA<|qL qD [.r] []<|qA<|qA<|qL qD [.k3,.n,.n,.n,.r] [ps 9 (.ssl (zT l) 0 l.length),ps 10 (nv l.length),ps 11 (iv 0)]<|zI<|vW (α:={x:Nat × Int // x.1≤l.length∧wL (l.drop x.1) lv x.2=wL l lv n∧0≤x.2∧x.2≤4095}) (fun x=>[ps 0 (.opt 0 0),ps 1 (.ssl (zT l) 0 l.length),ps 2 (iv lv),ps 9 (.ssl (zT l) 0 l.length),ps 10 (nv l.length),ps 11 (nv x.1.1),pb 0 67 [(iv x.1.2)]]) (fun x=>l.length-x.1.1) 1 ⟨(0,n),⟨Nat.zero_le _,rfl,hn0,hn1⟩⟩ (Wk.ren2 _ 1 hc0 [0] rfl rfl (by kernel_rfl) (by kernel_rfl)) ?_
 rintro ⟨⟨i,m⟩,⟨hi,hL,hm0,hm1⟩⟩
 dsimp only at hi hL hm0 hm1
 refine qA<|zU qD [] [ps 0 (.opt 0 0),ps 1 (.ssl (zT l) 0 l.length),ps 2 (iv lv),ps 9 (.ssl (zT l) 0 l.length),ps 10 (nv l.length),ps 11 (nv i),ps 12 (bv (decide (((i:Nat):Int)<(l.length:Int)))),pb 0 67 [(iv m)]] (oz)<|qA ?_
 by_cases h1:(i:Int)<(l.length:Int)
 ·refine qX (zR h1)<|qF<|qA<|zI<|qA<|zE qD [(0,.nat (i*7)),(1,.cells [(iv (iK (l.getD i qV))),(iv (iS (l.getD i qV))),(.ssl (yI (iP (l.getD i qV))) 0 ((iP (l.getD i qV)).length)),(iv ((iB (l.getD i qV)).1)),(iv ((iB (l.getD i qV)).2)),(sv (st (iL (l.getD i qV)))),(.ssl (zT (iC (l.getD i qV))) 0 ((iC (l.getD i qV)).length))])] [.k3,.n,.k3,.d,.k1,.n] [ps 8 (.opt 25 0),pb 25 50 [(iv (iK (l.getD i qV))),(iv (iS (l.getD i qV))),(.ssl (yI (iP (l.getD i qV))) 0 ((iP (l.getD i qV)).length)),(iv ((iB (l.getD i qV)).1)),(iv ((iB (l.getD i qV)).2)),(sv (st (iL (l.getD i qV)))),(.ssl (zT (iC (l.getD i qV))) 0 ((iC (l.getD i qV)).length))]] (oc (by omega:(0:Int)≤(i:Int)∧(i:Int)<(l.length:Int)) (oc (by omega:0+(((i:Nat):Int):Int).toNat*7=(i*7)) (oc (qhn l i 0 7 (by omega) (by decide):(i*7)+7≤((zT l)).length∧(((zT l)).drop (i*7)).take 7=[(iv (iK (l.getD i qV))),(iv (iS (l.getD i qV))),(.ssl (yI (iP (l.getD i qV))) 0 ((iP (l.getD i qV)).length)),(iv ((iB (l.getD i qV)).1)),(iv ((iB (l.getD i qV)).2)),(sv (st (iL (l.getD i qV)))),(.ssl (zT (iC (l.getD i qV))) 0 ((iC (l.getD i qV)).length))]) oz)))<|qA ?_
  have hrg:=qcq (l.getD i qV) lv m hm0
  refine vX qD 3 [.k3,.d,.k3,.n,.d,.n,.d] [ps 19 (bv (!((vV (l.getD i qV) lv m).1))),pb 0 67 [(iv ((vV (l.getD i qV) lv m).2))]] (wM [0] 65 (ihI (l.getD i qV) lv m (el_lt (by omega)) hlv0 hlv1 (by omega) (by omega) (qhs hfl (by omega)):PC Tryz.prog 58 [(.opt 0 0),(.agg [(iv (iK (l.getD i qV))),(iv (iS (l.getD i qV))),(.ssl (yI (iP (l.getD i qV))) 0 ((iP (l.getD i qV)).length)),(iv ((iB (l.getD i qV)).1)),(iv ((iB (l.getD i qV)).2)),(sv (st (iL (l.getD i qV)))),(.ssl (zT (iC (l.getD i qV))) 0 ((iC (l.getD i qV)).length))]),(iv lv)] [some (67,[(iv m)])] (bv ((vV (l.getD i qV) lv m).1)) [some (67,[(iv ((vV (l.getD i qV) lv m).2))])]) oz) ?_
  by_cases h2:((vV (l.getD i qV) lv m).1)=true
  ·refine qW (congrArg Bool.not h2)<|qF<|zM<|zE qD [] [.k5,.d,.n,.d,.r] [ps 11 (iv (((i:Nat):Int)+1))] (oi (((i:Nat):Int)+1) (by omega) oz) ?_
   exact vH ⟨(i+1,(vV (l.getD i qV) lv m).2),⟨by show i+1≤l.length;omega,by show wL (l.drop (i+1)) lv (vV (l.getD i qV) lv m).2=wL l lv n;rw [itL_at (by omega),if_pos h2] at hL;exact hL,hrg.2.2 h2,by show (vV (l.getD i qV) lv m).2≤4095;omega⟩⟩ (Wk.trans (Wk.eq (show _=[ps 0 (.opt 0 0),ps 1 (.ssl (zT l) 0 l.length),ps 2 (iv lv),ps 9 (.ssl (zT l) 0 l.length),ps 10 (nv l.length),ps 11 (nv (i+1)),pb 0 67 [(iv ((vV (l.getD i qV) lv m).2))]] from by rfl)) (Wk.ren2 _ 1 hc0 [0] rfl rfl (by kernel_rfl) (by kernel_rfl))) (show l.length-(i+1)<l.length-i from by show l.length-(i+1)<l.length-i;omega)
  refine qX (congrArg Bool.not (Bool.eq_false_iff.2 h2))<|qA<|qL qD [.d,.d,.d,.n,.d,.d,.d,.d,.r] [ps 6 (bv false)] ?_
  rw [itL_at (by omega),if_neg h2] at hL
  have e1:decide ((wL l lv n).1=true∧0<l.length)=false:=by rw [← hL];simp
  have e2:(wL l lv n).2=(vV (l.getD i qV) lv m).2:=by rw [← hL]
  rw [e1,e2]
  exact wV fun cx_ a_ hI_=>yv (rt hc0 [ps 6 (bv false),pb 0 67 [(iv ((vV (l.getD i qV) lv m).2))]] [0] hI_ (hbk:=by exact oc rfl (oz)))
 refine qW (zP h1)<|vL rfl rfl<|qA<|zU qD [] [ps 6 (bv (decide (0<(l.length:Int)))),pb 0 67 [(iv m)]] (oz) ?_
 rw [List.drop_eq_nil_of_le (show l.length≤i from by omega),wL] at hL
 have e1:decide ((wL l lv n).1=true∧0<l.length)=decide (0<(l.length:Int)):=by rw [← hL];simp
 have e2:(wL l lv n).2=m:=by rw [← hL]
 rw [e1,e2]
 exact zN hc0 [6] [0] (hbk:=by exact oc rfl (oz))
theorem qbw:∀ m:Nat,(∀ (x:It) (lv n:Int),SizeOf.sizeOf x<m→0≤lv→lv≤32→0≤n→n≤4095→YZ x→PC Tryz.prog 58 [.opt 0 0,.agg (gI x),iv lv] [(67,[iv n])] (bv (vV x lv n).1) [some (67,[iv (vV x lv n).2])])∧(∀ (l:List It) (lv n:Int),SizeOf.sizeOf l<m→0≤lv→lv≤32→0≤n→n≤4095→jH l→l.length≤140737488351232→PC Tryz.prog 24 [.opt 0 0,.ssl (zT l) 0 l.length,iv lv] [(67,[iv n])] (bv (decide ((wL l lv n).1=true∧0<l.length))) [some (67,[iv (wL l lv n).2])])
 | 0=>⟨fun _ _ _ h=>absurd h (Nat.not_lt_zero _),fun _ _ _ h=>absurd h (Nat.not_lt_zero _)⟩
 | m+1=>⟨fun x lv n h h0 h1 h2 h3 h4=>item_step x lv n (fun l lv n hl=>(qbw m).2 l lv n (by omega)) h0 h1 h2 h3 h4,fun l lv n h h0 h1 h2 h3 h4 h5=>items_step l lv n (fun x lv n hx=>(qbw m).1 x lv n (by omega)) h0 h1 h2 h3 h4 h5⟩
theorem items_pc (l:List It) (lv n:Int) (h0:0≤lv) (h1:lv≤32) (h2:0≤n) (h3:n≤4095) (h4:jH l) (h5:l.length≤140737488351232):PC Tryz.prog 24 [.opt 0 0,.ssl (zT l) 0 l.length,iv lv] [(67,[iv n])] (bv (decide ((wL l lv n).1=true∧0<l.length))) [some (67,[iv (wL l lv n).2])]:=(qbw _).2 l lv n (Nat.lt_succ_self _) h0 h1 h2 h3 h4 h5
theorem YR (t:qJ) (x:UInt8) (hb:t.length+1≤140737488355328):PC Tryz.prog 30 [(.opt 0 0),(.av (.int .u8 (x.toNat:Int)))] [some (77,[(.opn 0 0),(.osl 1 0 t.length)]),some (5,(qR t))] (.av .nilIface) [some (77,[(.opn 0 0),(.osl 2 0 ((t++[x]:qJ).length))]),none,some (5,(qR (t++[x])))]:=by
 refine zZ Tryz.func30 rfl (by kernel_rfl) (Nat.le_of_ble_eq_true rfl) (by kernel_rfl) (l0:=[ps 0 (.opt 0 0),ps 1 (.av (.int .u8 (x.toNat:Int))),pb 0 77 [(.opn 0 0),(.osl 1 0 t.length)],pb 1 5 (qR t)]) rfl (fun c0 Bor hc0=>?_)
 refine qA<|qL qD [.r] []<|qA<|zE qD [(1,.call [0,1] [(.opt 0 0)] [some (77,[(.opn 0 0),(.osl 1 0 t.length)]),some (5,(qR t))] (.tup []) [some (77,[(.opn 0 0),(.osl 1 0 t.length)]),some (5,(qR t))])] [.k3,.d,.n] [pb 1 5 (qT (yK [0,1] 18) (qR t))] (oc (qkk (.osl 1 0 t.length) [some (5,(qR t))]) (oc (rfl:[(.opt 0 0)]=qT (qY [0,1] 18) [(.opt 0 0)]) (oc (rfl:[(.opn 0 0),(.osl 1 0 t.length)]=qT (qY [0,1] 18) [(.opn 0 0),(.osl 1 0 t.length)]) (oc ((qQ (qM _)).symm:(qR t)=qT (qY [0,1] 18) (qR t)) oz))))<|qx (Wk.eq (show _=[ps 0 (.opt 0 0),ps 1 (.av (.int .u8 (x.toNat:Int))),pb 0 77 [(.opn 0 0),(.osl 1 0 t.length)],pb 1 5 (qR t)] from by simp only [qQ (qM _)])) ?_
 refine qA<|zU qD [(7,.app none (some (qR (t++[x]))))] [pb 0 77 [(.opn 0 0),(.osl 82 0 (t.length+1))],pb 82 5 (qR (t++[x]))] (oc (by rw [qhv,Nat.mul_one]:((qR t)).length=t.length*1) (oc (by omega:(t.length+1)*1≤140737488355328∧t.length+1≤9223372036854775807) (oc (byt_one _ _:(qR t)++[(.av (.int .u8 (x.toNat:Int)))]=(qR (t++[x]))) oz)))<|qA<|qL qD [.n,.r] [ps 4 (.av .nilIface)]<|qx (Wk.eq (show _=[ps 4 (.av .nilIface),pb 0 77 [(.opn 0 0),(.osl 82 0 ((t++[x]:qJ).length))],pb 82 5 (qR (t++[x]))] from by simp only [List.length_append,List.length_cons,List.length_nil,Nat.zero_add])) ?_
 exact wV fun cx_ a_ hI_=>yw (H':=[some (77,[(.opn 0 0),(.osl 2 0 ((t++[x]:qJ).length))]),none,some (5,(qR (t++[x])))]) (.inr rfl) (Wk.ren3 [ps 4 (.av .nilIface),pb 0 77 [(.opn 0 0),(.osl 2 0 ((t++[x]:qJ).length))],pb 2 5 (qR (t++[x]))] 2 hc0 [0,1,82] [(kb 2,(qR (t++[x])))] (oc (qM _) (oz)) (by kernel_rfl) rfl rfl (by kernel_rfl) (by kernel_rfl)) rfl (oc rfl (oc rfl (oz))) (fun cx_ a_ hI_=>yC (l':=[ps 4 (.av .nilIface),pb 0 77 [(.opn 0 0),(.osl 2 0 ((t++[x]:qJ).length))],pb 2 5 (qR (t++[x]))]) (by kernel_rfl) cx_ a_ hI_) hI_
theorem wj (t s:qJ) (hb:t.length+s.length≤140737488355328):PC Tryz.prog 27 [(.opt 0 0),(sv (st s))] [some (77,[(.opn 0 0),(.osl 1 0 t.length)]),some (5,(qR t))] (.tup [(nv s.length),(.av .nilIface)]) [some (77,[(.opn 0 0),(.osl 2 0 ((t++s:qJ).length))]),none,some (5,(qR (t++s)))]:=by
 refine zZ Tryz.func27 rfl (by kernel_rfl) (Nat.le_of_ble_eq_true rfl) (by kernel_rfl) (l0:=[ps 0 (.opt 0 0),ps 1 (sv (st s)),pb 0 77 [(.opn 0 0),(.osl 1 0 t.length)],pb 1 5 (qR t)]) rfl (fun c0 Bor hc0=>?_)
 refine qA<|qL qD [.r] []<|qA<|zE qD [(1,.call [0,1] [(.opt 0 0)] [some (77,[(.opn 0 0),(.osl 1 0 t.length)]),some (5,(qR t))] (.tup []) [some (77,[(.opn 0 0),(.osl 1 0 t.length)]),some (5,(qR t))])] [.k3,.d,.n] [pb 1 5 (qT (yK [0,1] 26) (qR t))] (oc (qkk (.osl 1 0 t.length) [some (5,(qR t))]) (oc (rfl:[(.opt 0 0)]=qT (qY [0,1] 26) [(.opt 0 0)]) (oc (rfl:[(.opn 0 0),(.osl 1 0 t.length)]=qT (qY [0,1] 26) [(.opn 0 0),(.osl 1 0 t.length)]) (oc ((qQ (qM _)).symm:(qR t)=qT (qY [0,1] 26) (qR t)) oz))))<|qx (Wk.eq (show _=[ps 0 (.opt 0 0),ps 1 (sv (st s)),pb 0 77 [(.opn 0 0),(.osl 1 0 t.length)],pb 1 5 (qR t)] from by simp only [qQ (qM _)])) ?_
 refine qA<|zU qD [(6,.app none (some (qR (t++s))))] [ps 1 (sv (st s)),pb 0 77 [(.opn 0 0),(.osl 82 0 (t.length+s.length))],pb 82 5 (qR (t++s))] (oc (by rw [qhv,Nat.mul_one]:((qR t)).length=t.length*1) (oc (by omega:(t.length+s.length)*1≤140737488355328∧t.length+s.length≤9223372036854775807) (oc (byt_app _ _:(qR t)++(qR s)=(qR (t++s))) oz)))<|qA<|qL qD [.d,.n,.n,.r] [ps 4 (nv s.length),ps 5 (.av .nilIface)]<|qx (Wk.eq (show _=[ps 4 (nv s.length),ps 5 (.av .nilIface),pb 0 77 [(.opn 0 0),(.osl 82 0 ((t++s:qJ).length))],pb 82 5 (qR (t++s))] from by simp only [List.length_append,List.length_cons,List.length_nil,Nat.zero_add])) ?_
 exact wV fun cx_ a_ hI_=>yw (H':=[some (77,[(.opn 0 0),(.osl 2 0 ((t++s:qJ).length))]),none,some (5,(qR (t++s)))]) (.inr rfl) (Wk.ren3 [ps 4 (nv s.length),ps 5 (.av .nilIface),pb 0 77 [(.opn 0 0),(.osl 2 0 ((t++s:qJ).length))],pb 2 5 (qR (t++s))] 2 hc0 [0,1,82] [(kb 2,(qR (t++s)))] (oc (qM _) (oz)) (by kernel_rfl) rfl rfl (by kernel_rfl) (by kernel_rfl)) rfl (oc rfl (oc rfl (oz))) (fun cx_ a_ hI_=>yC (l':=[ps 4 (nv s.length),ps 5 (.av .nilIface),pb 0 77 [(.opn 0 0),(.osl 2 0 ((t++s:qJ).length))],pb 2 5 (qR (t++s))]) (by kernel_rfl) cx_ a_ hI_) hI_
theorem bl_pc (t:qJ):PC Tryz.prog 31 [(.opt 0 0)] [some (77,[(.opn 0 0),(.osl 1 0 t.length)]),some (5,(qR t))] (nv t.length) [some (77,[(.opn 0 0),(.osl 1 0 t.length)]),some (5,(qR t))]:=by
 refine zZ Tryz.func31 rfl (by kernel_rfl) (Nat.le_of_ble_eq_true rfl) (by kernel_rfl) (l0:=[ps 0 (.opt 0 0),pb 0 77 [(.opn 0 0),(.osl 1 0 t.length)],pb 1 5 (qR t)]) rfl (fun c0 Bor hc0=>?_)
 refine qA<|qL qD [.r] []<|qA<|qL qD [.d,.n,.r] [ps 2 (nv t.length)] ?_
 exact wV fun cx_ a_ hI_=>yw (H':=[some (77,[(.opn 0 0),(.osl 1 0 t.length)]),some (5,(qR t))]) (.inr rfl) (Wk.ren3 [ps 2 (nv t.length),pb 0 77 [(.opn 0 0),(.osl 1 0 t.length)],pb 1 5 (qR t)] 2 hc0 [0,1] [(kb 1,(qR t))] (oc (qM _) (oz)) (by kernel_rfl) rfl rfl (by kernel_rfl) (by kernel_rfl)) rfl (oc rfl (oc rfl (oz))) (fun cx_ a_ hI_=>yC (l':=[ps 2 (nv t.length),pb 0 77 [(.opn 0 0),(.osl 1 0 t.length)],pb 1 5 (qR t)]) (by kernel_rfl) cx_ a_ hI_) hI_
theorem bl0_pc  : PC Tryz.prog 31 [(.opt 0 0)] [some (77,[(.av (.pointer none)),sn])] (iv 0) [some (77,[(.av (.pointer none)),sn])]:=by
 refine zZ Tryz.func31 rfl (by kernel_rfl) (Nat.le_of_ble_eq_true rfl) (by kernel_rfl) (l0:=[ps 0 (.opt 0 0),pb 0 77 [(.av (.pointer none)),sn]]) rfl (fun c0 Bor hc0=>?_)
 refine qA<|qL qD [.r] []<|qA<|qL qD [.d,.n,.r] [ps 2 (iv 0)] ?_
 exact zN hc0 [2] [0] (hbk:=by exact oc rfl (oz))
mutual
def szI:It→Prop
 | .mk _ _ ps _ _ ks=>ps.length≤140737488351232∧ks.length≤140737488351232∧WX ks
def WX:List It→Prop
 | []=>True
 | x :: l=>szI x∧WX l
end
theorem WI (x:It):szI x↔((iP x).length≤140737488351232∧(iC x).length≤140737488351232∧WX (iC x)):=by
 cases x with|mk k s ps b ly ks=>rw [szI];rfl
theorem sz_at:∀ {l:List It} {i:Nat},WX l→i<l.length→szI (l.getD i qV)
 | [],_,_,h=>absurd h (Nat.not_lt_zero _)
 | x :: l,0,h,_=>by rw [WX] at h;exact h.1
 | x :: l,i+1,h,hi=>by
  rw [WX] at h
  have:=sz_at (l:=l) (i:=i) h.2 (by simpa using hi)
  simpa using this
theorem Wy:∀ {l:List It} {x:It},WX l→szI x→WX (l++[x])
 | [],x,_,hx=>by rw [List.nil_append,WX,WX];exact ⟨hx,trivial⟩
 | y :: l,x,h,hx=>by
  rw [WX] at h
  rw [List.cons_append,WX]
  exact ⟨h.1,Wy h.2 hx⟩
def szB (b:Br):Prop:=b.2.2.length≤140737488351232∧WX b.2.2
def szV (v:Vo):Prop:=v.2.length≤140737488351232∧∀ j,j<v.2.length→szB (v.2.getD j zQ)
def szVs (l:List Vo):Prop:=l.length≤140737488351232∧∀ i,i<l.length→szV (l.getD i qO)
theorem chL_len {s:qJ}:∀ (m:Nat) (ps:List Pt) (a:Nat),(Vx s m ps a).2.1.length≤ps.length+m
 | 0,ps,a=>Nat.zero_le _
 | m+1,ps,a=>by
  rw [Vx]
  split
  ·split
   ·show (ps++[_]).length≤_
    rw [List.length_append,List.length_singleton];omega
   ·have:=chL_len (s:=s) m (ps++[(qS s a).2.1]) (qB s (qS s a).2.2)
    rw [List.length_append,List.length_singleton] at this
    omega
  ·exact Nat.zero_le _
theorem Yw:szI qV:=(WI _).2 ⟨Nat.zero_le _,Nat.zero_le _,by show WX [];rw [WX];trivial⟩
theorem qfb {k n:Int} {ps:List Pt} {b:Int × Int} {ly:qJ} {ks:List It} (h1:ps.length≤4096) (h2:ks.length≤4096) (h3:WX ks):szI (.mk k n ps b ly ks) :=
 (WI _).2 ⟨by show ps.length≤_;omega,by show ks.length≤_;omega,h3⟩
theorem QJ:WX []:=by rw [WX];trivial
theorem qij {s:qJ} {x:It} {a k:Nat} (h:szI x):szI (vT s x a k).2.1:=by
 unfold vT
 split
 ·split
  ·exact (WI (setL x _)).2 ((WI x).1 h)
  ·exact Yw
 ·exact h
theorem VS {s:qJ} {x:It} {a k:Nat} (h:szI x):szI (yB s x a k).2.1:=by
 unfold yB
 split
 ·split
  ·exact qij ((WI (WJ x _)).2 ((WI x).1 h))
  ·exact Yw
 ·exact qij h
theorem qda (s:qJ):∀ (m k:Nat),k<m→k≤4095→(∀ (lv:Int) (a:Nat),szI (qZ s lv a k).2.1) ∧
  (∀ (lv:Int) (l:List It) (a:Nat),WX l→l.length+k≤4095→WX (grL s lv l a k).2.1∧(grL s lv l a k).2.1.length≤4096)
 | 0,_,h,_=>absurd h (Nat.not_lt_zero _)
 | m+1,k,hk,hb=>by
  have hgr:0<k→∀ (lv:Int) (a:Nat),WX (yP s lv a (k-1)).2.1∧(yP s lv a (k-1)).2.1.length≤4096:=by
   intro h0 lv a
   rw [VH]
   split
   ·exact (qda s m (k-1) (by omega) (by omega)).2 lv [] _ QJ (by show 0+(k-1)≤4095;omega)
   ·exact ⟨QJ,Nat.zero_le _⟩
  have hit:∀ (lv:Int) (a:Nat),szI (qZ s lv a k).2.1:=by
   intro lv a
   rw [yZ]
   split
   ·exact Yw
   rename_i c0
   split
   ·exact VS (qfb (Nat.zero_le _) (Nat.zero_le _) QJ)
   split
   ·exact VS (qfb (Nat.zero_le _) (Nat.zero_le _) QJ)
   split
   ·split
    ·split
     ·have h2:=hgr (by omega) lv (qB s (qB s a+2)+(qC s (qB s a+2)).length)
      exact VS (qfb (Nat.zero_le _) h2.2 h2.1)
     ·exact Yw
    ·exact Yw
   split
   ·split
    ·have h2:=hgr (by omega) lv (qB s a)
     exact VS (qfb (Nat.zero_le _) h2.2 h2.1)
    ·exact Yw
   split
   ·split
    ·have h2:=chL_len (s:=s) 16 [] (qB s a+1)
     exact VS (qfb (Nat.le_trans h2 (by decide)) (Nat.zero_le _) QJ)
    ·exact Yw
   split
   ·exact VS (qfb (by show 1≤4096;omega) (Nat.zero_le _) QJ)
   ·exact Yw
  refine ⟨hit,fun lv l a hl hc=>?_⟩
  rw [qbs]
  split
  ·split
   ·exact ⟨Wy hl (hit _ _),by show (l++[_]).length≤4096;rw [List.length_append,List.length_singleton];omega⟩
   split
   ·rename_i c
    exact (qda s m _ (by omega) (by omega)).2 lv _ _ (Wy hl (hit _ _)) (by rw [List.length_append,List.length_singleton];omega)
   ·exact ⟨QJ,Nat.zero_le _⟩
  ·exact ⟨QJ,Nat.zero_le _⟩
theorem sz_itR (s:qJ) (lv:Int) (a:Nat) {k:Nat} (h:k≤4095):szI (qZ s lv a k).2.1:=(qda s (k+1) k (Nat.lt_succ_self _) h).1 lv a
theorem sz_brL (s:qJ):∀ (m k:Nat),k<m→∀ (l:List It) (a:Nat),WX l→l.length+k≤4095→WX (brL s l a k).2.1∧(brL s l a k).2.1.length≤4096
 | 0,_,h,_,_,_,_=>absurd h (Nat.not_lt_zero _)
 | m+1,k,hk,l,a,hl,hc=>by
  have hx:=sz_itR s 1 a (k:=k) (by omega)
  rw [ZE]
  split
  ·split
   ·exact ⟨Wy hl hx,by show (l++[_]).length≤4096;rw [List.length_append,List.length_singleton];omega⟩
   split
   ·exact sz_brL s m _ (by omega) _ _ (Wy hl hx) (by rw [List.length_append,List.length_singleton];omega)
   ·exact ⟨QJ,Nat.zero_le _⟩
  ·exact ⟨QJ,Nat.zero_le _⟩
theorem qgp:szB zQ:=⟨Nat.zero_le _,QJ⟩
theorem sz_brR (s:qJ) (a:Nat):szB (wH s a).2.1:=by
 unfold wH
 split
 ·split
  ·split
   ·split
    ·have h:=sz_brL s 4096 4095 (by decide) [] (qN s (qB s (qN s a).2.2+1)).2.2 QJ (by decide)
     exact ⟨Nat.le_trans h.2 (by decide),h.1⟩
    ·exact qgp
   ·exact qgp
  ·exact qgp
 ·exact qgp
theorem YK {α:Type} {P:α→Prop} {l:List α} {x:α} (h:∀ y∈l,P y) (hx:P x):∀ y∈l++[x],P y:=fun y hy=>by
 rcases List.mem_append.1 hy with h'|h'
 ·exact h y h'
 ·rw [List.mem_singleton.1 h'];exact hx
theorem qku (s:qJ):∀ (m:Nat) (l:List Br) (a:Nat) (z:Int),(∀ b∈l,szB b)→(∀ b∈(YS s m l a z).2.1,szB b)∧(YS s m l a z).2.1.length≤l.length+m
 | 0,l,a,z,h=>by
  rw [YS]
  split
  ·exact ⟨fun b hb=>absurd hb List.not_mem_nil,Nat.zero_le _⟩
  ·exact ⟨h,Nat.le_refl _⟩
 | m+1,l,a,z,h=>by
  rw [YS]
  split
  ·split
   ·have:=qku s m (l++[(wH s (qB s a+1)).2.1]) (wH s (qB s a+1)).2.2.1 (((wH s (qB s a+1)).2.2.2:Nat):Int) (YK h (sz_brR s _))
    rw [List.length_append,List.length_singleton] at this
    exact ⟨this.1,by omega⟩
   ·exact ⟨fun b hb=>absurd hb List.not_mem_nil,Nat.zero_le _⟩
  ·exact ⟨h,by show l.length≤_;omega⟩
theorem Zk {α:Type} {l:List α} {d:α} {i:Nat} (h:i<l.length):l.getD i d∈l:=by
 rw [List.getD_eq_getElem?_getD,List.getElem?_eq_getElem h]
 exact List.getElem_mem h
theorem qkv:szV qO:=⟨Nat.zero_le _,fun j h=>absurd h (Nat.not_lt_zero _)⟩
theorem sz_vcR (s:qJ) (a:Nat) (z:Int):szV (wW s a z).2.1:=by
 unfold wW
 split
 ·split
  ·split
   ·have h:=qku s 1024 [] (qB s (qB s a+5)+(qC s (qB s a+5)).length) z (fun b hb=>absurd hb List.not_mem_nil)
    exact ⟨Nat.le_trans h.2 (by decide),fun j hj=>h.1 _ (Zk hj)⟩
   ·exact qkv
  ·exact qkv
 ·exact qkv
theorem sz_rdL (s:qJ):∀ (m:Nat) (l:List Vo) (a:Nat) (z:Int),(∀ b∈l,szV b)→(∀ b∈(Yz s m l a z).2.1,szV b)∧(Yz s m l a z).2.1.length≤l.length+m
 | 0,l,a,z,h=>by
  rw [Yz]
  split
  ·exact ⟨h,Nat.le_refl _⟩
  ·exact ⟨fun b hb=>absurd hb List.not_mem_nil,Nat.zero_le _⟩
 | m+1,l,a,z,h=>by
  rw [Yz]
  split
  ·exact ⟨h,by show l.length≤_;omega⟩
  split
  ·have:=sz_rdL s m (l++[(wW s (qB s a) z).2.1]) (wW s (qB s a) z).2.2.1 (wW s (qB s a) z).2.2.2 (YK h (sz_vcR s _ _))
   rw [List.length_append,List.length_singleton] at this
   exact ⟨this.1,by omega⟩
  ·exact ⟨fun b hb=>absurd hb List.not_mem_nil,Nat.zero_le _⟩
theorem Wx (s:qJ):szVs (zK s).2.1∧(zK s).2.1.length≤64:=by
 unfold zK
 split
 ·exact ⟨⟨Nat.zero_le _,fun i h=>absurd h (Nat.not_lt_zero _)⟩,Nat.zero_le _⟩
 ·have h:=sz_rdL s 64 [] 0 0 (fun b hb=>absurd hb List.not_mem_nil)
  have h2:(Yz s 64 [] 0 0).2.1.length≤64:=Nat.le_trans h.2 (by decide)
  exact ⟨⟨by omega,fun i hi=>h.1 _ (Zk hi)⟩,h2⟩
theorem readS_ok {w:qJ} (h:(zq w).2.1=0):rb (zq w).1=true:=by
 unfold zq at h ⊢
 repeat' split at h
 all_goals first|(cases h;done)|skip
 rename_i c1 c2 c3 c4
 rw [if_neg c1,if_neg c2,if_neg c3,if_pos c4]
 exact c4
theorem pitR_ok {s:qJ} {a:Nat} (h:(qS s a).1=0):rb (qS s a).2.1=true:=by
 unfold qS at h ⊢
 split at h
 ·rename_i c
  rw [if_pos c]
  exact readS_ok c
 ·rename_i c
  exact absurd h c
theorem chL_ok {s:qJ}:∀ (m:Nat) (ps:List Pt) (a:Nat),ps.all rb=true→(Vx s m ps a).1=0→(Vx s m ps a).2.1.all rb=true∧1≤(Vx s m ps a).2.1.length
 | 0,ps,a,_,h=>by cases h
 | m+1,ps,a,hp,h=>by
  rw [Vx] at h ⊢
  split at h
  ·rename_i c
   rw [if_pos c]
   have h2:(ps++[(qS s a).2.1]).all rb=true:=by rw [List.all_append,hp,List.all_cons,pitR_ok c];rfl
   split at h
   ·rename_i c2
    rw [if_pos c2]
    exact ⟨h2,by show 1≤(ps++[_]).length;rw [List.length_append,List.length_singleton];omega⟩
   ·rename_i c2
    rw [if_neg c2]
    exact chL_ok m _ _ h2 h
  ·rename_i c
   exact absurd h c
theorem checked_ok {w:qJ} {j:Int × Int} (h:(checked w j).2=0):checked w j=(j,0)∧(qE j.1 j.2).2=0:=by
 unfold checked at h ⊢
 split at h
 ·rename_i c
  rw [if_pos c]
  exact ⟨rfl,c.1⟩
 ·cases h
theorem namedS_ok {w:qJ} (h:(zX w).2=0):(qE (zX w).1.1 (zX w).1.2).2=0:=by
 unfold zX at h ⊢
 split at h
 ·cases h
 rename_i c1
 rw [if_neg c1]
 split at h
 ·cases h
 rename_i c2
 rw [if_neg c2]
 split at h
 ·cases h
 ·rename_i m hm
  obtain ⟨e,h2⟩:=checked_ok h
  rw [e]
  exact h2
theorem name_rng {a b:Int} (h:(qE a b).2=0):QG a∧QG b:=by
 unfold qE at h
 split at h
 ·rename_i c
  have:=of_decide_eq_true c
  unfold QG
  omega
 ·cases h
theorem lyrR_ok {s:qJ} {a:Nat} (h:(zv s a).1=0):(zv s a).2.1=[]∨(wA (zv s a).2.1=true∧(zv s a).2.1.length≤s.length):=by
 unfold zv at h ⊢
 split at h
 ·rename_i c
  rw [if_pos c]
  split at h
  ·rename_i c2
   rw [if_pos c2]
   right
   obtain ⟨i1,i2,i3⟩:=lyr_bwd _ (s.drop (qB s a+1)) (Nat.le_refl _) 0 (by omega) c2
   have i3:=i3.resolve_left (by omega)
   refine ⟨?_,?_⟩
   ·show wA ((s.drop (qB s a+1)).take _)=true
    unfold wA
    rw [qbi,i1,Bool.and_true,decide_eq_true_eq]
    rw [Zy i3] at i2 ⊢
    omega
   ·show ((s.drop (qB s a+1)).take _).length≤_
    rw [List.length_take,List.length_drop];omega
  ·rename_i c2
   exact absurd h c2
 ·rename_i c
  rw [if_neg c]
  exact .inl rfl
theorem qih {s:qJ} {x:It} {a k:Nat} (h:(vT s x a k).1=0) (hl:iL x=[]):∃ ly,(vT s x a k).2.1=setL x ly∧(ly=[]∨(iK x=1∧wA ly=true∧ly.length≤s.length)):=by
 unfold vT at h ⊢
 split at h
 ·rename_i c
  rw [if_pos c]
  split at h
  ·rename_i c2
   rw [if_pos c2]
   exact ⟨_,rfl,(lyrR_ok c2).imp id fun q=>⟨c,q⟩⟩
  ·rename_i c2
   exact absurd h c2
 ·rename_i c
  rw [if_neg c]
  refine ⟨[],?_,.inl rfl⟩
  cases x with|mk k s ps b ly ks=>cases hl;rfl
theorem qcy {s:qJ} {x:It} {a k:Nat} (h:(yB s x a k).1=0) (hl:iL x=[]) (hs:iS x=1):∃ sh ly,(yB s x a k).2.1=setL (WJ x sh) ly∧(1≤sh∧sh≤65536)∧(ly=[]∨(iK x=1∧wA ly=true∧ly.length≤s.length)):=by
 unfold yB at h ⊢
 split at h
 ·rename_i c
  rw [if_pos c]
  split at h
  ·rename_i c2
   rw [if_pos c2]
   obtain ⟨ly,h1,h2⟩:=qih (x:=WJ x (qN s (qB s a+1)).2.1) h hl
   exact ⟨_,ly,h1,qhh c2,h2⟩
  ·rename_i c2
   exact absurd h c2
 ·rename_i c
  rw [if_neg c]
  obtain ⟨ly,h1,h2⟩:=qih h hl
  refine ⟨1,ly,?_,⟨by omega,by omega⟩,h2⟩
  rw [h1]
  cases x with|mk k s ps b ly ks=>cases hs;rfl
structure RdI (x:It) (lv:Int) (k k':Nat):Prop where
 ok:vV x lv (k:Int)=(true,(k':Int))
 fit:YZ x
theorem itS_note {x:It} {lv:Int} {k:Nat} (hk:¬ (k=0∨31<lv)) (h1:1≤iS x) (h2:iS x≤65536) (hK:iK x=1) (h:vw x=true):vV x lv (k:Int)=(true,((k-1:Nat):Int)):=by
 rw [yW,if_neg (by omega),if_pos hK,h,show ((k-1:Nat):Int)=(k:Int)-1 by omega]
theorem itS_rest {x:It} {lv:Int} {k:Nat} (hk:¬ (k=0∨31<lv)) (h1:1≤iS x) (h2:iS x≤65536) (hK:iK x=2∨iK x=3) (h:vZ x=true):vV x lv (k:Int)=(true,((k-1:Nat):Int)):=by
 rw [yW,if_neg (by omega),if_neg (by omega),if_pos hK,h,show ((k-1:Nat):Int)=(k:Int)-1 by omega]
theorem itS_group {x:It} {lv:Int} {k:Nat} (hk:¬ (k=0∨31<lv)) (h1:1≤iS x) (h2:iS x≤65536) (hK:iK x=4∨iK x=5) (h:yS x=true):vV x lv (k:Int)=wL (iC x) (lv+1) ((k-1:Nat):Int):=by
 rw [yW,if_neg (by omega),if_neg (by omega),if_neg (by omega),if_pos hK,if_pos h,show ((k-1:Nat):Int)=(k:Int)-1 by omega]
theorem rd_note {s:qJ} {lv:Int} {a k:Nat} {ps:List Pt} (hs:s.length≤65536) (hk:¬ (k=0∨31<lv)) (hp:ps.all rb=true) (h1:1≤ps.length) (h2:ps.length≤16) (ha:a≤s.length) (h:(yB s (.mk 1 1 ps (0,0) [] []) a (k-1)).1=0) :
  RdI (yB s (.mk 1 1 ps (0,0) [] []) a (k-1)).2.1 lv k (yB s (.mk 1 1 ps (0,0) [] []) a (k-1)).2.2.2:=by
 rw [(Ww ha).2.2]
 obtain ⟨sh,ly,e,hsh,hly⟩:=qcy h rfl rfl
 rw [e]
 have e2:setL (WJ (.mk 1 1 ps (0,0) [] []) sh) ly = .mk 1 sh ps (0,0) ly []:=rfl
 rw [e2]
 refine ⟨itS_note hk hsh.1 hsh.2 rfl ?_,?_⟩
 ·unfold vw
  show (if ps.length=0 then false else if 16<ps.length then false else if 0<([]:List It).length then false else if bz (.mk 1 sh ps (0,0) ly [])=true then (if ps.all rb=true then (if ly=[] then true else wA ly) else false) else false)=true
  rw [if_neg (show ¬ ps.length=0 by omega),if_neg (show ¬ 16<ps.length by omega),if_neg (show ¬ 0<([]:List It).length by decide),if_pos (show bz (.mk 1 sh ps (0,0) ly [])=true from rfl),if_pos hp]
  rcases hly with rfl|⟨_,h3,_⟩
  ·exact if_pos rfl
  ·split
   ·rfl
   ·exact h3
 ·refine (qav _).2 ⟨⟨by show QG 0;unfold QG;omega,by show QG 0;unfold QG;omega⟩,by show ps.length≤_;omega,?_,by show 0≤_;omega,by show jH [];rw [jH];trivial⟩
  show ly.length≤_
  rcases hly with rfl|⟨_,_,h3⟩
  ·exact Nat.zero_le _
  ·omega
theorem rd_rest {s:qJ} {lv kd:Int} {a k:Nat} (hk:¬ (k=0∨31<lv)) (hkd:kd=2∨kd=3) (ha:a≤s.length) (h:(yB s (.mk kd 1 [] (0,0) [] []) a (k-1)).1=0) :
  RdI (yB s (.mk kd 1 [] (0,0) [] []) a (k-1)).2.1 lv k (yB s (.mk kd 1 [] (0,0) [] []) a (k-1)).2.2.2:=by
 rw [(Ww ha).2.2]
 obtain ⟨sh,ly,e,hsh,hly⟩:=qcy h rfl rfl
 rw [e]
 have hl0:ly=[]:=hly.resolve_right fun q=>by have:=q.1;change kd=1 at this;omega
 subst hl0
 refine ⟨itS_rest hk hsh.1 hsh.2 hkd rfl,?_⟩
 exact (qav _).2 ⟨⟨by show QG 0;unfold QG;omega,by show QG 0;unfold QG;omega⟩,by show 0≤_;omega,by show 0≤_;omega,by show 0≤_;omega,by show jH [];rw [jH];trivial⟩
theorem qis {s:qJ} {lv kd:Int} {a k k1:Nat} {b:Int × Int} {ks:List It} (hk:¬ (k=0∨31<lv)) (hkd:(kd=4∧b=(0,0))∨kd=5) (hb:(qE b.1 b.2).2=0) (hn:ks≠[]) (hL:wL ks (lv+1) ((k-1:Nat):Int)=(true,(k1:Int))) (hf:jH ks) (hl:ks.length≤4096) (ha:a≤s.length)
  (h:(yB s (.mk kd 1 [] b [] ks) a k1).1=0):RdI (yB s (.mk kd 1 [] b [] ks) a k1).2.1 lv k (yB s (.mk kd 1 [] b [] ks) a k1).2.2.2:=by
 rw [(Ww ha).2.2]
 obtain ⟨sh,ly,e,hsh,hly⟩:=qcy h rfl rfl
 rw [e]
 have hl0:ly=[]:=hly.resolve_right fun q=>by have:=q.1;change kd=1 at this;omega
 subst hl0
 have hg:yS (.mk kd sh [] b [] ks)=true:=by
  unfold yS
  have:1≤ks.length:=List.length_pos_iff.2 hn
  show (if ks.length=0 then false else if 0<([]:List Pt).length then false else if ([]:qJ)=[] then (if kd=4 then (if bz (.mk kd sh [] b [] ks)=true then decide ((qE b.1 b.2).2=0) else false) else decide ((qE b.1 b.2).2=0)) else false)=true
  rw [if_neg (show ¬ ks.length=0 by omega),if_neg (show ¬ 0<([]:List Pt).length by decide),if_pos (show ([]:qJ)=[] from rfl)]
  rcases hkd with ⟨rfl,rfl⟩|rfl
  ·rw [if_pos (show (4:Int)=4 from rfl),if_pos (show bz (.mk 4 sh [] (0,0) [] ks)=true from rfl)]
   exact decide_eq_true hb
  ·rw [if_neg (show ¬ (5:Int)=4 by decide)]
   exact decide_eq_true hb
 have hr:=name_rng hb
 refine ⟨?_,(qav _).2 ⟨hr,by show 0≤_;omega,by show 0≤_;omega,by show ks.length≤_;omega,hf⟩⟩
 have:=itS_group (x:=.mk kd sh [] b [] ks) hk hsh.1 hsh.2 (by show kd=4∨kd=5;omega) hg
 exact this.trans hL
theorem qcr {x:It} {l:List It} {lv:Int} {k k1:Nat} {r:Bool × Int} (h1:vV x lv (k:Int)=(true,(k1:Int))) (h2:wL l lv (k1:Int)=r):wL (x :: l) lv (k:Int)=r:=by
 rw [wL,h1,if_pos rfl]
 exact h2
structure RdL (l l':List It) (lv:Int) (k k':Nat):Prop where
 mk ::
 more:∃ l2,l'=l++l2∧l2≠[]∧wL l2 lv (k:Int)=(true,(k':Int))∧jH l2∧l2.length+k'≤k
theorem Vj {x:It} {l:List It} (h1:YZ x) (h2:jH l):jH (x :: l):=by rw [jH];exact ⟨h1,h2⟩
theorem qkb:jH []:=by rw [jH];trivial
theorem rd_items (s:qJ) (hs:s.length≤65536):∀ (m k:Nat),k<m→k≤4095 →
  (∀ (lv:Int) (a:Nat),a≤s.length→(qZ s lv a k).1=0→RdI (qZ s lv a k).2.1 lv k (qZ s lv a k).2.2.2) ∧
  (∀ (lv:Int) (l:List It) (a:Nat),a≤s.length→(grL s lv l a k).1=0→RdL l (grL s lv l a k).2.1 (lv+1) k (grL s lv l a k).2.2.2):=by
 intro m
 induction m with
 | zero=>intro k h;omega
 | succ m ih =>
  intro k hk hkb
  have hgr:∀ (lv:Int) (a:Nat),0<k→a≤s.length→(yP s lv a (k-1)).1=0→(RdL [] (yP s lv a (k-1)).2.1 (lv+1) (k-1) (yP s lv a (k-1)).2.2.2)∧(yP s lv a (k-1)).2.2.1≤s.length:=by
   intro lv a h0 ha h
   rw [VH] at h ⊢
   split at h
   ·rename_i c
    rw [if_pos c]
    have:=yA c
    exact ⟨(ih (k-1) (by omega) (by omega)).2 lv [] _ (by omega) h,(grL_end (by omega) h).1.2⟩
   ·cases h
  have hit:∀ (lv:Int) (a:Nat),a≤s.length→(qZ s lv a k).1=0→RdI (qZ s lv a k).2.1 lv k (qZ s lv a k).2.2.2:=by
   intro lv a ha h
   have hgl:=yR ha
   have hwl:=vO ha
   rw [yZ] at h ⊢
   split at h
   ·cases h
   rename_i c0
   rw [if_neg c0]
   split at h
   ·rename_i c1
    rw [if_pos c1]
    rw [c1,List.length_singleton] at hwl
    exact rd_rest c0 (.inl rfl) hwl h
   rename_i c1
   rw [if_neg c1]
   split at h
   ·rename_i c2
    rw [if_pos c2]
    have:=yA c2
    exact rd_rest c0 (.inr rfl) (by omega) h
   rename_i c2
   rw [if_neg c2]
   split at h
   ·rename_i c3
    rw [if_pos c3]
    rw [c3,List.length_cons,List.length_singleton] at hwl
    have hwl2:=vO (s:=s) (a:=qB s a+2) (by omega)
    split at h
    ·rename_i c4
     rw [if_pos c4]
     split at h
     ·rename_i c5
      rw [if_pos c5]
      obtain ⟨⟨l2,e,h1,h2,h3,h4⟩,h5⟩:=hgr lv _ (by omega) hwl2 c5
      rw [List.nil_append] at e
      rw [e] at h ⊢
      exact qis c0 (.inr rfl) (namedS_ok c4) h1 h2 h3 (by omega) h5 h
     ·rename_i c5
      exact absurd h c5
    ·rename_i c4
     exact absurd h c4
   rename_i c3
   rw [if_neg c3]
   split at h
   ·rename_i c4
    rw [if_pos c4]
    split at h
    ·rename_i c5
     rw [if_pos c5]
     obtain ⟨⟨l2,e,h1,h2,h3,h4⟩,h5⟩:=hgr lv _ (by omega) hgl c5
     rw [List.nil_append] at e
     rw [e] at h ⊢
     exact qis c0 (.inl ⟨rfl,rfl⟩) (by decide) h1 h2 h3 (by omega) h5 h
    ·rename_i c5
     exact absurd h c5
   rename_i c4
   rw [if_neg c4]
   split at h
   ·rename_i c5
    rw [if_pos c5]
    have hlt:=yA c5
    split at h
    ·rename_i c6
     rw [if_pos c6]
     have h2:=chL_le 16 [] (qB s a+1) (by omega) c6
     have h3:=chL_ok 16 [] (qB s a+1) rfl c6
     exact rd_note hs c0 h3.1 h3.2 (by have:=h2.2.2;simpa using this) h2.2.1 h
    ·rename_i c6
     exact absurd h c6
   rename_i c5
   rw [if_neg c5]
   split at h
   ·rename_i c6
    rw [if_pos c6]
    have h2:=qdo hgl c6
    exact rd_note hs c0 (by rw [List.all_cons,pitR_ok c6];rfl) (Nat.le_refl 1) (by show 1≤16;decide) h2.2 h
   ·rename_i c6
    exact absurd h c6
  refine ⟨hit,fun lv l a ha h=>?_⟩
  rw [qbs] at h ⊢
  split at h
  ·rename_i c
   rw [if_pos c]
   have h1:=hit (lv+1) a ha c
   have hend:=Vz ha c
   split at h
   ·rename_i c2
    rw [if_pos c2]
    refine ⟨[(qZ s (lv+1) a k).2.1],rfl,by simp,qcr h1.ok (by rw [wL]),Vj h1.fit qkb,?_⟩
    rw [List.length_singleton]
    have:=hend.2
    show 1+(qZ s (lv+1) a k).2.2.2≤k
    omega
   ·rename_i c2
    rw [if_neg c2]
    split at h
    ·rename_i c3
     rw [if_pos c3]
     obtain ⟨l2,e,h2,h3,h4,h5⟩:=(ih _ (by omega) (by omega)).2 lv (l++[(qZ s (lv+1) a k).2.1]) (qB s (qZ s (lv+1) a k).2.2.1) (yR hend.1.2) h
     refine ⟨(qZ s (lv+1) a k).2.1 :: l2,by rw [e,List.append_assoc];rfl,by simp,qcr h1.ok h3,Vj h1.fit h4,?_⟩
     rw [List.length_cons]
     omega
    ·cases h
  ·rename_i c
   exact absurd h c
theorem rd_bar {s:qJ} (hs:s.length≤65536):∀ (m k:Nat),k<m→k≤4095→∀ (l:List It) (a:Nat),a≤s.length→(brL s l a k).1=0→RdL l (brL s l a k).2.1 1 k (brL s l a k).2.2.2
 | 0,_,h,_,_,_,_,_=>absurd h (Nat.not_lt_zero _)
 | m+1,k,hk,hb,l,a,ha,h=>by
  rw [ZE] at h ⊢
  split at h
  ·rename_i c
   rw [if_pos c]
   have h1:=(rd_items s hs (k+1) k (Nat.lt_succ_self _) hb).1 1 a ha c
   have hend:=Vz ha c
   split at h
   ·rename_i c2
    rw [if_pos c2]
    refine ⟨[(qZ s 1 a k).2.1],rfl,by simp,qcr h1.ok (by rw [wL]),Vj h1.fit qkb,?_⟩
    rw [List.length_singleton]
    have:=hend.2
    show 1+(qZ s 1 a k).2.2.2≤k
    omega
   ·rename_i c2
    rw [if_neg c2]
    split at h
    ·rename_i c3
     rw [if_pos c3]
     obtain ⟨l2,e,h2,h3,h4,h5⟩:=rd_bar hs m _ (by omega) (by omega) (l++[(qZ s 1 a k).2.1]) (qB s (qZ s 1 a k).2.2.1) (yR hend.1.2) h
     refine ⟨(qZ s 1 a k).2.1 :: l2,by rw [e,List.append_assoc];rfl,by simp,qcr h1.ok h3,Vj h1.fit h4,?_⟩
     rw [List.length_cons]
     omega
    ·cases h
  ·rename_i c
   exact absurd h c
abbrev goodB (b:Br):Prop:=jj b=0∧qhu b
theorem rd_brR {s:qJ} {a:Nat} (hs:s.length≤65536) (ha:a≤s.length) (h:(wH s a).1=0):goodB (wH s a).2.1:=by
 unfold wH at h ⊢
 have hn:=jW ha
 split at h
 ·rename_i c
  rw [if_pos c]
  split at h
  ·rename_i c2
   rw [if_pos c2]
   have hlt:=yA c2
   have hn2:=jW (s:=s) (a:=qB s (qN s a).2.2+1) (by omega)
   split at h
   ·rename_i c3
    rw [if_pos c3]
    split at h
    ·rename_i c4
     rw [if_pos c4]
     obtain ⟨l2,e,h2,h3,h4,h5⟩:=rd_bar hs 4096 4095 (by decide) (by decide) [] _ hn2.2 c4
     rw [List.nil_append] at e
     have r1:=qhh c
     have r2:=qhh c3
     show goodB ((qN s a).2.1,(qN s (qB s (qN s a).2.2+1)).2.1,(brL s [] (qN s (qB s (qN s a).2.2+1)).2.2 4095).2.1)
     rw [e]
     refine ⟨?_,by show QG (qN s a).2.1;unfold QG;omega,by show QG (qN s (qB s (qN s a).2.2+1)).2.1;unfold QG;omega,by show l2.length≤_;omega,h4⟩
     unfold jj
     rw [if_neg (by dsimp only;omega),if_pos]
     refine ⟨?_,List.length_pos_iff.2 h2⟩
     have h3':wL l2 1 4095=_:=h3
     rw [h3']
    ·rename_i c4
     exact absurd h c4
   ·rename_i c3
    exact absurd h c3
  ·cases h
 ·rename_i c
  exact absurd h c
theorem rd_vcL {s:qJ} (hs:s.length≤65536):∀ (m:Nat) (l:List Br) (a:Nat) (z:Int),a≤s.length→(∀ b∈l,goodB b)→(YS s m l a z).1=0→∀ b∈(YS s m l a z).2.1,goodB b
 | 0,l,a,z,_,hl,h=>by
  rw [YS] at h ⊢
  split at h
  ·cases h
  ·rename_i c
   rw [if_neg c]
   exact hl
 | m+1,l,a,z,ha,hl,h=>by
  rw [YS] at h ⊢
  split at h
  ·rename_i c
   rw [if_pos c]
   have:=yA c
   split at h
   ·rename_i c2
    rw [if_pos c2]
    exact rd_vcL hs m _ _ _ (qhx (by omega) c2).2 (YK hl (rd_brR hs (by omega) c2)) h
   ·rename_i c2
    exact absurd h c2
  ·rename_i c
   rw [if_neg c]
   exact hl
theorem qgj:∀ {l:List Br},(∀ b∈l,jj b=0)→YC l=0
 | [],_=>by rw [YC]
 | b :: l,h=>by rw [YC,if_pos (h b (by simp))];exact qgj fun c hc=>h c (by simp [hc])
theorem qca:∀ {l:List Vo},(∀ b∈l,vA b=0)→wY l=0
 | [],_=>by rw [wY]
 | b :: l,h=>by rw [wY,if_pos (h b (by simp))];exact qca fun c hc=>h c (by simp [hc])
abbrev goodV (v:Vo):Prop:=vA v=0∧fitVo v
theorem rd_vcR {s:qJ} {a:Nat} {z:Int} (hs:s.length≤65536) (ha:a≤s.length) (h:(wW s a z).1=0):goodV (wW s a z).2.1:=by
 have hsz:=qku s 1024 [] (qB s (qB s a+5)+(qC s (qB s a+5)).length) z (fun b hb=>absurd hb List.not_mem_nil)
 unfold wW at h ⊢
 have hwl:=vO ha
 split at h
 ·rename_i c
  rw [if_pos c]
  rw [c,vow_len] at hwl
  have hwl2:=vO (s:=s) (a:=qB s a+5) (by omega)
  split at h
  ·rename_i c2
   rw [if_pos c2]
   split at h
   ·rename_i c3
    rw [if_pos c3]
    have h2:=rd_vcL hs 1024 [] _ z hwl2 (fun b hb=>absurd hb List.not_mem_nil) c3
    have hlen:=hsz.2
    have hl:(YS s 1024 [] (qB s (qB s a+5)+(qC s (qB s a+5)).length) z).2.1.length≤1024:=by simpa using hlen
    have hnm:=(of_decide_eq_true c2).2.1
    refine ⟨?_,by show (qC s (qB s a+5)).length≤_;omega,by show (YS s 1024 [] _ z).2.1.length≤_;omega,fun i hi=>(h2 _ (Zk hi)).2⟩
    unfold vA
    rw [if_pos c2,if_neg (by dsimp only;omega)]
    exact qgj fun b hb=>(h2 b hb).1
   ·rename_i c3
    exact absurd h c3
  ·cases h
 ·cases h
theorem rd_rdL {s:qJ} (hs:s.length≤65536):∀ (m:Nat) (l:List Vo) (a:Nat) (z:Int),a≤s.length→(∀ b∈l,goodV b)→(Yz s m l a z).1=0→∀ b∈(Yz s m l a z).2.1,goodV b
 | 0,l,a,z,_,hl,h=>by
  rw [Yz] at h ⊢
  split at h
  ·rename_i c
   rw [if_pos c]
   exact hl
  ·cases h
 | m+1,l,a,z,ha,hl,h=>by
  rw [Yz] at h ⊢
  split at h
  ·rename_i c
   rw [if_pos c]
   exact hl
  ·rename_i c
   rw [if_neg c]
   split at h
   ·rename_i c2
    rw [if_pos c2]
    exact rd_rdL hs m _ _ _ (vcR_end (yR ha) c2).2 (YK hl (rd_vcR hs (yR ha) c2)) h
   ·rename_i c2
    exact absurd h c2
theorem VV {s:qJ} (h:(zK s).1=0):yF (zK s).2.1=0∧qei (zK s).2.1:=by
 have h64:=(Wx s).2
 unfold zK at h h64 ⊢
 split at h
 ·cases h
 ·rename_i c
  rw [if_neg c] at h64 ⊢
  have h2:=rd_rdL (by omega) 64 [] 0 0 (Nat.zero_le _) (fun b hb=>absurd hb List.not_mem_nil) h
  refine ⟨?_,by omega,fun i hi=>(h2 _ (Zk hi)).2⟩
  unfold yF
  rw [if_neg (by omega)]
  exact qca fun v hv=>(h2 v hv).1
theorem qfj (p:Pt):∀ l:List Pt,zA (l++[p])=if l=[] then wB p else zA l++[32]++wB p
 | []=>by rw [List.nil_append,qdk,if_pos rfl]
 | q :: l=>by
  have hR:∀ l:List Pt,ptsR (l++[p])=ptsR l++[32]++wB p:=by
   intro l
   induction l with
   | nil=>show 32 :: (wB p++[])=_;rw [List.append_nil];rfl
   | cons a l ih=>show 32 :: (wB a++ptsR (l++[p]))=32 :: (wB a++ptsR l)++[32]++wB p;rw [ih];simp
  rw [if_neg (by simp),List.cons_append,jT,hR,jT]
  simp
theorem VQ {α:Type} {l:List α} {d:α} {i:Nat} (h:i<l.length):l.take (i+1)=l.take i++[l.getD i d]:=by
 rw [List.take_succ_eq_append_getElem h,List.getD_eq_getElem?_getD,List.getElem?_eq_getElem h]
 rfl
theorem Wj {α:Type} {l:List α} {i:Nat} (h:i<l.length):l.take i=[]↔i=0:=by
 rw [List.take_eq_nil_iff]
 constructor
 ·rintro (h1|h1)
  ·exact h1
  ·rw [h1] at h;simp at h
 ·exact .inl
theorem VE {l:List Pt} {i:Nat} (h:i<l.length):zA (l.take (i+1))=if i=0 then wB (l.getD i yO) else zA (l.take i)++[32]++wB (l.getD i yO):=by
 rw [VQ (d:=yO) h,qfj]
 by_cases h0:i=0
 ·rw [if_pos h0,if_pos ((Wj h).2 h0)]
 ·rw [if_neg h0,if_neg (fun c=>h0 ((Wj h).1 c))]
theorem VZ (x:It) (l:List It):qz (x :: l)=zO x++Zz l:=by rw [qz]
theorem Zq:qz []=[]:=by rw [qz]
theorem qfu (p:It):∀ l:List It,qz (l++[p])=if l=[] then zO p else qz l++[32]++zO p
 | []=>by rw [List.nil_append,VZ,Zz,List.append_nil,if_pos rfl]
 | q :: l=>by
  have hR:∀ l:List It,Zz (l++[p])=Zz l++[32]++zO p:=by
   intro l
   induction l with
   | nil=>rw [List.nil_append,Zz,Zz,Zz,List.append_nil];rfl
   | cons a l ih=>rw [List.cons_append,Zz,Zz,ih];simp
  rw [if_neg (by simp),List.cons_append,VZ,hR,VZ]
  simp
theorem qdz {l:List It} {i:Nat} (h:i<l.length):qz (l.take (i+1))=if i=0 then zO (l.getD i qV) else qz (l.take i)++[32]++zO (l.getD i qV):=by
 rw [VQ (d:=qV) h,qfu]
 by_cases h0:i=0
 ·rw [if_pos h0,if_pos ((Wj h).2 h0)]
 ·rw [if_neg h0,if_neg (fun c=>h0 ((Wj h).1 c))]
theorem qcs {α:Type} {F:List α→qJ} (hF:∀ l x,(F l).length≤(F (l++[x])).length) (l:List α) (i:Nat):(F (l.take i)).length≤(F l).length:=by
 have key:∀ (m:List α) (l:List α),(F l).length≤(F (l++m)).length:=by
  intro m
  induction m with
  | nil=>intro l;rw [List.append_nil];exact Nat.le_refl _
  | cons a m ih =>
   intro l
   have:=ih (l++[a])
   rw [List.append_assoc] at this
   exact Nat.le_trans (hF l a) this
 have:=key (l.drop i) (l.take i)
 rwa [List.take_append_drop] at this
theorem pts_le (l:List Pt) (i:Nat):(zA (l.take i)).length≤(zA l).length:=qcs (F:=zA) (fun l x=>by
 rw [qfj]
 split
 ·rename_i h;subst h;exact Nat.zero_le _
 ·rw [List.length_append,List.length_append];omega) l i
theorem its_le (l:List It) (i:Nat):(qz (l.take i)).length≤(qz l).length:=qcs (F:=qz) (fun l x=>by
 rw [qfu]
 split
 ·rename_i h;subst h;rw [Zq];exact Nat.zero_le _
 ·rw [List.length_append,List.length_append];omega) l i
theorem qiv {l:List Pt} {i:Nat} (h:i<l.length):(zA (l.take i)).length+(if i=0 then 0 else 1)+(wB (l.getD i yO)).length≤(zA l).length∧(i=0→(zA (l.take i)).length=0):=by
 have h1:=pts_le l (i+1)
 rw [VE h] at h1
 by_cases h0:i=0
 ·subst h0
  rw [if_pos rfl] at h1 ⊢
  exact ⟨by rw [List.take_zero];show 0+0+_≤_;omega,fun _=>rfl⟩
 ·rw [if_neg h0] at h1 ⊢
  rw [List.length_append,List.length_append,List.length_singleton] at h1
  exact ⟨by omega,fun c=>absurd c h0⟩
theorem its_room {l:List It} {i:Nat} (h:i<l.length):(qz (l.take i)).length+(if i=0 then 0 else 1)+(zO (l.getD i qV)).length≤(qz l).length∧(i=0→(qz (l.take i)).length=0):=by
 have h1:=its_le l (i+1)
 rw [qdz h] at h1
 by_cases h0:i=0
 ·subst h0
  rw [if_pos rfl] at h1 ⊢
  exact ⟨by rw [List.take_zero,Zq];show 0+0+_≤_;omega,fun _=>by rw [List.take_zero,Zq];rfl⟩
 ·rw [if_neg h0] at h1 ⊢
  rw [List.length_append,List.length_append,List.length_singleton] at h1
  exact ⟨by omega,fun c=>absurd c h0⟩
theorem ch_len (l:List Pt):(ZW l).length=(zA l).length+(if 1<l.length then 2 else 0):=by
 unfold ZW
 split
 ·rw [List.length_cons,List.length_append,List.length_singleton]
 ·rfl
def qH (x:It):qJ:=if iK x=2 then [45] else if iK x=3 then [126] else if iK x=1 then ZW (iP x) else upT (iK x) (iB x)++(91 :: (qz (iC x)++[93]))
theorem yx (x:It):zO x=qH x++(qK (iS x)++wy (iL x)):=itT_eq x
theorem it_len (x:It):(zO x).length=(qH x).length+((qK (iS x)).length+(wy (iL x)).length):=by rw [yx,List.length_append,List.length_append]
def prI (x:It):Prop:=∃ lv n,(vV x lv n).1=true
def prL (l:List It):Prop:=∀ i,i<l.length→prI (l.getD i qV)
theorem prL_of:∀ {l:List It} {lv n:Int},(wL l lv n).1=true→prL l
 | [],lv,n,_=>fun i h=>absurd h (Nat.not_lt_zero _)
 | x :: l,lv,n,h=>fun i hi=>by
  obtain ⟨h1,h2,_⟩:=wR h
  cases i with
  | zero=>exact ⟨lv,n,h1⟩
  | succ i=>simpa using prL_of h2 i (by simpa using hi)
theorem pr_item {x:It} (h:prI x):(1≤iS x∧iS x≤65536)∧prL (iC x)∧(iK x=5→(qE (iB x).1 (iB x).2).2=0)∧(1≤iK x∧iK x≤5):=by
 obtain ⟨lv,n,h⟩:=h
 obtain ⟨k1,_,s1,s2,hk⟩:=Vq h
 refine ⟨⟨s1,s2⟩,?_⟩
 rcases hk with ⟨c,h1,_⟩|⟨c,h1,_⟩|⟨c,h1,h2⟩
 ·rw [(qcn h1).2.2.1]
  exact ⟨fun i h=>absurd h (Nat.not_lt_zero _),fun e=>by omega,by omega⟩
 ·rw [(qgt h1).2.1]
  exact ⟨fun i h=>absurd h (Nat.not_lt_zero _),fun e=>by omega,by omega⟩
 ·rw [h2] at h
  exact ⟨prL_of h,fun _=>(qec h1).2.2.2.2,by omega⟩
theorem pitches_pc (t:qJ) (l:List Pt) (hb:t.length+(ZW l).length≤140737488355328) (hl:l.length≤5864062014634):PC Tryz.prog 95 [(.opt 0 0),(.ssl (yI l) 0 l.length)] [some (77,[(.opn 0 0),(.osl 1 0 t.length)]),some (5,(qR t))] (.tup []) [some (77,[(.opn 0 0),(.osl 2 0 ((t++ZW l:qJ).length))]),none,some (5,(qR (t++ZW l)))]:=by
 refine zZ Tryz.func95 rfl (by kernel_rfl) (Nat.le_of_ble_eq_true rfl) (by kernel_rfl) (l0:=[ps 0 (.opt 0 0),ps 1 (.ssl (yI l) 0 l.length),pb 0 77 [(.opn 0 0),(.osl 1 0 t.length)],pb 1 5 (qR t)]) rfl (fun c0 Bor hc0=>?_)
 refine qA<|qA ?_
 have hcl:=ch_len l
 refine qL qD [.k2,.n,.r] [ps 10 (bv (decide (1<(l.length:Int))))] ?_
 by_cases h1:1<(l.length:Int)
 ·refine qX (zR h1) ?_
  rw [if_pos (show 1<l.length from by omega)] at hcl
  refine zE qD [(3,.call [0,1] [(.opt 0 0),(.av (.int .u8 60))] [some (77,[(.opn 0 0),(.osl 1 0 t.length)]),some (5,(qR t))] (.av .nilIface) [some (77,[(.opn 0 0),(.osl 2 0 ((t++[60]:qJ).length))]),none,some (5,(qR (t++[60])))])] [.k2,.d,.d,.n,.d,.n] [pb 0 77 [(.opn 0 0),(.osl 50 0 ((t++[60]:qJ).length))],pb 50 5 (qT (yK [0,1] 50) (qR (t++[60])))] (oc (YR t 60 (by (first|omega|(simp only [List.length_append,List.length_cons,List.length_nil];omega)))) (oc (rfl:[(.opt 0 0),(.av (.int .u8 60))]=qT (qY [0,1] 50) [(.opt 0 0),(.av (.int .u8 60))]) (oc (rfl:[(.opn 0 0),(.osl 1 0 t.length)]=qT (qY [0,1] 50) [(.opn 0 0),(.osl 1 0 t.length)]) (oc ((qQ (qM _)).symm:(qR t)=qT (qY [0,1] 50) (qR t)) oz))))<|qx (Wk.eq (show _=[ps 0 (.opt 0 0),ps 1 (.ssl (yI l) 0 l.length),pb 0 77 [(.opn 0 0),(.osl 50 0 ((t++[60]:qJ).length))],pb 50 5 (qR (t++[60]))] from by simp only [qQ (qM _)])) ?_
  refine qA<|qA<|qx (Wk.eq (show _=[ps 0 (.opt 0 0),ps 1 (.ssl (yI l) 0 l.length),pb 0 77 [(.opn 0 0),(.osl 50 0 (((t++[60])++zA (l.take 0):qJ).length))],pb 50 5 (qR ((t++[60])++zA (l.take 0)))] from by rw [List.take_zero];rw [show zA []=[] from rfl,List.append_nil])) ?_
  refine qL qD [.k2,.n,.n,.n,.r] [ps 15 (.ssl (yI l) 0 l.length),ps 16 (nv l.length),ps 17 (iv 0)]<|zI<|vW (α:={x:Nat // x≤l.length}) (fun x=>[ps 0 (.opt 0 0),ps 1 (.ssl (yI l) 0 l.length),ps 15 (.ssl (yI l) 0 l.length),ps 16 (nv l.length),ps 17 (nv x.1),pb 0 77 [(.opn 0 0),(.osl 2 0 (((t++[60])++zA (l.take x.1):qJ).length))],pb 2 5 (qR ((t++[60])++zA (l.take x.1)))]) (fun x=>l.length-x.1) 3 ⟨0,Nat.zero_le _⟩ (Wk.ren3 _ 2 hc0 [0,1,50] [(kb 2,(qR ((t++[60])++zA (l.take 0))))] (oc (qM _) (oz)) (by kernel_rfl) rfl rfl (by kernel_rfl) (by kernel_rfl)) ?_
  rintro ⟨i,hi⟩
  refine qA<|zU qD [] [ps 0 (.opt 0 0),ps 1 (.ssl (yI l) 0 l.length),ps 15 (.ssl (yI l) 0 l.length),ps 16 (nv l.length),ps 17 (nv i),ps 18 (bv (decide (((i:Nat):Int)<(l.length:Int)))),pb 0 77 [(.opn 0 0),(.osl 2 0 (((t++[60])++zA (l.take i):qJ).length))],pb 2 5 (qR ((t++[60])++zA (l.take i)))] (oz)<|qA ?_
  by_cases h2:(i:Int)<(l.length:Int)
  ·refine qX (zR h2)<|qF<|qA<|zI<|qA ?_
   have hrm:=qiv (show i<l.length from by omega)
   have hpt:(wJ (l.getD i yO).1 (l.getD i yO).2.1 (l.getD i yO).2.2).1=wB (l.getD i yO):=rfl
   have hple:=pts_le l i
   refine zE qD [(1,.nat (i*3)),(2,.cells [(iv ((l.getD i yO).1)),(iv ((l.getD i yO).2.1)),(iv ((l.getD i yO).2.2))])] [.k2,.n,.n,.k3,.d,.k2,.n] [ps 4 (nv i),ps 5 (.opt 35 0),pb 35 52 [(iv ((l.getD i yO).1)),(iv ((l.getD i yO).2.1)),(iv ((l.getD i yO).2.2))]] (oc (by omega:(0:Int)≤(i:Int)∧(i:Int)<(l.length:Int)) (oc (by omega:0+(((i:Nat):Int):Int).toNat*3=(i*3)) (oc (vN ptC 3 (fun _=>rfl) yO l i 0 3 (by omega) (by decide):(i*3)+3≤((yI l)).length∧(((yI l)).drop (i*3)).take 3=[(iv ((l.getD i yO).1)),(iv ((l.getD i yO).2.1)),(iv ((l.getD i yO).2.2))]) oz))) ?_
   refine qA<|qA<|qL qD [.k2,.d,.k4,.n,.r] [ps 23 (bv (decide (0<(i:Int))))] ?_
   by_cases h3:0<(i:Int)
   ·refine qX (zR h3) ?_
    have hrm2:=hrm.1
    rw [if_neg (show ¬ i=0 from by omega)] at hrm2
    refine zE qD [(3,.call [0,2] [(.opt 0 0),(.av (.int .u8 32))] [some (77,[(.opn 0 0),(.osl 1 0 (((t++[60])++zA (l.take i):qJ).length))]),some (5,(qR ((t++[60])++zA (l.take i))))] (.av .nilIface) [some (77,[(.opn 0 0),(.osl 2 0 ((((t++[60])++zA (l.take i))++[32]:qJ).length))]),none,some (5,(qR (((t++[60])++zA (l.take i))++[32])))])] [.k6,.d,.d,.n,.d,.k1,.n] [pb 0 77 [(.opn 0 0),(.osl 99 0 ((((t++[60])++zA (l.take i))++[32]:qJ).length))],pb 99 5 (qT (yK [0,2] 99) (qR (((t++[60])++zA (l.take i))++[32])))] (oc (YR ((t++[60])++zA (l.take i)) 32 (by (first|omega|(simp only [List.length_append,List.length_cons,List.length_nil];omega)))) (oc (rfl:[(.opt 0 0),(.av (.int .u8 32))]=qT (qY [0,2] 99) [(.opt 0 0),(.av (.int .u8 32))]) (oc (rfl:[(.opn 0 0),(.osl 2 0 (((t++[60])++zA (l.take i):qJ).length))]=qT (qY [0,2] 99) [(.opn 0 0),(.osl 1 0 (((t++[60])++zA (l.take i):qJ).length))]) (oc ((qQ (qM _)).symm:(qR ((t++[60])++zA (l.take i)))=qT (qY [0,2] 99) (qR ((t++[60])++zA (l.take i)))) oz))))<|qx (Wk.eq (show _=[ps 0 (.opt 0 0),ps 1 (.ssl (yI l) 0 l.length),ps 5 (.opt 35 0),ps 15 (.ssl (yI l) 0 l.length),ps 16 (nv l.length),ps 17 (nv i),pb 0 77 [(.opn 0 0),(.osl 99 0 ((((t++[60])++zA (l.take i))++[32]:qJ).length))],pb 35 52 [(iv ((l.getD i yO).1)),(iv ((l.getD i yO).2.1)),(iv ((l.getD i yO).2.2))],pb 99 5 (qR (((t++[60])++zA (l.take i))++[32]))] from by simp only [qQ (qM _)])) ?_
    refine qA<|yJ qD 1 [.k2,.d,.n,.k4,.d,.r] [ps 6 (sv (st ((wJ ((l.getD i yO).1) ((l.getD i yO).2.1) ((l.getD i yO).2.2)).1)))] (zY 115 (qaf ((l.getD i yO).1) ((l.getD i yO).2.1) ((l.getD i yO).2.2)) oz) ?_
    rw [if_neg (show ¬ i=0 from by omega)] at hrm
    refine qx (Wk.eq (show _=[ps 0 (.opt 0 0),ps 1 (.ssl (yI l) 0 l.length),ps 6 (sv (st (wB (l.getD i yO)))),ps 15 (.ssl (yI l) 0 l.length),ps 16 (nv l.length),ps 17 (nv i),pb 0 77 [(.opn 0 0),(.osl 99 0 ((((t++[60])++zA (l.take i))++[32]:qJ).length))],pb 99 5 (qR (((t++[60])++zA (l.take i))++[32]))] from by rfl)) ?_
    refine zE qD [(4,.call [0,99] [(.opt 0 0),(sv (st (wB (l.getD i yO))))] [some (77,[(.opn 0 0),(.osl 1 0 ((((t++[60])++zA (l.take i))++[32]:qJ).length))]),some (5,(qR (((t++[60])++zA (l.take i))++[32])))] (.tup [(nv (((wB (l.getD i yO))).length)),(.av .nilIface)]) [some (77,[(.opn 0 0),(.osl 2 0 (((((t++[60])++zA (l.take i))++[32])++(wB (l.getD i yO)):qJ).length))]),none,some (5,(qR ((((t++[60])++zA (l.take i))++[32])++(wB (l.getD i yO)))))])] [.k2,.d,.k3,.d,.n,.d,.n] [pb 0 77 [(.opn 0 0),(.osl 195 0 (((((t++[60])++zA (l.take i))++[32])++(wB (l.getD i yO)):qJ).length))],pb 195 5 (qT (yK [0,99] 195) (qR ((((t++[60])++zA (l.take i))++[32])++(wB (l.getD i yO)))))] (oc (wj (((t++[60])++zA (l.take i))++[32]) (wB (l.getD i yO)) (by (first|omega|(simp only [List.length_append,List.length_cons,List.length_nil];omega)))) (oc (rfl:[(.opt 0 0),(sv (st (wB (l.getD i yO))))]=qT (qY [0,99] 195) [(.opt 0 0),(sv (st (wB (l.getD i yO))))]) (oc (rfl:[(.opn 0 0),(.osl 99 0 ((((t++[60])++zA (l.take i))++[32]:qJ).length))]=qT (qY [0,99] 195) [(.opn 0 0),(.osl 1 0 ((((t++[60])++zA (l.take i))++[32]:qJ).length))]) (oc ((qQ (qM _)).symm:(qR (((t++[60])++zA (l.take i))++[32]))=qT (qY [0,99] 195) (qR (((t++[60])++zA (l.take i))++[32]))) oz))))<|zM<|qx (Wk.eq (show _=[ps 0 (.opt 0 0),ps 1 (.ssl (yI l) 0 l.length),ps 15 (.ssl (yI l) 0 l.length),ps 16 (nv l.length),ps 17 (nv i),pb 0 77 [(.opn 0 0),(.osl 195 0 (((((t++[60])++zA (l.take i))++[32])++(wB (l.getD i yO)):qJ).length))],pb 195 5 (qR ((((t++[60])++zA (l.take i))++[32])++(wB (l.getD i yO))))] from by simp only [qQ (qM _)])) ?_
    refine zE qD [] [.k4,.d,.n,.r] [ps 17 (iv (((i:Nat):Int)+1))] (oi (((i:Nat):Int)+1) (by omega) oz) ?_
    have hn:=VE (show i<l.length from by omega)
    rw [if_neg (by omega)] at hn
    exact vH ⟨i+1,by show i+1≤l.length;omega⟩ (Wk.trans (Wk.eq (show _=[ps 0 (.opt 0 0),ps 1 (.ssl (yI l) 0 l.length),ps 15 (.ssl (yI l) 0 l.length),ps 16 (nv l.length),ps 17 (nv (i+1)),pb 0 77 [(.opn 0 0),(.osl 195 0 (((t++[60])++zA (l.take (i+1)):qJ).length))],pb 195 5 (qR ((t++[60])++zA (l.take (i+1))))] from by rw [hn];simp only [List.append_assoc];rfl)) (Wk.ren3 _ 2 hc0 [0,1,195] [(kb 2,(qR ((t++[60])++zA (l.take (i+1)))))] (oc (qM _) (oz)) (by kernel_rfl) rfl rfl (by kernel_rfl) (by kernel_rfl))) (show l.length-(i+1)<l.length-i from by show l.length-(i+1)<l.length-i;omega)
   refine qW (zP h3)<|qF<|qA<|yJ qD 1 [.k2,.d,.n,.k3,.d,.k2,.d] [ps 6 (sv (st ((wJ ((l.getD i yO).1) ((l.getD i yO).2.1) ((l.getD i yO).2.2)).1)))] (zY 83 (qaf ((l.getD i yO).1) ((l.getD i yO).2.1) ((l.getD i yO).2.2)) oz) ?_
   rw [if_pos (show i=0 from by omega)] at hrm
   refine qx (Wk.eq (show _=[ps 0 (.opt 0 0),ps 1 (.ssl (yI l) 0 l.length),ps 6 (sv (st (wB (l.getD i yO)))),ps 15 (.ssl (yI l) 0 l.length),ps 16 (nv l.length),ps 17 (nv i),pb 0 77 [(.opn 0 0),(.osl 2 0 (((t++[60])++zA (l.take i):qJ).length))],pb 2 5 (qR ((t++[60])++zA (l.take i)))] from by rfl)) ?_
   refine zE qD [(4,.call [0,2] [(.opt 0 0),(sv (st (wB (l.getD i yO))))] [some (77,[(.opn 0 0),(.osl 1 0 (((t++[60])++zA (l.take i):qJ).length))]),some (5,(qR ((t++[60])++zA (l.take i))))] (.tup [(nv (((wB (l.getD i yO))).length)),(.av .nilIface)]) [some (77,[(.opn 0 0),(.osl 2 0 ((((t++[60])++zA (l.take i))++(wB (l.getD i yO)):qJ).length))]),none,some (5,(qR (((t++[60])++zA (l.take i))++(wB (l.getD i yO)))))])] [.k2,.d,.k3,.d,.n,.d,.n] [pb 0 77 [(.opn 0 0),(.osl 163 0 ((((t++[60])++zA (l.take i))++(wB (l.getD i yO)):qJ).length))],pb 163 5 (qT (yK [0,2] 163) (qR (((t++[60])++zA (l.take i))++(wB (l.getD i yO)))))] (oc (wj ((t++[60])++zA (l.take i)) (wB (l.getD i yO)) (by (first|omega|(simp only [List.length_append,List.length_cons,List.length_nil];omega)))) (oc (rfl:[(.opt 0 0),(sv (st (wB (l.getD i yO))))]=qT (qY [0,2] 163) [(.opt 0 0),(sv (st (wB (l.getD i yO))))]) (oc (rfl:[(.opn 0 0),(.osl 2 0 (((t++[60])++zA (l.take i):qJ).length))]=qT (qY [0,2] 163) [(.opn 0 0),(.osl 1 0 (((t++[60])++zA (l.take i):qJ).length))]) (oc ((qQ (qM _)).symm:(qR ((t++[60])++zA (l.take i)))=qT (qY [0,2] 163) (qR ((t++[60])++zA (l.take i)))) oz))))<|zM<|qx (Wk.eq (show _=[ps 0 (.opt 0 0),ps 1 (.ssl (yI l) 0 l.length),ps 15 (.ssl (yI l) 0 l.length),ps 16 (nv l.length),ps 17 (nv i),pb 0 77 [(.opn 0 0),(.osl 163 0 ((((t++[60])++zA (l.take i))++(wB (l.getD i yO)):qJ).length))],pb 163 5 (qR (((t++[60])++zA (l.take i))++(wB (l.getD i yO))))] from by simp only [qQ (qM _)])) ?_
   refine zE qD [] [.k4,.d,.n,.r] [ps 17 (iv (((i:Nat):Int)+1))] (oi (((i:Nat):Int)+1) (by omega) oz) ?_
   have hn:=VE (show i<l.length from by omega)
   rw [if_pos (by omega)] at hn
   exact vH ⟨i+1,by show i+1≤l.length;omega⟩ (Wk.trans (Wk.eq (show _=[ps 0 (.opt 0 0),ps 1 (.ssl (yI l) 0 l.length),ps 15 (.ssl (yI l) 0 l.length),ps 16 (nv l.length),ps 17 (nv (i+1)),pb 0 77 [(.opn 0 0),(.osl 163 0 (((t++[60])++zA (l.take (i+1)):qJ).length))],pb 163 5 (qR ((t++[60])++zA (l.take (i+1))))] from by rw [hn,show i=0 from by omega,List.take_zero,show zA []=[] from rfl,List.append_nil];rfl)) (Wk.ren3 _ 2 hc0 [0,1,163] [(kb 2,(qR ((t++[60])++zA (l.take (i+1)))))] (oc (qM _) (oz)) (by kernel_rfl) rfl rfl (by kernel_rfl) (by kernel_rfl))) (show l.length-(i+1)<l.length-i from by show l.length-(i+1)<l.length-i;omega)
  refine qW (zP h2)<|vL rfl rfl<|qA<|qx (Wk.eq (show _=[ps 0 (.opt 0 0),ps 1 (.ssl (yI l) 0 l.length),ps 15 (.ssl (yI l) 0 l.length),ps 16 (nv l.length),ps 17 (nv i),ps 18 (bv (decide (((i:Nat):Int)<(l.length:Int)))),pb 0 77 [(.opn 0 0),(.osl 2 0 (((t++[60])++zA l:qJ).length))],pb 2 5 (qR ((t++[60])++zA l))] from by rw [List.take_of_length_le (show l.length≤i from by omega)])) ?_
  refine qL qD [.k1,.d,.d,.d,.d,.d,.n,.r] [ps 41 (bv (decide (1<(l.length:Int))))]<|qX (zR h1)<|zU qD [(3,.call [0,2] [(.opt 0 0),(.av (.int .u8 62))] [some (77,[(.opn 0 0),(.osl 1 0 (((t++[60])++zA l:qJ).length))]),some (5,(qR ((t++[60])++zA l)))] (.av .nilIface) [some (77,[(.opn 0 0),(.osl 2 0 ((((t++[60])++zA l)++[62]:qJ).length))]),none,some (5,(qR (((t++[60])++zA l)++[62])))])] [pb 0 77 [(.opn 0 0),(.osl 59 0 ((((t++[60])++zA l)++[62]:qJ).length))],pb 59 5 (qT (yK [0,2] 59) (qR (((t++[60])++zA l)++[62])))] (oc (YR ((t++[60])++zA l) 62 (by (first|omega|(simp only [List.length_append,List.length_cons,List.length_nil];omega)))) (oc (rfl:[(.opt 0 0),(.av (.int .u8 62))]=qT (qY [0,2] 59) [(.opt 0 0),(.av (.int .u8 62))]) (oc (rfl:[(.opn 0 0),(.osl 2 0 (((t++[60])++zA l:qJ).length))]=qT (qY [0,2] 59) [(.opn 0 0),(.osl 1 0 (((t++[60])++zA l:qJ).length))]) (oc ((qQ (qM _)).symm:(qR ((t++[60])++zA l))=qT (qY [0,2] 59) (qR ((t++[60])++zA l))) oz)))) ?_
  exact fun cx_ a_ hI_=>yw (H':=[some (77,[(.opn 0 0),(.osl 2 0 ((t++ZW l:qJ).length))]),none,some (5,(qR (t++ZW l)))]) (.inl rfl) (Wk.trans (Wk.eq (show _=[pb 0 77 [(.opn 0 0),(.osl 59 0 ((((t++[60])++zA l)++[62]:qJ).length))],pb 59 5 (qR (((t++[60])++zA l)++[62]))] from by simp only [qQ (qM _)])) (Wk.trans (Wk.eq (show _=[pb 0 77 [(.opn 0 0),(.osl 59 0 ((t++ZW l:qJ).length))],pb 59 5 (qR (t++ZW l))] from by rw [show ZW l=60 :: (zA l++[62]) from if_pos (show 1<l.length from by omega)];simp only [List.append_assoc,List.cons_append,List.nil_append])) (Wk.ren3 [pb 0 77 [(.opn 0 0),(.osl 2 0 ((t++ZW l:qJ).length))],pb 2 5 (qR (t++ZW l))] 2 hc0 [0,1,59] [(kb 2,(qR (t++ZW l)))] (oc (qM _) (oz)) (by kernel_rfl) rfl rfl (by kernel_rfl) (by kernel_rfl)))) rfl (oc rfl (oc rfl (oz))) (fun cx_ a_ hI_=>yC (l':=[pb 0 77 [(.opn 0 0),(.osl 2 0 ((t++ZW l:qJ).length))],pb 2 5 (qR (t++ZW l))]) (by kernel_rfl) cx_ a_ hI_) hI_
 refine qW (zP h1)<|qF<|qA<|qA ?_
 rw [if_neg (show ¬ 1<l.length from by omega)] at hcl
 refine qx (Wk.eq (show _=[ps 0 (.opt 0 0),ps 1 (.ssl (yI l) 0 l.length),ps 10 (bv (decide (1<(l.length:Int)))),pb 0 77 [(.opn 0 0),(.osl 1 0 ((t++zA (l.take 0):qJ).length))],pb 1 5 (qR (t++zA (l.take 0)))] from by rw [List.take_zero];rw [show zA []=[] from rfl,List.append_nil])) ?_
 refine qL qD [.k2,.d,.n,.n,.n,.r] [ps 15 (.ssl (yI l) 0 l.length),ps 16 (nv l.length),ps 17 (iv 0)]<|zI<|vW (α:={x:Nat // x≤l.length}) (fun x=>[ps 0 (.opt 0 0),ps 1 (.ssl (yI l) 0 l.length),ps 15 (.ssl (yI l) 0 l.length),ps 16 (nv l.length),ps 17 (nv x.1),pb 0 77 [(.opn 0 0),(.osl 2 0 ((t++zA (l.take x.1):qJ).length))],pb 2 5 (qR (t++zA (l.take x.1)))]) (fun x=>l.length-x.1) 3 ⟨0,Nat.zero_le _⟩ (Wk.ren3D _ 2 hc0 [0,1,1] [(kb 2,(qR (t++zA (l.take 0))))] (oc (qM _) (oz)) (by kernel_rfl) rfl (by kernel_rfl) (by kernel_rfl) (by kernel_rfl)) ?_
 rintro ⟨i,hi⟩
 refine qA<|zU qD [] [ps 0 (.opt 0 0),ps 1 (.ssl (yI l) 0 l.length),ps 15 (.ssl (yI l) 0 l.length),ps 16 (nv l.length),ps 17 (nv i),ps 18 (bv (decide (((i:Nat):Int)<(l.length:Int)))),pb 0 77 [(.opn 0 0),(.osl 2 0 ((t++zA (l.take i):qJ).length))],pb 2 5 (qR (t++zA (l.take i)))] (oz)<|qA ?_
 by_cases h4:(i:Int)<(l.length:Int)
 ·refine qX (zR h4)<|qF<|qA<|zI<|qA ?_
  have hrm:=qiv (show i<l.length from by omega)
  have hpt:(wJ (l.getD i yO).1 (l.getD i yO).2.1 (l.getD i yO).2.2).1=wB (l.getD i yO):=rfl
  have hple:=pts_le l i
  refine zE qD [(1,.nat (i*3)),(2,.cells [(iv ((l.getD i yO).1)),(iv ((l.getD i yO).2.1)),(iv ((l.getD i yO).2.2))])] [.k2,.n,.n,.k3,.d,.k2,.n] [ps 4 (nv i),ps 5 (.opt 35 0),pb 35 52 [(iv ((l.getD i yO).1)),(iv ((l.getD i yO).2.1)),(iv ((l.getD i yO).2.2))]] (oc (by omega:(0:Int)≤(i:Int)∧(i:Int)<(l.length:Int)) (oc (by omega:0+(((i:Nat):Int):Int).toNat*3=(i*3)) (oc (vN ptC 3 (fun _=>rfl) yO l i 0 3 (by omega) (by decide):(i*3)+3≤((yI l)).length∧(((yI l)).drop (i*3)).take 3=[(iv ((l.getD i yO).1)),(iv ((l.getD i yO).2.1)),(iv ((l.getD i yO).2.2))]) oz))) ?_
  refine qA<|qA<|qL qD [.k2,.d,.k4,.n,.r] [ps 23 (bv (decide (0<(i:Int))))] ?_
  by_cases h5:0<(i:Int)
  ·refine qX (zR h5) ?_
   have hrm2:=hrm.1
   rw [if_neg (show ¬ i=0 from by omega)] at hrm2
   refine zE qD [(3,.call [0,2] [(.opt 0 0),(.av (.int .u8 32))] [some (77,[(.opn 0 0),(.osl 1 0 ((t++zA (l.take i):qJ).length))]),some (5,(qR (t++zA (l.take i))))] (.av .nilIface) [some (77,[(.opn 0 0),(.osl 2 0 (((t++zA (l.take i))++[32]:qJ).length))]),none,some (5,(qR ((t++zA (l.take i))++[32])))])] [.k6,.d,.d,.n,.d,.k1,.n] [pb 0 77 [(.opn 0 0),(.osl 99 0 (((t++zA (l.take i))++[32]:qJ).length))],pb 99 5 (qT (yK [0,2] 99) (qR ((t++zA (l.take i))++[32])))] (oc (YR (t++zA (l.take i)) 32 (by (first|omega|(simp only [List.length_append,List.length_cons,List.length_nil];omega)))) (oc (rfl:[(.opt 0 0),(.av (.int .u8 32))]=qT (qY [0,2] 99) [(.opt 0 0),(.av (.int .u8 32))]) (oc (rfl:[(.opn 0 0),(.osl 2 0 ((t++zA (l.take i):qJ).length))]=qT (qY [0,2] 99) [(.opn 0 0),(.osl 1 0 ((t++zA (l.take i):qJ).length))]) (oc ((qQ (qM _)).symm:(qR (t++zA (l.take i)))=qT (qY [0,2] 99) (qR (t++zA (l.take i)))) oz))))<|qx (Wk.eq (show _=[ps 0 (.opt 0 0),ps 1 (.ssl (yI l) 0 l.length),ps 5 (.opt 35 0),ps 15 (.ssl (yI l) 0 l.length),ps 16 (nv l.length),ps 17 (nv i),pb 0 77 [(.opn 0 0),(.osl 99 0 (((t++zA (l.take i))++[32]:qJ).length))],pb 35 52 [(iv ((l.getD i yO).1)),(iv ((l.getD i yO).2.1)),(iv ((l.getD i yO).2.2))],pb 99 5 (qR ((t++zA (l.take i))++[32]))] from by simp only [qQ (qM _)])) ?_
   refine qA<|yJ qD 1 [.k2,.d,.n,.k4,.d,.r] [ps 6 (sv (st ((wJ ((l.getD i yO).1) ((l.getD i yO).2.1) ((l.getD i yO).2.2)).1)))] (zY 115 (qaf ((l.getD i yO).1) ((l.getD i yO).2.1) ((l.getD i yO).2.2)) oz) ?_
   rw [if_neg (show ¬ i=0 from by omega)] at hrm
   refine qx (Wk.eq (show _=[ps 0 (.opt 0 0),ps 1 (.ssl (yI l) 0 l.length),ps 6 (sv (st (wB (l.getD i yO)))),ps 15 (.ssl (yI l) 0 l.length),ps 16 (nv l.length),ps 17 (nv i),pb 0 77 [(.opn 0 0),(.osl 99 0 (((t++zA (l.take i))++[32]:qJ).length))],pb 99 5 (qR ((t++zA (l.take i))++[32]))] from by rfl)) ?_
   refine zE qD [(4,.call [0,99] [(.opt 0 0),(sv (st (wB (l.getD i yO))))] [some (77,[(.opn 0 0),(.osl 1 0 (((t++zA (l.take i))++[32]:qJ).length))]),some (5,(qR ((t++zA (l.take i))++[32])))] (.tup [(nv (((wB (l.getD i yO))).length)),(.av .nilIface)]) [some (77,[(.opn 0 0),(.osl 2 0 ((((t++zA (l.take i))++[32])++(wB (l.getD i yO)):qJ).length))]),none,some (5,(qR (((t++zA (l.take i))++[32])++(wB (l.getD i yO)))))])] [.k2,.d,.k3,.d,.n,.d,.n] [pb 0 77 [(.opn 0 0),(.osl 195 0 ((((t++zA (l.take i))++[32])++(wB (l.getD i yO)):qJ).length))],pb 195 5 (qT (yK [0,99] 195) (qR (((t++zA (l.take i))++[32])++(wB (l.getD i yO)))))] (oc (wj ((t++zA (l.take i))++[32]) (wB (l.getD i yO)) (by (first|omega|(simp only [List.length_append,List.length_cons,List.length_nil];omega)))) (oc (rfl:[(.opt 0 0),(sv (st (wB (l.getD i yO))))]=qT (qY [0,99] 195) [(.opt 0 0),(sv (st (wB (l.getD i yO))))]) (oc (rfl:[(.opn 0 0),(.osl 99 0 (((t++zA (l.take i))++[32]:qJ).length))]=qT (qY [0,99] 195) [(.opn 0 0),(.osl 1 0 (((t++zA (l.take i))++[32]:qJ).length))]) (oc ((qQ (qM _)).symm:(qR ((t++zA (l.take i))++[32]))=qT (qY [0,99] 195) (qR ((t++zA (l.take i))++[32]))) oz))))<|zM<|qx (Wk.eq (show _=[ps 0 (.opt 0 0),ps 1 (.ssl (yI l) 0 l.length),ps 15 (.ssl (yI l) 0 l.length),ps 16 (nv l.length),ps 17 (nv i),pb 0 77 [(.opn 0 0),(.osl 195 0 ((((t++zA (l.take i))++[32])++(wB (l.getD i yO)):qJ).length))],pb 195 5 (qR (((t++zA (l.take i))++[32])++(wB (l.getD i yO))))] from by simp only [qQ (qM _)])) ?_
   refine zE qD [] [.k4,.d,.n,.r] [ps 17 (iv (((i:Nat):Int)+1))] (oi (((i:Nat):Int)+1) (by omega) oz) ?_
   have hn:=VE (show i<l.length from by omega)
   rw [if_neg (by omega)] at hn
   exact vH ⟨i+1,by show i+1≤l.length;omega⟩ (Wk.trans (Wk.eq (show _=[ps 0 (.opt 0 0),ps 1 (.ssl (yI l) 0 l.length),ps 15 (.ssl (yI l) 0 l.length),ps 16 (nv l.length),ps 17 (nv (i+1)),pb 0 77 [(.opn 0 0),(.osl 195 0 ((t++zA (l.take (i+1)):qJ).length))],pb 195 5 (qR (t++zA (l.take (i+1))))] from by rw [hn];simp only [List.append_assoc];rfl)) (Wk.ren3 _ 2 hc0 [0,1,195] [(kb 2,(qR (t++zA (l.take (i+1)))))] (oc (qM _) (oz)) (by kernel_rfl) rfl rfl (by kernel_rfl) (by kernel_rfl))) (show l.length-(i+1)<l.length-i from by show l.length-(i+1)<l.length-i;omega)
  refine qW (zP h5)<|qF<|qA<|yJ qD 1 [.k2,.d,.n,.k3,.d,.k2,.d] [ps 6 (sv (st ((wJ ((l.getD i yO).1) ((l.getD i yO).2.1) ((l.getD i yO).2.2)).1)))] (zY 83 (qaf ((l.getD i yO).1) ((l.getD i yO).2.1) ((l.getD i yO).2.2)) oz) ?_
  rw [if_pos (show i=0 from by omega)] at hrm
  refine qx (Wk.eq (show _=[ps 0 (.opt 0 0),ps 1 (.ssl (yI l) 0 l.length),ps 6 (sv (st (wB (l.getD i yO)))),ps 15 (.ssl (yI l) 0 l.length),ps 16 (nv l.length),ps 17 (nv i),pb 0 77 [(.opn 0 0),(.osl 2 0 ((t++zA (l.take i):qJ).length))],pb 2 5 (qR (t++zA (l.take i)))] from by rfl)) ?_
  refine zE qD [(4,.call [0,2] [(.opt 0 0),(sv (st (wB (l.getD i yO))))] [some (77,[(.opn 0 0),(.osl 1 0 ((t++zA (l.take i):qJ).length))]),some (5,(qR (t++zA (l.take i))))] (.tup [(nv (((wB (l.getD i yO))).length)),(.av .nilIface)]) [some (77,[(.opn 0 0),(.osl 2 0 (((t++zA (l.take i))++(wB (l.getD i yO)):qJ).length))]),none,some (5,(qR ((t++zA (l.take i))++(wB (l.getD i yO)))))])] [.k2,.d,.k3,.d,.n,.d,.n] [pb 0 77 [(.opn 0 0),(.osl 163 0 (((t++zA (l.take i))++(wB (l.getD i yO)):qJ).length))],pb 163 5 (qT (yK [0,2] 163) (qR ((t++zA (l.take i))++(wB (l.getD i yO)))))] (oc (wj (t++zA (l.take i)) (wB (l.getD i yO)) (by (first|omega|(simp only [List.length_append,List.length_cons,List.length_nil];omega)))) (oc (rfl:[(.opt 0 0),(sv (st (wB (l.getD i yO))))]=qT (qY [0,2] 163) [(.opt 0 0),(sv (st (wB (l.getD i yO))))]) (oc (rfl:[(.opn 0 0),(.osl 2 0 ((t++zA (l.take i):qJ).length))]=qT (qY [0,2] 163) [(.opn 0 0),(.osl 1 0 ((t++zA (l.take i):qJ).length))]) (oc ((qQ (qM _)).symm:(qR (t++zA (l.take i)))=qT (qY [0,2] 163) (qR (t++zA (l.take i)))) oz))))<|zM<|qx (Wk.eq (show _=[ps 0 (.opt 0 0),ps 1 (.ssl (yI l) 0 l.length),ps 15 (.ssl (yI l) 0 l.length),ps 16 (nv l.length),ps 17 (nv i),pb 0 77 [(.opn 0 0),(.osl 163 0 (((t++zA (l.take i))++(wB (l.getD i yO)):qJ).length))],pb 163 5 (qR ((t++zA (l.take i))++(wB (l.getD i yO))))] from by simp only [qQ (qM _)])) ?_
  refine zE qD [] [.k4,.d,.n,.r] [ps 17 (iv (((i:Nat):Int)+1))] (oi (((i:Nat):Int)+1) (by omega) oz) ?_
  have hn:=VE (show i<l.length from by omega)
  rw [if_pos (by omega)] at hn
  exact vH ⟨i+1,by show i+1≤l.length;omega⟩ (Wk.trans (Wk.eq (show _=[ps 0 (.opt 0 0),ps 1 (.ssl (yI l) 0 l.length),ps 15 (.ssl (yI l) 0 l.length),ps 16 (nv l.length),ps 17 (nv (i+1)),pb 0 77 [(.opn 0 0),(.osl 163 0 ((t++zA (l.take (i+1)):qJ).length))],pb 163 5 (qR (t++zA (l.take (i+1))))] from by rw [hn,show i=0 from by omega,List.take_zero,show zA []=[] from rfl,List.append_nil];rfl)) (Wk.ren3 _ 2 hc0 [0,1,163] [(kb 2,(qR (t++zA (l.take (i+1)))))] (oc (qM _) (oz)) (by kernel_rfl) rfl rfl (by kernel_rfl) (by kernel_rfl))) (show l.length-(i+1)<l.length-i from by show l.length-(i+1)<l.length-i;omega)
 refine qW (zP h4)<|vL rfl rfl<|qA<|qx (Wk.eq (show _=[ps 0 (.opt 0 0),ps 1 (.ssl (yI l) 0 l.length),ps 15 (.ssl (yI l) 0 l.length),ps 16 (nv l.length),ps 17 (nv i),ps 18 (bv (decide (((i:Nat):Int)<(l.length:Int)))),pb 0 77 [(.opn 0 0),(.osl 2 0 ((t++zA l:qJ).length))],pb 2 5 (qR (t++zA l))] from by rw [List.take_of_length_le (show l.length≤i from by omega)])) ?_
 refine qL qD [.k1,.d,.d,.d,.d,.d,.n,.r] [ps 41 (bv (decide (1<(l.length:Int))))]<|qW (zP h1)<|qF ?_
 exact fun cx_ a_ hI_=>yw (H':=[some (77,[(.opn 0 0),(.osl 2 0 ((t++ZW l:qJ).length))]),none,some (5,(qR (t++ZW l)))]) (.inl rfl) (Wk.trans (Wk.eq (show _=[ps 0 (.opt 0 0),ps 41 (bv (decide (1<(l.length:Int)))),pb 0 77 [(.opn 0 0),(.osl 2 0 ((t++ZW l:qJ).length))],pb 2 5 (qR (t++ZW l))] from by rw [show ZW l=zA l from if_neg (show ¬ 1<l.length from by omega)])) (Wk.ren3 [pb 0 77 [(.opn 0 0),(.osl 2 0 ((t++ZW l:qJ).length))],pb 2 5 (qR (t++ZW l))] 2 hc0 [0,1,2] [(kb 2,(qR (t++ZW l)))] (oc (qM _) (oz)) (by kernel_rfl) rfl rfl (by kernel_rfl) (by kernel_rfl))) rfl (oc rfl (oc rfl (oz))) (fun cx_ a_ hI_=>yC (l':=[pb 0 77 [(.opn 0 0),(.osl 2 0 ((t++ZW l:qJ).length))],pb 2 5 (qR (t++ZW l))]) (by kernel_rfl) cx_ a_ hI_) hI_
theorem pitem_step (y:It) (t:qJ) (ihL:∀ (l:List It) (t:qJ),SizeOf.sizeOf l<SizeOf.sizeOf y→t.length+(qz l).length≤140737488355328→jH l→l.length≤1466015503658→prL l→PC Tryz.prog 29 [.opt 0 0,.ssl (zT l) 0 l.length] [some (77,[(.opn 0 0),(.osl 1 0 t.length)]),some (5,(qR t))] (.tup []) [some (77,[(.opn 0 0),(.osl 2 0 ((t++qz l:qJ).length))]),none,some (5,(qR (t++qz l)))]) (hb:t.length+(zO y).length≤140737488355328) (hfx:YZ y) (hpr0:prI y):PC Tryz.prog 62 [(.opt 0 0),(.agg [(iv (iK y)),(iv (iS y)),(.ssl (yI (iP y)) 0 ((iP y).length)),(iv ((iB y).1)),(iv ((iB y).2)),(sv (st (iL y))),(.ssl (zT (iC y)) 0 ((iC y).length))])] [some (77,[(.opn 0 0),(.osl 1 0 t.length)]),some (5,(qR t))] (.tup []) [some (77,[(.opn 0 0),(.osl 2 0 ((t++zO y:qJ).length))]),none,some (5,(qR (t++zO y)))]:=by
 obtain ⟨hx1,hx2,hx3,hx4,hx5⟩:=(qav y).1 hfx
 have hpr:=pr_item hpr0
 have hL1:=it_len y
 refine zZ Tryz.func62 rfl (by kernel_rfl) (Nat.le_of_ble_eq_true rfl) (by kernel_rfl) (l0:=[ps 0 (.opt 0 0),ps 1 (.agg [(iv (iK y)),(iv (iS y)),(.ssl (yI (iP y)) 0 ((iP y).length)),(iv ((iB y).1)),(iv ((iB y).2)),(sv (st (iL y))),(.ssl (zT (iC y)) 0 ((iC y).length))]),pb 0 77 [(.opn 0 0),(.osl 1 0 t.length)],pb 1 5 (qR t)]) rfl (fun c0 Bor hc0=>?_)
 refine qA<|qL qD [.k1,.d,.n,.k2,.n] [ps 3 (.opt 2 0),pb 2 50 [(iv (iK y)),(iv (iS y)),(.ssl (yI (iP y)) 0 ((iP y).length)),(iv ((iB y).1)),(iv ((iB y).2)),(sv (st (iL y))),(.ssl (zT (iC y)) 0 ((iC y).length))]]<|qA<|qA<|qL qD [.k2,.n,.r] [ps 7 (iv (iK y))]<|zI<|qA<|qL qD [.k3,.n,.r] [ps 36 (bv (decide ((iK y)=2)))] ?_
 by_cases h1:(iK y)=2
 ·refine qX (zR h1) ?_
  have hM:qH y=[45]:=by unfold qH;rw [if_pos (by omega)]
  have hM2:=congrArg List.length hM
  try simp only [List.length_append,List.length_cons,List.length_nil] at hM2
  refine zE qD [(3,.call [0,1] [(.opt 0 0),(.av (.int .u8 45))] [some (77,[(.opn 0 0),(.osl 1 0 t.length)]),some (5,(qR t))] (.av .nilIface) [some (77,[(.opn 0 0),(.osl 2 0 ((t++[45]:qJ).length))]),none,some (5,(qR (t++[45])))])] [.k2,.d,.d,.d,.n,.d,.k1,.n] [pb 0 77 [(.opn 0 0),(.osl 66 0 ((t++[45]:qJ).length))],pb 66 5 (qT (yK [0,1] 66) (qR (t++[45])))] (oc (YR t 45 (by (first|omega|(simp only [List.length_append,List.length_cons,List.length_nil];omega)))) (oc (rfl:[(.opt 0 0),(.av (.int .u8 45))]=qT (qY [0,1] 66) [(.opt 0 0),(.av (.int .u8 45))]) (oc (rfl:[(.opn 0 0),(.osl 1 0 t.length)]=qT (qY [0,1] 66) [(.opn 0 0),(.osl 1 0 t.length)]) (oc ((qQ (qM _)).symm:(qR t)=qT (qY [0,1] 66) (qR t)) oz))))<|zM<|qx (Wk.eq (show _=[ps 0 (.opt 0 0),ps 3 (.opt 2 0),pb 0 77 [(.opn 0 0),(.osl 66 0 ((t++[45]:qJ).length))],pb 2 50 [(iv (iK y)),(iv (iS y)),(.ssl (yI (iP y)) 0 ((iP y).length)),(iv ((iB y).1)),(iv ((iB y).2)),(sv (st (iL y))),(.ssl (zT (iC y)) 0 ((iC y).length))],pb 66 5 (qR (t++[45]))] from by simp only [qQ (qM _)])) ?_
  refine qA<|qA<|qx (Wk.eq (show _=[ps 0 (.opt 0 0),ps 3 (.opt 2 0),pb 0 77 [(.opn 0 0),(.osl 66 0 ((t++qH y:qJ).length))],pb 2 50 [(iv (iK y)),(iv (iS y)),(.ssl (yI (iP y)) 0 ((iP y).length)),(iv ((iB y).1)),(iv ((iB y).2)),(sv (st (iL y))),(.ssl (zT (iC y)) 0 ((iC y).length))],pb 66 5 (qR (t++qH y))] from by rw [hM];try simp only [List.append_assoc,List.cons_append,List.nil_append])) ?_
  refine qL qD [.k2,.n,.r] [ps 56 (bv (!(decide ((iS y)=1))))] ?_
  by_cases h2:(iS y)=1
  ·refine qW (bt h2)<|qF<|qA ?_
   have hS:qK (iS y)=[]:=if_pos (by omega)
   refine qx (Wk.eq (show _=[ps 0 (.opt 0 0),ps 3 (.opt 2 0),ps 56 (bv (!(decide ((iS y)=1)))),pb 0 77 [(.opn 0 0),(.osl 66 0 ((t++qH y++qK (iS y):qJ).length))],pb 2 50 [(iv (iK y)),(iv (iS y)),(.ssl (yI (iP y)) 0 ((iP y).length)),(iv ((iB y).1)),(iv ((iB y).2)),(sv (st (iL y))),(.ssl (zT (iC y)) 0 ((iC y).length))],pb 66 5 (qR (t++qH y++qK (iS y)))] from by rw [hS];rw [List.append_nil])) ?_
   refine zE qD [(2,.val (.av (.bool (!decide ((iL y)=([]:TX))))))] [.k2,.d,.n,.r] [ps 67 (bv (!(decide ((iL y)=([]:TX)))))] (oc (zw _ _:(!((st (iL y)).toList == (st ([]:TX)).toList)) = !decide ((iL y)=([]:TX))) oz) ?_
   by_cases h3:(iL y)=([]:TX)
   ·refine qW (bt h3)<|qF ?_
    have hT:t++zO y=t++qH y++qK (iS y):=by rw [yx,show wy (iL y)=[] from if_pos (by assumption),List.append_nil,List.append_assoc]
    exact fun cx_ a_ hI_=>yw (H':=[some (77,[(.opn 0 0),(.osl 2 0 ((t++zO y:qJ).length))]),none,some (5,(qR (t++zO y)))]) (.inl rfl) (Wk.trans (Wk.eq (show _=[ps 0 (.opt 0 0),ps 3 (.opt 2 0),ps 67 (bv (!(decide ((iL y)=([]:TX))))),pb 0 77 [(.opn 0 0),(.osl 66 0 ((t++zO y:qJ).length))],pb 2 50 [(iv (iK y)),(iv (iS y)),(.ssl (yI (iP y)) 0 ((iP y).length)),(iv ((iB y).1)),(iv ((iB y).2)),(sv (st (iL y))),(.ssl (zT (iC y)) 0 ((iC y).length))],pb 66 5 (qR (t++zO y))] from by rw [hT])) (Wk.ren3 [pb 0 77 [(.opn 0 0),(.osl 2 0 ((t++zO y:qJ).length))],pb 2 5 (qR (t++zO y))] 2 hc0 [0,1,66] [(kb 2,(qR (t++zO y)))] (oc (qM _) (oz)) (by kernel_rfl) rfl rfl (by kernel_rfl) (by kernel_rfl))) rfl (oc rfl (oc rfl (oz))) (fun cx_ a_ hI_=>yC (l':=[pb 0 77 [(.opn 0 0),(.osl 2 0 ((t++zO y:qJ).length))],pb 2 5 (qR (t++zO y))]) (by kernel_rfl) cx_ a_ hI_) hI_
   refine qX (bf h3) ?_
   have hY:wy (iL y)=[32,34]++iL y++[34]:=if_neg (by assumption)
   have hY2:=congrArg List.length hY
   simp only [List.length_append,List.length_cons,List.length_nil] at hY2
   refine jQ qD [(5,.val (.av (.string (st (([32,34]:TX)++(iL y)))))),(6,.val (.av (.string (st ((([32,34]:TX)++(iL y))++([34]:TX)))))),(7,.call [0,66] [(.opt 0 0),(sv (st ((([32,34]:TX)++(iL y))++([34]:TX))))] [some (77,[(.opn 0 0),(.osl 1 0 ((t++qH y++qK (iS y):qJ).length))]),some (5,(qR (t++qH y++qK (iS y))))] (.tup [(nv ((((([32,34]:TX)++(iL y))++([34]:TX))).length)),(.av .nilIface)]) [some (77,[(.opn 0 0),(.osl 2 0 (((t++qH y++qK (iS y))++((([32,34]:TX)++(iL y))++([34]:TX)):qJ).length))]),none,some (5,(qR ((t++qH y++qK (iS y))++((([32,34]:TX)++(iL y))++([34]:TX)))))])] [[],[0],[0,1],[],[3],[3,4],[3,4,5],[0,1,2,3,4,5,6]] [([136],[0]),([138],[136]),([140],[138]),([142],[6]),([144],[5,142]),([146],[144]),([148],[146]),([150,1,133,357],[1,133,140,148])] [pb 0 77 [(.opn 0 0),(.osl 178 0 (((t++qH y++qK (iS y))++((([32,34]:TX)++(iL y))++([34]:TX)):qJ).length))],pb 178 5 (qT (yK [0,66] 178) (qR ((t++qH y++qK (iS y))++((([32,34]:TX)++(iL y))++([34]:TX)))))] (oc (by first|omega|(simp <;> omega):((([32,34]:TX).length+(iL y).length:Nat):Int)≤9223372036854775807) (oc (qj _ _:st ([32,34]:TX)++st (iL y)=st (([32,34]:TX)++(iL y))) (oc (by first|omega|(simp <;> omega):(((([32,34]:TX)++(iL y)).length+([34]:TX).length:Nat):Int)≤9223372036854775807) (oc (qj _ _:st (([32,34]:TX)++(iL y))++st ([34]:TX)=st ((([32,34]:TX)++(iL y))++([34]:TX))) (oc (wj (t++qH y++qK (iS y)) ((([32,34]:TX)++(iL y))++([34]:TX)) (by (first|omega|(simp only [List.length_append,List.length_cons,List.length_nil];omega)))) (oc (rfl:[(.opt 0 0),(sv (st ((([32,34]:TX)++(iL y))++([34]:TX))))]=qT (qY [0,66] 178) [(.opt 0 0),(sv (st ((([32,34]:TX)++(iL y))++([34]:TX))))]) (oc (rfl:[(.opn 0 0),(.osl 66 0 ((t++qH y++qK (iS y):qJ).length))]=qT (qY [0,66] 178) [(.opn 0 0),(.osl 1 0 ((t++qH y++qK (iS y):qJ).length))]) (oc ((qQ (qM _)).symm:(qR (t++qH y++qK (iS y)))=qT (qY [0,66] 178) (qR (t++qH y++qK (iS y)))) oz)))))))) ?_
   have hT:t++zO y=t++qH y++qK (iS y)++([32,34]++iL y++[34]):=by rw [yx,hY];simp only [List.append_assoc]
   exact fun cx_ a_ hI_=>yw (H':=[some (77,[(.opn 0 0),(.osl 2 0 ((t++zO y:qJ).length))]),none,some (5,(qR (t++zO y)))]) (.inl rfl) (Wk.trans (Wk.eq (show _=[pb 0 77 [(.opn 0 0),(.osl 178 0 (((t++qH y++qK (iS y))++((([32,34]:TX)++(iL y))++([34]:TX)):qJ).length))],pb 178 5 (qR ((t++qH y++qK (iS y))++((([32,34]:TX)++(iL y))++([34]:TX))))] from by simp only [qQ (qM _)])) (Wk.trans (Wk.eq (show _=[pb 0 77 [(.opn 0 0),(.osl 178 0 ((t++zO y:qJ).length))],pb 178 5 (qR (t++zO y))] from by rw [hT])) (Wk.ren3 [pb 0 77 [(.opn 0 0),(.osl 2 0 ((t++zO y:qJ).length))],pb 2 5 (qR (t++zO y))] 2 hc0 [0,1,178] [(kb 2,(qR (t++zO y)))] (oc (qM _) (oz)) (by kernel_rfl) rfl rfl (by kernel_rfl) (by kernel_rfl)))) rfl (oc rfl (oc rfl (oz))) (fun cx_ a_ hI_=>yC (l':=[pb 0 77 [(.opn 0 0),(.osl 2 0 ((t++zO y:qJ).length))],pb 2 5 (qR (t++zO y))]) (by kernel_rfl) cx_ a_ hI_) hI_
  refine qX (bf h2) ?_
  have hS:qK (iS y)=[42]++Lib.itoa (iS y):=if_neg (by omega)
  have hS2:=congrArg List.length hS
  simp only [List.length_append,List.length_cons,List.length_nil] at hS2
  have hIt:=Lib.itoa_length_le (iS y) (by omega) (by omega)
  refine ZG qD [(5,.call [] [(iv (iS y))] [] (sv (st (Lib.itoa (iS y)))) []),(6,.val (.av (.string (st (([42]:TX)++(Lib.itoa (iS y))))))),(7,.call [0,66] [(.opt 0 0),(sv (st (([42]:TX)++(Lib.itoa (iS y)))))] [some (77,[(.opn 0 0),(.osl 1 0 ((t++qH y:qJ).length))]),some (5,(qR (t++qH y)))] (.tup [(nv (((([42]:TX)++(Lib.itoa (iS y)))).length)),(.av .nilIface)]) [some (77,[(.opn 0 0),(.osl 2 0 (((t++qH y)++(([42]:TX)++(Lib.itoa (iS y))):qJ).length))]),none,some (5,(qR ((t++qH y)++(([42]:TX)++(Lib.itoa (iS y))))))])] [[],[0],[0,1],[],[3],[3,4],[3,4,5],[0,1,2,3,4,5,6]] [([114],[0]),([116],[114]),([118],[116]),([120],[6]),([122],[5,120]),([124],[122]),([126],[124]),([128,1,133,309],[1,118,126,133])] [.k2,.d,.d,.n,.k1,.d,.n] [pb 0 77 [(.opn 0 0),(.osl 154 0 (((t++qH y)++(([42]:TX)++(Lib.itoa (iS y))):qJ).length))],pb 154 5 (qT (yK [0,66] 154) (qR ((t++qH y)++(([42]:TX)++(Lib.itoa (iS y))))))] (zY 138 (zz (iS y) (by omega) (by omega)) (oc (by first|omega|(simp <;> omega):((([42]:TX).length+(Lib.itoa (iS y)).length:Nat):Int)≤9223372036854775807) (oc (qj _ _:st ([42]:TX)++st (Lib.itoa (iS y))=st (([42]:TX)++(Lib.itoa (iS y)))) (oc (wj (t++qH y) (([42]:TX)++(Lib.itoa (iS y))) (by (first|omega|(simp only [List.length_append,List.length_cons,List.length_nil];omega)))) (oc (rfl:[(.opt 0 0),(sv (st (([42]:TX)++(Lib.itoa (iS y)))))]=qT (qY [0,66] 154) [(.opt 0 0),(sv (st (([42]:TX)++(Lib.itoa (iS y)))))]) (oc (rfl:[(.opn 0 0),(.osl 66 0 ((t++qH y:qJ).length))]=qT (qY [0,66] 154) [(.opn 0 0),(.osl 1 0 ((t++qH y:qJ).length))]) (oc ((qQ (qM _)).symm:(qR (t++qH y))=qT (qY [0,66] 154) (qR (t++qH y))) oz)))))))<|qx (Wk.eq (show _=[ps 0 (.opt 0 0),ps 3 (.opt 2 0),pb 0 77 [(.opn 0 0),(.osl 154 0 (((t++qH y)++(([42]:TX)++(Lib.itoa (iS y))):qJ).length))],pb 2 50 [(iv (iK y)),(iv (iS y)),(.ssl (yI (iP y)) 0 ((iP y).length)),(iv ((iB y).1)),(iv ((iB y).2)),(sv (st (iL y))),(.ssl (zT (iC y)) 0 ((iC y).length))],pb 154 5 (qR ((t++qH y)++(([42]:TX)++(Lib.itoa (iS y)))))] from by simp only [qQ (qM _)])) ?_
  refine qA<|qx (Wk.eq (show _=[ps 0 (.opt 0 0),ps 3 (.opt 2 0),pb 0 77 [(.opn 0 0),(.osl 154 0 ((t++qH y++qK (iS y):qJ).length))],pb 2 50 [(iv (iK y)),(iv (iS y)),(.ssl (yI (iP y)) 0 ((iP y).length)),(iv ((iB y).1)),(iv ((iB y).2)),(sv (st (iL y))),(.ssl (zT (iC y)) 0 ((iC y).length))],pb 154 5 (qR (t++qH y++qK (iS y)))] from by rw [hS])) ?_
  refine zE qD [(2,.val (.av (.bool (!decide ((iL y)=([]:TX))))))] [.k2,.n,.r] [ps 67 (bv (!(decide ((iL y)=([]:TX)))))] (oc (zw _ _:(!((st (iL y)).toList == (st ([]:TX)).toList)) = !decide ((iL y)=([]:TX))) oz) ?_
  by_cases h4:(iL y)=([]:TX)
  ·refine qW (bt h4)<|qF ?_
   have hT:t++zO y=t++qH y++qK (iS y):=by rw [yx,show wy (iL y)=[] from if_pos (by assumption),List.append_nil,List.append_assoc]
   exact fun cx_ a_ hI_=>yw (H':=[some (77,[(.opn 0 0),(.osl 2 0 ((t++zO y:qJ).length))]),none,some (5,(qR (t++zO y)))]) (.inl rfl) (Wk.trans (Wk.eq (show _=[ps 0 (.opt 0 0),ps 3 (.opt 2 0),ps 67 (bv (!(decide ((iL y)=([]:TX))))),pb 0 77 [(.opn 0 0),(.osl 154 0 ((t++zO y:qJ).length))],pb 2 50 [(iv (iK y)),(iv (iS y)),(.ssl (yI (iP y)) 0 ((iP y).length)),(iv ((iB y).1)),(iv ((iB y).2)),(sv (st (iL y))),(.ssl (zT (iC y)) 0 ((iC y).length))],pb 154 5 (qR (t++zO y))] from by rw [hT])) (Wk.ren3 [pb 0 77 [(.opn 0 0),(.osl 2 0 ((t++zO y:qJ).length))],pb 2 5 (qR (t++zO y))] 2 hc0 [0,1,154] [(kb 2,(qR (t++zO y)))] (oc (qM _) (oz)) (by kernel_rfl) rfl rfl (by kernel_rfl) (by kernel_rfl))) rfl (oc rfl (oc rfl (oz))) (fun cx_ a_ hI_=>yC (l':=[pb 0 77 [(.opn 0 0),(.osl 2 0 ((t++zO y:qJ).length))],pb 2 5 (qR (t++zO y))]) (by kernel_rfl) cx_ a_ hI_) hI_
  refine qX (bf h4) ?_
  have hY:wy (iL y)=[32,34]++iL y++[34]:=if_neg (by assumption)
  have hY2:=congrArg List.length hY
  simp only [List.length_append,List.length_cons,List.length_nil] at hY2
  refine jQ qD [(5,.val (.av (.string (st (([32,34]:TX)++(iL y)))))),(6,.val (.av (.string (st ((([32,34]:TX)++(iL y))++([34]:TX)))))),(7,.call [0,154] [(.opt 0 0),(sv (st ((([32,34]:TX)++(iL y))++([34]:TX))))] [some (77,[(.opn 0 0),(.osl 1 0 ((t++qH y++qK (iS y):qJ).length))]),some (5,(qR (t++qH y++qK (iS y))))] (.tup [(nv ((((([32,34]:TX)++(iL y))++([34]:TX))).length)),(.av .nilIface)]) [some (77,[(.opn 0 0),(.osl 2 0 (((t++qH y++qK (iS y))++((([32,34]:TX)++(iL y))++([34]:TX)):qJ).length))]),none,some (5,(qR ((t++qH y++qK (iS y))++((([32,34]:TX)++(iL y))++([34]:TX)))))])] [[],[0],[0,1],[],[3],[3,4],[3,4,5],[0,1,2,3,4,5,6]] [([136],[0]),([138],[136]),([140],[138]),([142],[6]),([144],[5,142]),([146],[144]),([148],[146]),([150,1,309,485],[1,140,148,309])] [pb 0 77 [(.opn 0 0),(.osl 242 0 (((t++qH y++qK (iS y))++((([32,34]:TX)++(iL y))++([34]:TX)):qJ).length))],pb 242 5 (qT (yK [0,154] 242) (qR ((t++qH y++qK (iS y))++((([32,34]:TX)++(iL y))++([34]:TX)))))] (oc (by first|omega|(simp <;> omega):((([32,34]:TX).length+(iL y).length:Nat):Int)≤9223372036854775807) (oc (qj _ _:st ([32,34]:TX)++st (iL y)=st (([32,34]:TX)++(iL y))) (oc (by first|omega|(simp <;> omega):(((([32,34]:TX)++(iL y)).length+([34]:TX).length:Nat):Int)≤9223372036854775807) (oc (qj _ _:st (([32,34]:TX)++(iL y))++st ([34]:TX)=st ((([32,34]:TX)++(iL y))++([34]:TX))) (oc (wj (t++qH y++qK (iS y)) ((([32,34]:TX)++(iL y))++([34]:TX)) (by (first|omega|(simp only [List.length_append,List.length_cons,List.length_nil];omega)))) (oc (rfl:[(.opt 0 0),(sv (st ((([32,34]:TX)++(iL y))++([34]:TX))))]=qT (qY [0,154] 242) [(.opt 0 0),(sv (st ((([32,34]:TX)++(iL y))++([34]:TX))))]) (oc (rfl:[(.opn 0 0),(.osl 154 0 ((t++qH y++qK (iS y):qJ).length))]=qT (qY [0,154] 242) [(.opn 0 0),(.osl 1 0 ((t++qH y++qK (iS y):qJ).length))]) (oc ((qQ (qM _)).symm:(qR (t++qH y++qK (iS y)))=qT (qY [0,154] 242) (qR (t++qH y++qK (iS y)))) oz)))))))) ?_
  have hT:t++zO y=t++qH y++qK (iS y)++([32,34]++iL y++[34]):=by rw [yx,hY];simp only [List.append_assoc]
  exact fun cx_ a_ hI_=>yw (H':=[some (77,[(.opn 0 0),(.osl 2 0 ((t++zO y:qJ).length))]),none,some (5,(qR (t++zO y)))]) (.inl rfl) (Wk.trans (Wk.eq (show _=[pb 0 77 [(.opn 0 0),(.osl 242 0 (((t++qH y++qK (iS y))++((([32,34]:TX)++(iL y))++([34]:TX)):qJ).length))],pb 242 5 (qR ((t++qH y++qK (iS y))++((([32,34]:TX)++(iL y))++([34]:TX))))] from by simp only [qQ (qM _)])) (Wk.trans (Wk.eq (show _=[pb 0 77 [(.opn 0 0),(.osl 242 0 ((t++zO y:qJ).length))],pb 242 5 (qR (t++zO y))] from by rw [hT])) (Wk.ren3 [pb 0 77 [(.opn 0 0),(.osl 2 0 ((t++zO y:qJ).length))],pb 2 5 (qR (t++zO y))] 2 hc0 [0,1,242] [(kb 2,(qR (t++zO y)))] (oc (qM _) (oz)) (by kernel_rfl) rfl rfl (by kernel_rfl) (by kernel_rfl)))) rfl (oc rfl (oc rfl (oz))) (fun cx_ a_ hI_=>yC (l':=[pb 0 77 [(.opn 0 0),(.osl 2 0 ((t++zO y:qJ).length))],pb 2 5 (qR (t++zO y))]) (by kernel_rfl) cx_ a_ hI_) hI_
 refine qW (zP h1)<|qA<|qL qD [.k3,.d,.n,.r] [ps 42 (bv (decide ((iK y)=3)))] ?_
 by_cases h5:(iK y)=3
 ·refine qX (zR h5) ?_
  have hM:qH y=[126]:=by unfold qH;rw [if_neg (by omega),if_pos (by omega)]
  have hM2:=congrArg List.length hM
  try simp only [List.length_append,List.length_cons,List.length_nil] at hM2
  refine zE qD [(3,.call [0,1] [(.opt 0 0),(.av (.int .u8 126))] [some (77,[(.opn 0 0),(.osl 1 0 t.length)]),some (5,(qR t))] (.av .nilIface) [some (77,[(.opn 0 0),(.osl 2 0 ((t++[126]:qJ).length))]),none,some (5,(qR (t++[126])))])] [.k2,.d,.d,.d,.n,.d,.k1,.n] [pb 0 77 [(.opn 0 0),(.osl 82 0 ((t++[126]:qJ).length))],pb 82 5 (qT (yK [0,1] 82) (qR (t++[126])))] (oc (YR t 126 (by (first|omega|(simp only [List.length_append,List.length_cons,List.length_nil];omega)))) (oc (rfl:[(.opt 0 0),(.av (.int .u8 126))]=qT (qY [0,1] 82) [(.opt 0 0),(.av (.int .u8 126))]) (oc (rfl:[(.opn 0 0),(.osl 1 0 t.length)]=qT (qY [0,1] 82) [(.opn 0 0),(.osl 1 0 t.length)]) (oc ((qQ (qM _)).symm:(qR t)=qT (qY [0,1] 82) (qR t)) oz))))<|zM<|qx (Wk.eq (show _=[ps 0 (.opt 0 0),ps 3 (.opt 2 0),pb 0 77 [(.opn 0 0),(.osl 82 0 ((t++[126]:qJ).length))],pb 2 50 [(iv (iK y)),(iv (iS y)),(.ssl (yI (iP y)) 0 ((iP y).length)),(iv ((iB y).1)),(iv ((iB y).2)),(sv (st (iL y))),(.ssl (zT (iC y)) 0 ((iC y).length))],pb 82 5 (qR (t++[126]))] from by simp only [qQ (qM _)])) ?_
  refine qA<|qA<|qx (Wk.eq (show _=[ps 0 (.opt 0 0),ps 3 (.opt 2 0),pb 0 77 [(.opn 0 0),(.osl 82 0 ((t++qH y:qJ).length))],pb 2 50 [(iv (iK y)),(iv (iS y)),(.ssl (yI (iP y)) 0 ((iP y).length)),(iv ((iB y).1)),(iv ((iB y).2)),(sv (st (iL y))),(.ssl (zT (iC y)) 0 ((iC y).length))],pb 82 5 (qR (t++qH y))] from by rw [hM];try simp only [List.append_assoc,List.cons_append,List.nil_append])) ?_
  refine qL qD [.k2,.n,.r] [ps 56 (bv (!(decide ((iS y)=1))))] ?_
  by_cases h6:(iS y)=1
  ·refine qW (bt h6)<|qF<|qA ?_
   have hS:qK (iS y)=[]:=if_pos (by omega)
   refine qx (Wk.eq (show _=[ps 0 (.opt 0 0),ps 3 (.opt 2 0),ps 56 (bv (!(decide ((iS y)=1)))),pb 0 77 [(.opn 0 0),(.osl 82 0 ((t++qH y++qK (iS y):qJ).length))],pb 2 50 [(iv (iK y)),(iv (iS y)),(.ssl (yI (iP y)) 0 ((iP y).length)),(iv ((iB y).1)),(iv ((iB y).2)),(sv (st (iL y))),(.ssl (zT (iC y)) 0 ((iC y).length))],pb 82 5 (qR (t++qH y++qK (iS y)))] from by rw [hS];rw [List.append_nil])) ?_
   refine zE qD [(2,.val (.av (.bool (!decide ((iL y)=([]:TX))))))] [.k2,.d,.n,.r] [ps 67 (bv (!(decide ((iL y)=([]:TX)))))] (oc (zw _ _:(!((st (iL y)).toList == (st ([]:TX)).toList)) = !decide ((iL y)=([]:TX))) oz) ?_
   by_cases h7:(iL y)=([]:TX)
   ·refine qW (bt h7)<|qF ?_
    have hT:t++zO y=t++qH y++qK (iS y):=by rw [yx,show wy (iL y)=[] from if_pos (by assumption),List.append_nil,List.append_assoc]
    exact fun cx_ a_ hI_=>yw (H':=[some (77,[(.opn 0 0),(.osl 2 0 ((t++zO y:qJ).length))]),none,some (5,(qR (t++zO y)))]) (.inl rfl) (Wk.trans (Wk.eq (show _=[ps 0 (.opt 0 0),ps 3 (.opt 2 0),ps 67 (bv (!(decide ((iL y)=([]:TX))))),pb 0 77 [(.opn 0 0),(.osl 82 0 ((t++zO y:qJ).length))],pb 2 50 [(iv (iK y)),(iv (iS y)),(.ssl (yI (iP y)) 0 ((iP y).length)),(iv ((iB y).1)),(iv ((iB y).2)),(sv (st (iL y))),(.ssl (zT (iC y)) 0 ((iC y).length))],pb 82 5 (qR (t++zO y))] from by rw [hT])) (Wk.ren3 [pb 0 77 [(.opn 0 0),(.osl 2 0 ((t++zO y:qJ).length))],pb 2 5 (qR (t++zO y))] 2 hc0 [0,1,82] [(kb 2,(qR (t++zO y)))] (oc (qM _) (oz)) (by kernel_rfl) rfl rfl (by kernel_rfl) (by kernel_rfl))) rfl (oc rfl (oc rfl (oz))) (fun cx_ a_ hI_=>yC (l':=[pb 0 77 [(.opn 0 0),(.osl 2 0 ((t++zO y:qJ).length))],pb 2 5 (qR (t++zO y))]) (by kernel_rfl) cx_ a_ hI_) hI_
   refine qX (bf h7) ?_
   have hY:wy (iL y)=[32,34]++iL y++[34]:=if_neg (by assumption)
   have hY2:=congrArg List.length hY
   simp only [List.length_append,List.length_cons,List.length_nil] at hY2
   refine jQ qD [(5,.val (.av (.string (st (([32,34]:TX)++(iL y)))))),(6,.val (.av (.string (st ((([32,34]:TX)++(iL y))++([34]:TX)))))),(7,.call [0,82] [(.opt 0 0),(sv (st ((([32,34]:TX)++(iL y))++([34]:TX))))] [some (77,[(.opn 0 0),(.osl 1 0 ((t++qH y++qK (iS y):qJ).length))]),some (5,(qR (t++qH y++qK (iS y))))] (.tup [(nv ((((([32,34]:TX)++(iL y))++([34]:TX))).length)),(.av .nilIface)]) [some (77,[(.opn 0 0),(.osl 2 0 (((t++qH y++qK (iS y))++((([32,34]:TX)++(iL y))++([34]:TX)):qJ).length))]),none,some (5,(qR ((t++qH y++qK (iS y))++((([32,34]:TX)++(iL y))++([34]:TX)))))])] [[],[0],[0,1],[],[3],[3,4],[3,4,5],[0,1,2,3,4,5,6]] [([136],[0]),([138],[136]),([140],[138]),([142],[6]),([144],[5,142]),([146],[144]),([148],[146]),([150,1,165,389],[1,140,148,165])] [pb 0 77 [(.opn 0 0),(.osl 194 0 (((t++qH y++qK (iS y))++((([32,34]:TX)++(iL y))++([34]:TX)):qJ).length))],pb 194 5 (qT (yK [0,82] 194) (qR ((t++qH y++qK (iS y))++((([32,34]:TX)++(iL y))++([34]:TX)))))] (oc (by first|omega|(simp <;> omega):((([32,34]:TX).length+(iL y).length:Nat):Int)≤9223372036854775807) (oc (qj _ _:st ([32,34]:TX)++st (iL y)=st (([32,34]:TX)++(iL y))) (oc (by first|omega|(simp <;> omega):(((([32,34]:TX)++(iL y)).length+([34]:TX).length:Nat):Int)≤9223372036854775807) (oc (qj _ _:st (([32,34]:TX)++(iL y))++st ([34]:TX)=st ((([32,34]:TX)++(iL y))++([34]:TX))) (oc (wj (t++qH y++qK (iS y)) ((([32,34]:TX)++(iL y))++([34]:TX)) (by (first|omega|(simp only [List.length_append,List.length_cons,List.length_nil];omega)))) (oc (rfl:[(.opt 0 0),(sv (st ((([32,34]:TX)++(iL y))++([34]:TX))))]=qT (qY [0,82] 194) [(.opt 0 0),(sv (st ((([32,34]:TX)++(iL y))++([34]:TX))))]) (oc (rfl:[(.opn 0 0),(.osl 82 0 ((t++qH y++qK (iS y):qJ).length))]=qT (qY [0,82] 194) [(.opn 0 0),(.osl 1 0 ((t++qH y++qK (iS y):qJ).length))]) (oc ((qQ (qM _)).symm:(qR (t++qH y++qK (iS y)))=qT (qY [0,82] 194) (qR (t++qH y++qK (iS y)))) oz)))))))) ?_
   have hT:t++zO y=t++qH y++qK (iS y)++([32,34]++iL y++[34]):=by rw [yx,hY];simp only [List.append_assoc]
   exact fun cx_ a_ hI_=>yw (H':=[some (77,[(.opn 0 0),(.osl 2 0 ((t++zO y:qJ).length))]),none,some (5,(qR (t++zO y)))]) (.inl rfl) (Wk.trans (Wk.eq (show _=[pb 0 77 [(.opn 0 0),(.osl 194 0 (((t++qH y++qK (iS y))++((([32,34]:TX)++(iL y))++([34]:TX)):qJ).length))],pb 194 5 (qR ((t++qH y++qK (iS y))++((([32,34]:TX)++(iL y))++([34]:TX))))] from by simp only [qQ (qM _)])) (Wk.trans (Wk.eq (show _=[pb 0 77 [(.opn 0 0),(.osl 194 0 ((t++zO y:qJ).length))],pb 194 5 (qR (t++zO y))] from by rw [hT])) (Wk.ren3 [pb 0 77 [(.opn 0 0),(.osl 2 0 ((t++zO y:qJ).length))],pb 2 5 (qR (t++zO y))] 2 hc0 [0,1,194] [(kb 2,(qR (t++zO y)))] (oc (qM _) (oz)) (by kernel_rfl) rfl rfl (by kernel_rfl) (by kernel_rfl)))) rfl (oc rfl (oc rfl (oz))) (fun cx_ a_ hI_=>yC (l':=[pb 0 77 [(.opn 0 0),(.osl 2 0 ((t++zO y:qJ).length))],pb 2 5 (qR (t++zO y))]) (by kernel_rfl) cx_ a_ hI_) hI_
  refine qX (bf h6) ?_
  have hS:qK (iS y)=[42]++Lib.itoa (iS y):=if_neg (by omega)
  have hS2:=congrArg List.length hS
  simp only [List.length_append,List.length_cons,List.length_nil] at hS2
  have hIt:=Lib.itoa_length_le (iS y) (by omega) (by omega)
  refine ZG qD [(5,.call [] [(iv (iS y))] [] (sv (st (Lib.itoa (iS y)))) []),(6,.val (.av (.string (st (([42]:TX)++(Lib.itoa (iS y))))))),(7,.call [0,82] [(.opt 0 0),(sv (st (([42]:TX)++(Lib.itoa (iS y)))))] [some (77,[(.opn 0 0),(.osl 1 0 ((t++qH y:qJ).length))]),some (5,(qR (t++qH y)))] (.tup [(nv (((([42]:TX)++(Lib.itoa (iS y)))).length)),(.av .nilIface)]) [some (77,[(.opn 0 0),(.osl 2 0 (((t++qH y)++(([42]:TX)++(Lib.itoa (iS y))):qJ).length))]),none,some (5,(qR ((t++qH y)++(([42]:TX)++(Lib.itoa (iS y))))))])] [[],[0],[0,1],[],[3],[3,4],[3,4,5],[0,1,2,3,4,5,6]] [([114],[0]),([116],[114]),([118],[116]),([120],[6]),([122],[5,120]),([124],[122]),([126],[124]),([128,1,165,341],[1,118,126,165])] [.k2,.d,.d,.n,.k1,.d,.n] [pb 0 77 [(.opn 0 0),(.osl 170 0 (((t++qH y)++(([42]:TX)++(Lib.itoa (iS y))):qJ).length))],pb 170 5 (qT (yK [0,82] 170) (qR ((t++qH y)++(([42]:TX)++(Lib.itoa (iS y))))))] (zY 154 (zz (iS y) (by omega) (by omega)) (oc (by first|omega|(simp <;> omega):((([42]:TX).length+(Lib.itoa (iS y)).length:Nat):Int)≤9223372036854775807) (oc (qj _ _:st ([42]:TX)++st (Lib.itoa (iS y))=st (([42]:TX)++(Lib.itoa (iS y)))) (oc (wj (t++qH y) (([42]:TX)++(Lib.itoa (iS y))) (by (first|omega|(simp only [List.length_append,List.length_cons,List.length_nil];omega)))) (oc (rfl:[(.opt 0 0),(sv (st (([42]:TX)++(Lib.itoa (iS y)))))]=qT (qY [0,82] 170) [(.opt 0 0),(sv (st (([42]:TX)++(Lib.itoa (iS y)))))]) (oc (rfl:[(.opn 0 0),(.osl 82 0 ((t++qH y:qJ).length))]=qT (qY [0,82] 170) [(.opn 0 0),(.osl 1 0 ((t++qH y:qJ).length))]) (oc ((qQ (qM _)).symm:(qR (t++qH y))=qT (qY [0,82] 170) (qR (t++qH y))) oz)))))))<|qx (Wk.eq (show _=[ps 0 (.opt 0 0),ps 3 (.opt 2 0),pb 0 77 [(.opn 0 0),(.osl 170 0 (((t++qH y)++(([42]:TX)++(Lib.itoa (iS y))):qJ).length))],pb 2 50 [(iv (iK y)),(iv (iS y)),(.ssl (yI (iP y)) 0 ((iP y).length)),(iv ((iB y).1)),(iv ((iB y).2)),(sv (st (iL y))),(.ssl (zT (iC y)) 0 ((iC y).length))],pb 170 5 (qR ((t++qH y)++(([42]:TX)++(Lib.itoa (iS y)))))] from by simp only [qQ (qM _)])) ?_
  refine qA<|qx (Wk.eq (show _=[ps 0 (.opt 0 0),ps 3 (.opt 2 0),pb 0 77 [(.opn 0 0),(.osl 170 0 ((t++qH y++qK (iS y):qJ).length))],pb 2 50 [(iv (iK y)),(iv (iS y)),(.ssl (yI (iP y)) 0 ((iP y).length)),(iv ((iB y).1)),(iv ((iB y).2)),(sv (st (iL y))),(.ssl (zT (iC y)) 0 ((iC y).length))],pb 170 5 (qR (t++qH y++qK (iS y)))] from by rw [hS])) ?_
  refine zE qD [(2,.val (.av (.bool (!decide ((iL y)=([]:TX))))))] [.k2,.n,.r] [ps 67 (bv (!(decide ((iL y)=([]:TX)))))] (oc (zw _ _:(!((st (iL y)).toList == (st ([]:TX)).toList)) = !decide ((iL y)=([]:TX))) oz) ?_
  by_cases h8:(iL y)=([]:TX)
  ·refine qW (bt h8)<|qF ?_
   have hT:t++zO y=t++qH y++qK (iS y):=by rw [yx,show wy (iL y)=[] from if_pos (by assumption),List.append_nil,List.append_assoc]
   exact fun cx_ a_ hI_=>yw (H':=[some (77,[(.opn 0 0),(.osl 2 0 ((t++zO y:qJ).length))]),none,some (5,(qR (t++zO y)))]) (.inl rfl) (Wk.trans (Wk.eq (show _=[ps 0 (.opt 0 0),ps 3 (.opt 2 0),ps 67 (bv (!(decide ((iL y)=([]:TX))))),pb 0 77 [(.opn 0 0),(.osl 170 0 ((t++zO y:qJ).length))],pb 2 50 [(iv (iK y)),(iv (iS y)),(.ssl (yI (iP y)) 0 ((iP y).length)),(iv ((iB y).1)),(iv ((iB y).2)),(sv (st (iL y))),(.ssl (zT (iC y)) 0 ((iC y).length))],pb 170 5 (qR (t++zO y))] from by rw [hT])) (Wk.ren3 [pb 0 77 [(.opn 0 0),(.osl 2 0 ((t++zO y:qJ).length))],pb 2 5 (qR (t++zO y))] 2 hc0 [0,1,170] [(kb 2,(qR (t++zO y)))] (oc (qM _) (oz)) (by kernel_rfl) rfl rfl (by kernel_rfl) (by kernel_rfl))) rfl (oc rfl (oc rfl (oz))) (fun cx_ a_ hI_=>yC (l':=[pb 0 77 [(.opn 0 0),(.osl 2 0 ((t++zO y:qJ).length))],pb 2 5 (qR (t++zO y))]) (by kernel_rfl) cx_ a_ hI_) hI_
  refine qX (bf h8) ?_
  have hY:wy (iL y)=[32,34]++iL y++[34]:=if_neg (by assumption)
  have hY2:=congrArg List.length hY
  simp only [List.length_append,List.length_cons,List.length_nil] at hY2
  refine jQ qD [(5,.val (.av (.string (st (([32,34]:TX)++(iL y)))))),(6,.val (.av (.string (st ((([32,34]:TX)++(iL y))++([34]:TX)))))),(7,.call [0,170] [(.opt 0 0),(sv (st ((([32,34]:TX)++(iL y))++([34]:TX))))] [some (77,[(.opn 0 0),(.osl 1 0 ((t++qH y++qK (iS y):qJ).length))]),some (5,(qR (t++qH y++qK (iS y))))] (.tup [(nv ((((([32,34]:TX)++(iL y))++([34]:TX))).length)),(.av .nilIface)]) [some (77,[(.opn 0 0),(.osl 2 0 (((t++qH y++qK (iS y))++((([32,34]:TX)++(iL y))++([34]:TX)):qJ).length))]),none,some (5,(qR ((t++qH y++qK (iS y))++((([32,34]:TX)++(iL y))++([34]:TX)))))])] [[],[0],[0,1],[],[3],[3,4],[3,4,5],[0,1,2,3,4,5,6]] [([136],[0]),([138],[136]),([140],[138]),([142],[6]),([144],[5,142]),([146],[144]),([148],[146]),([150,1,341,517],[1,140,148,341])] [pb 0 77 [(.opn 0 0),(.osl 258 0 (((t++qH y++qK (iS y))++((([32,34]:TX)++(iL y))++([34]:TX)):qJ).length))],pb 258 5 (qT (yK [0,170] 258) (qR ((t++qH y++qK (iS y))++((([32,34]:TX)++(iL y))++([34]:TX)))))] (oc (by first|omega|(simp <;> omega):((([32,34]:TX).length+(iL y).length:Nat):Int)≤9223372036854775807) (oc (qj _ _:st ([32,34]:TX)++st (iL y)=st (([32,34]:TX)++(iL y))) (oc (by first|omega|(simp <;> omega):(((([32,34]:TX)++(iL y)).length+([34]:TX).length:Nat):Int)≤9223372036854775807) (oc (qj _ _:st (([32,34]:TX)++(iL y))++st ([34]:TX)=st ((([32,34]:TX)++(iL y))++([34]:TX))) (oc (wj (t++qH y++qK (iS y)) ((([32,34]:TX)++(iL y))++([34]:TX)) (by (first|omega|(simp only [List.length_append,List.length_cons,List.length_nil];omega)))) (oc (rfl:[(.opt 0 0),(sv (st ((([32,34]:TX)++(iL y))++([34]:TX))))]=qT (qY [0,170] 258) [(.opt 0 0),(sv (st ((([32,34]:TX)++(iL y))++([34]:TX))))]) (oc (rfl:[(.opn 0 0),(.osl 170 0 ((t++qH y++qK (iS y):qJ).length))]=qT (qY [0,170] 258) [(.opn 0 0),(.osl 1 0 ((t++qH y++qK (iS y):qJ).length))]) (oc ((qQ (qM _)).symm:(qR (t++qH y++qK (iS y)))=qT (qY [0,170] 258) (qR (t++qH y++qK (iS y)))) oz)))))))) ?_
  have hT:t++zO y=t++qH y++qK (iS y)++([32,34]++iL y++[34]):=by rw [yx,hY];simp only [List.append_assoc]
  exact fun cx_ a_ hI_=>yw (H':=[some (77,[(.opn 0 0),(.osl 2 0 ((t++zO y:qJ).length))]),none,some (5,(qR (t++zO y)))]) (.inl rfl) (Wk.trans (Wk.eq (show _=[pb 0 77 [(.opn 0 0),(.osl 258 0 (((t++qH y++qK (iS y))++((([32,34]:TX)++(iL y))++([34]:TX)):qJ).length))],pb 258 5 (qR ((t++qH y++qK (iS y))++((([32,34]:TX)++(iL y))++([34]:TX))))] from by simp only [qQ (qM _)])) (Wk.trans (Wk.eq (show _=[pb 0 77 [(.opn 0 0),(.osl 258 0 ((t++zO y:qJ).length))],pb 258 5 (qR (t++zO y))] from by rw [hT])) (Wk.ren3 [pb 0 77 [(.opn 0 0),(.osl 2 0 ((t++zO y:qJ).length))],pb 2 5 (qR (t++zO y))] 2 hc0 [0,1,258] [(kb 2,(qR (t++zO y)))] (oc (qM _) (oz)) (by kernel_rfl) rfl rfl (by kernel_rfl) (by kernel_rfl)))) rfl (oc rfl (oc rfl (oz))) (fun cx_ a_ hI_=>yC (l':=[pb 0 77 [(.opn 0 0),(.osl 2 0 ((t++zO y:qJ).length))],pb 2 5 (qR (t++zO y))]) (by kernel_rfl) cx_ a_ hI_) hI_
 refine qW (zP h5)<|qA<|qL qD [.k2,.d,.d,.n,.r] [ps 48 (bv (decide ((iK y)=1)))] ?_
 by_cases h9:(iK y)=1
 ·refine qX (zR h9) ?_
  have hM:qH y=ZW (iP y):=by unfold qH;rw [if_neg (by omega),if_neg (by omega),if_pos (by omega)]
  have hM2:=congrArg List.length hM
  try simp only [List.length_append,List.length_cons,List.length_nil] at hM2
  refine zE qD [(3,.call [0,1] [(.opt 0 0),(.ssl (yI (iP y)) 0 ((iP y).length))] [some (77,[(.opn 0 0),(.osl 1 0 t.length)]),some (5,(qR t))] (.tup []) [some (77,[(.opn 0 0),(.osl 2 0 ((t++ZW (iP y):qJ).length))]),none,some (5,(qR (t++ZW (iP y))))])] [.k2,.d,.d,.n,.d,.k1,.n] [pb 0 77 [(.opn 0 0),(.osl 98 0 ((t++ZW (iP y):qJ).length))],pb 98 5 (qT (yK [0,1] 98) (qR (t++ZW (iP y))))] (oc (pitches_pc t (iP y) (by (first|omega|(simp only [List.length_append,List.length_cons,List.length_nil];omega))) hx2) (oc (rfl:[(.opt 0 0),(.ssl (yI (iP y)) 0 ((iP y).length))]=qT (qY [0,1] 98) [(.opt 0 0),(.ssl (yI (iP y)) 0 ((iP y).length))]) (oc (rfl:[(.opn 0 0),(.osl 1 0 t.length)]=qT (qY [0,1] 98) [(.opn 0 0),(.osl 1 0 t.length)]) (oc ((qQ (qM _)).symm:(qR t)=qT (qY [0,1] 98) (qR t)) oz))))<|zM<|qx (Wk.eq (show _=[ps 0 (.opt 0 0),ps 3 (.opt 2 0),pb 0 77 [(.opn 0 0),(.osl 98 0 ((t++ZW (iP y):qJ).length))],pb 2 50 [(iv (iK y)),(iv (iS y)),(.ssl (yI (iP y)) 0 ((iP y).length)),(iv ((iB y).1)),(iv ((iB y).2)),(sv (st (iL y))),(.ssl (zT (iC y)) 0 ((iC y).length))],pb 98 5 (qR (t++ZW (iP y)))] from by simp only [qQ (qM _)])) ?_
  refine qA<|qA<|qx (Wk.eq (show _=[ps 0 (.opt 0 0),ps 3 (.opt 2 0),pb 0 77 [(.opn 0 0),(.osl 98 0 ((t++qH y:qJ).length))],pb 2 50 [(iv (iK y)),(iv (iS y)),(.ssl (yI (iP y)) 0 ((iP y).length)),(iv ((iB y).1)),(iv ((iB y).2)),(sv (st (iL y))),(.ssl (zT (iC y)) 0 ((iC y).length))],pb 98 5 (qR (t++qH y))] from by rw [hM];try simp only [List.append_assoc,List.cons_append,List.nil_append])) ?_
  refine qL qD [.k2,.n,.r] [ps 56 (bv (!(decide ((iS y)=1))))] ?_
  by_cases h10:(iS y)=1
  ·refine qW (bt h10)<|qF<|qA ?_
   have hS:qK (iS y)=[]:=if_pos (by omega)
   refine qx (Wk.eq (show _=[ps 0 (.opt 0 0),ps 3 (.opt 2 0),ps 56 (bv (!(decide ((iS y)=1)))),pb 0 77 [(.opn 0 0),(.osl 98 0 ((t++qH y++qK (iS y):qJ).length))],pb 2 50 [(iv (iK y)),(iv (iS y)),(.ssl (yI (iP y)) 0 ((iP y).length)),(iv ((iB y).1)),(iv ((iB y).2)),(sv (st (iL y))),(.ssl (zT (iC y)) 0 ((iC y).length))],pb 98 5 (qR (t++qH y++qK (iS y)))] from by rw [hS];rw [List.append_nil])) ?_
   refine zE qD [(2,.val (.av (.bool (!decide ((iL y)=([]:TX))))))] [.k2,.d,.n,.r] [ps 67 (bv (!(decide ((iL y)=([]:TX)))))] (oc (zw _ _:(!((st (iL y)).toList == (st ([]:TX)).toList)) = !decide ((iL y)=([]:TX))) oz) ?_
   by_cases h11:(iL y)=([]:TX)
   ·refine qW (bt h11)<|qF ?_
    have hT:t++zO y=t++qH y++qK (iS y):=by rw [yx,show wy (iL y)=[] from if_pos (by assumption),List.append_nil,List.append_assoc]
    exact fun cx_ a_ hI_=>yw (H':=[some (77,[(.opn 0 0),(.osl 2 0 ((t++zO y:qJ).length))]),none,some (5,(qR (t++zO y)))]) (.inl rfl) (Wk.trans (Wk.eq (show _=[ps 0 (.opt 0 0),ps 3 (.opt 2 0),ps 67 (bv (!(decide ((iL y)=([]:TX))))),pb 0 77 [(.opn 0 0),(.osl 98 0 ((t++zO y:qJ).length))],pb 2 50 [(iv (iK y)),(iv (iS y)),(.ssl (yI (iP y)) 0 ((iP y).length)),(iv ((iB y).1)),(iv ((iB y).2)),(sv (st (iL y))),(.ssl (zT (iC y)) 0 ((iC y).length))],pb 98 5 (qR (t++zO y))] from by rw [hT])) (Wk.ren3 [pb 0 77 [(.opn 0 0),(.osl 2 0 ((t++zO y:qJ).length))],pb 2 5 (qR (t++zO y))] 2 hc0 [0,1,98] [(kb 2,(qR (t++zO y)))] (oc (qM _) (oz)) (by kernel_rfl) rfl rfl (by kernel_rfl) (by kernel_rfl))) rfl (oc rfl (oc rfl (oz))) (fun cx_ a_ hI_=>yC (l':=[pb 0 77 [(.opn 0 0),(.osl 2 0 ((t++zO y:qJ).length))],pb 2 5 (qR (t++zO y))]) (by kernel_rfl) cx_ a_ hI_) hI_
   refine qX (bf h11) ?_
   have hY:wy (iL y)=[32,34]++iL y++[34]:=if_neg (by assumption)
   have hY2:=congrArg List.length hY
   simp only [List.length_append,List.length_cons,List.length_nil] at hY2
   refine jQ qD [(5,.val (.av (.string (st (([32,34]:TX)++(iL y)))))),(6,.val (.av (.string (st ((([32,34]:TX)++(iL y))++([34]:TX)))))),(7,.call [0,98] [(.opt 0 0),(sv (st ((([32,34]:TX)++(iL y))++([34]:TX))))] [some (77,[(.opn 0 0),(.osl 1 0 ((t++qH y++qK (iS y):qJ).length))]),some (5,(qR (t++qH y++qK (iS y))))] (.tup [(nv ((((([32,34]:TX)++(iL y))++([34]:TX))).length)),(.av .nilIface)]) [some (77,[(.opn 0 0),(.osl 2 0 (((t++qH y++qK (iS y))++((([32,34]:TX)++(iL y))++([34]:TX)):qJ).length))]),none,some (5,(qR ((t++qH y++qK (iS y))++((([32,34]:TX)++(iL y))++([34]:TX)))))])] [[],[0],[0,1],[],[3],[3,4],[3,4,5],[0,1,2,3,4,5,6]] [([136],[0]),([138],[136]),([140],[138]),([142],[6]),([144],[5,142]),([146],[144]),([148],[146]),([150,1,197,421],[1,140,148,197])] [pb 0 77 [(.opn 0 0),(.osl 210 0 (((t++qH y++qK (iS y))++((([32,34]:TX)++(iL y))++([34]:TX)):qJ).length))],pb 210 5 (qT (yK [0,98] 210) (qR ((t++qH y++qK (iS y))++((([32,34]:TX)++(iL y))++([34]:TX)))))] (oc (by first|omega|(simp <;> omega):((([32,34]:TX).length+(iL y).length:Nat):Int)≤9223372036854775807) (oc (qj _ _:st ([32,34]:TX)++st (iL y)=st (([32,34]:TX)++(iL y))) (oc (by first|omega|(simp <;> omega):(((([32,34]:TX)++(iL y)).length+([34]:TX).length:Nat):Int)≤9223372036854775807) (oc (qj _ _:st (([32,34]:TX)++(iL y))++st ([34]:TX)=st ((([32,34]:TX)++(iL y))++([34]:TX))) (oc (wj (t++qH y++qK (iS y)) ((([32,34]:TX)++(iL y))++([34]:TX)) (by (first|omega|(simp only [List.length_append,List.length_cons,List.length_nil];omega)))) (oc (rfl:[(.opt 0 0),(sv (st ((([32,34]:TX)++(iL y))++([34]:TX))))]=qT (qY [0,98] 210) [(.opt 0 0),(sv (st ((([32,34]:TX)++(iL y))++([34]:TX))))]) (oc (rfl:[(.opn 0 0),(.osl 98 0 ((t++qH y++qK (iS y):qJ).length))]=qT (qY [0,98] 210) [(.opn 0 0),(.osl 1 0 ((t++qH y++qK (iS y):qJ).length))]) (oc ((qQ (qM _)).symm:(qR (t++qH y++qK (iS y)))=qT (qY [0,98] 210) (qR (t++qH y++qK (iS y)))) oz)))))))) ?_
   have hT:t++zO y=t++qH y++qK (iS y)++([32,34]++iL y++[34]):=by rw [yx,hY];simp only [List.append_assoc]
   exact fun cx_ a_ hI_=>yw (H':=[some (77,[(.opn 0 0),(.osl 2 0 ((t++zO y:qJ).length))]),none,some (5,(qR (t++zO y)))]) (.inl rfl) (Wk.trans (Wk.eq (show _=[pb 0 77 [(.opn 0 0),(.osl 210 0 (((t++qH y++qK (iS y))++((([32,34]:TX)++(iL y))++([34]:TX)):qJ).length))],pb 210 5 (qR ((t++qH y++qK (iS y))++((([32,34]:TX)++(iL y))++([34]:TX))))] from by simp only [qQ (qM _)])) (Wk.trans (Wk.eq (show _=[pb 0 77 [(.opn 0 0),(.osl 210 0 ((t++zO y:qJ).length))],pb 210 5 (qR (t++zO y))] from by rw [hT])) (Wk.ren3 [pb 0 77 [(.opn 0 0),(.osl 2 0 ((t++zO y:qJ).length))],pb 2 5 (qR (t++zO y))] 2 hc0 [0,1,210] [(kb 2,(qR (t++zO y)))] (oc (qM _) (oz)) (by kernel_rfl) rfl rfl (by kernel_rfl) (by kernel_rfl)))) rfl (oc rfl (oc rfl (oz))) (fun cx_ a_ hI_=>yC (l':=[pb 0 77 [(.opn 0 0),(.osl 2 0 ((t++zO y:qJ).length))],pb 2 5 (qR (t++zO y))]) (by kernel_rfl) cx_ a_ hI_) hI_
  refine qX (bf h10) ?_
  have hS:qK (iS y)=[42]++Lib.itoa (iS y):=if_neg (by omega)
  have hS2:=congrArg List.length hS
  simp only [List.length_append,List.length_cons,List.length_nil] at hS2
  have hIt:=Lib.itoa_length_le (iS y) (by omega) (by omega)
  refine ZG qD [(5,.call [] [(iv (iS y))] [] (sv (st (Lib.itoa (iS y)))) []),(6,.val (.av (.string (st (([42]:TX)++(Lib.itoa (iS y))))))),(7,.call [0,98] [(.opt 0 0),(sv (st (([42]:TX)++(Lib.itoa (iS y)))))] [some (77,[(.opn 0 0),(.osl 1 0 ((t++qH y:qJ).length))]),some (5,(qR (t++qH y)))] (.tup [(nv (((([42]:TX)++(Lib.itoa (iS y)))).length)),(.av .nilIface)]) [some (77,[(.opn 0 0),(.osl 2 0 (((t++qH y)++(([42]:TX)++(Lib.itoa (iS y))):qJ).length))]),none,some (5,(qR ((t++qH y)++(([42]:TX)++(Lib.itoa (iS y))))))])] [[],[0],[0,1],[],[3],[3,4],[3,4,5],[0,1,2,3,4,5,6]] [([114],[0]),([116],[114]),([118],[116]),([120],[6]),([122],[5,120]),([124],[122]),([126],[124]),([128,1,197,373],[1,118,126,197])] [.k2,.d,.d,.n,.k1,.d,.n] [pb 0 77 [(.opn 0 0),(.osl 186 0 (((t++qH y)++(([42]:TX)++(Lib.itoa (iS y))):qJ).length))],pb 186 5 (qT (yK [0,98] 186) (qR ((t++qH y)++(([42]:TX)++(Lib.itoa (iS y))))))] (zY 170 (zz (iS y) (by omega) (by omega)) (oc (by first|omega|(simp <;> omega):((([42]:TX).length+(Lib.itoa (iS y)).length:Nat):Int)≤9223372036854775807) (oc (qj _ _:st ([42]:TX)++st (Lib.itoa (iS y))=st (([42]:TX)++(Lib.itoa (iS y)))) (oc (wj (t++qH y) (([42]:TX)++(Lib.itoa (iS y))) (by (first|omega|(simp only [List.length_append,List.length_cons,List.length_nil];omega)))) (oc (rfl:[(.opt 0 0),(sv (st (([42]:TX)++(Lib.itoa (iS y)))))]=qT (qY [0,98] 186) [(.opt 0 0),(sv (st (([42]:TX)++(Lib.itoa (iS y)))))]) (oc (rfl:[(.opn 0 0),(.osl 98 0 ((t++qH y:qJ).length))]=qT (qY [0,98] 186) [(.opn 0 0),(.osl 1 0 ((t++qH y:qJ).length))]) (oc ((qQ (qM _)).symm:(qR (t++qH y))=qT (qY [0,98] 186) (qR (t++qH y))) oz)))))))<|qx (Wk.eq (show _=[ps 0 (.opt 0 0),ps 3 (.opt 2 0),pb 0 77 [(.opn 0 0),(.osl 186 0 (((t++qH y)++(([42]:TX)++(Lib.itoa (iS y))):qJ).length))],pb 2 50 [(iv (iK y)),(iv (iS y)),(.ssl (yI (iP y)) 0 ((iP y).length)),(iv ((iB y).1)),(iv ((iB y).2)),(sv (st (iL y))),(.ssl (zT (iC y)) 0 ((iC y).length))],pb 186 5 (qR ((t++qH y)++(([42]:TX)++(Lib.itoa (iS y)))))] from by simp only [qQ (qM _)])) ?_
  refine qA<|qx (Wk.eq (show _=[ps 0 (.opt 0 0),ps 3 (.opt 2 0),pb 0 77 [(.opn 0 0),(.osl 186 0 ((t++qH y++qK (iS y):qJ).length))],pb 2 50 [(iv (iK y)),(iv (iS y)),(.ssl (yI (iP y)) 0 ((iP y).length)),(iv ((iB y).1)),(iv ((iB y).2)),(sv (st (iL y))),(.ssl (zT (iC y)) 0 ((iC y).length))],pb 186 5 (qR (t++qH y++qK (iS y)))] from by rw [hS])) ?_
  refine zE qD [(2,.val (.av (.bool (!decide ((iL y)=([]:TX))))))] [.k2,.n,.r] [ps 67 (bv (!(decide ((iL y)=([]:TX)))))] (oc (zw _ _:(!((st (iL y)).toList == (st ([]:TX)).toList)) = !decide ((iL y)=([]:TX))) oz) ?_
  by_cases h12:(iL y)=([]:TX)
  ·refine qW (bt h12)<|qF ?_
   have hT:t++zO y=t++qH y++qK (iS y):=by rw [yx,show wy (iL y)=[] from if_pos (by assumption),List.append_nil,List.append_assoc]
   exact fun cx_ a_ hI_=>yw (H':=[some (77,[(.opn 0 0),(.osl 2 0 ((t++zO y:qJ).length))]),none,some (5,(qR (t++zO y)))]) (.inl rfl) (Wk.trans (Wk.eq (show _=[ps 0 (.opt 0 0),ps 3 (.opt 2 0),ps 67 (bv (!(decide ((iL y)=([]:TX))))),pb 0 77 [(.opn 0 0),(.osl 186 0 ((t++zO y:qJ).length))],pb 2 50 [(iv (iK y)),(iv (iS y)),(.ssl (yI (iP y)) 0 ((iP y).length)),(iv ((iB y).1)),(iv ((iB y).2)),(sv (st (iL y))),(.ssl (zT (iC y)) 0 ((iC y).length))],pb 186 5 (qR (t++zO y))] from by rw [hT])) (Wk.ren3 [pb 0 77 [(.opn 0 0),(.osl 2 0 ((t++zO y:qJ).length))],pb 2 5 (qR (t++zO y))] 2 hc0 [0,1,186] [(kb 2,(qR (t++zO y)))] (oc (qM _) (oz)) (by kernel_rfl) rfl rfl (by kernel_rfl) (by kernel_rfl))) rfl (oc rfl (oc rfl (oz))) (fun cx_ a_ hI_=>yC (l':=[pb 0 77 [(.opn 0 0),(.osl 2 0 ((t++zO y:qJ).length))],pb 2 5 (qR (t++zO y))]) (by kernel_rfl) cx_ a_ hI_) hI_
  refine qX (bf h12) ?_
  have hY:wy (iL y)=[32,34]++iL y++[34]:=if_neg (by assumption)
  have hY2:=congrArg List.length hY
  simp only [List.length_append,List.length_cons,List.length_nil] at hY2
  refine jQ qD [(5,.val (.av (.string (st (([32,34]:TX)++(iL y)))))),(6,.val (.av (.string (st ((([32,34]:TX)++(iL y))++([34]:TX)))))),(7,.call [0,186] [(.opt 0 0),(sv (st ((([32,34]:TX)++(iL y))++([34]:TX))))] [some (77,[(.opn 0 0),(.osl 1 0 ((t++qH y++qK (iS y):qJ).length))]),some (5,(qR (t++qH y++qK (iS y))))] (.tup [(nv ((((([32,34]:TX)++(iL y))++([34]:TX))).length)),(.av .nilIface)]) [some (77,[(.opn 0 0),(.osl 2 0 (((t++qH y++qK (iS y))++((([32,34]:TX)++(iL y))++([34]:TX)):qJ).length))]),none,some (5,(qR ((t++qH y++qK (iS y))++((([32,34]:TX)++(iL y))++([34]:TX)))))])] [[],[0],[0,1],[],[3],[3,4],[3,4,5],[0,1,2,3,4,5,6]] [([136],[0]),([138],[136]),([140],[138]),([142],[6]),([144],[5,142]),([146],[144]),([148],[146]),([150,1,373,549],[1,140,148,373])] [pb 0 77 [(.opn 0 0),(.osl 274 0 (((t++qH y++qK (iS y))++((([32,34]:TX)++(iL y))++([34]:TX)):qJ).length))],pb 274 5 (qT (yK [0,186] 274) (qR ((t++qH y++qK (iS y))++((([32,34]:TX)++(iL y))++([34]:TX)))))] (oc (by first|omega|(simp <;> omega):((([32,34]:TX).length+(iL y).length:Nat):Int)≤9223372036854775807) (oc (qj _ _:st ([32,34]:TX)++st (iL y)=st (([32,34]:TX)++(iL y))) (oc (by first|omega|(simp <;> omega):(((([32,34]:TX)++(iL y)).length+([34]:TX).length:Nat):Int)≤9223372036854775807) (oc (qj _ _:st (([32,34]:TX)++(iL y))++st ([34]:TX)=st ((([32,34]:TX)++(iL y))++([34]:TX))) (oc (wj (t++qH y++qK (iS y)) ((([32,34]:TX)++(iL y))++([34]:TX)) (by (first|omega|(simp only [List.length_append,List.length_cons,List.length_nil];omega)))) (oc (rfl:[(.opt 0 0),(sv (st ((([32,34]:TX)++(iL y))++([34]:TX))))]=qT (qY [0,186] 274) [(.opt 0 0),(sv (st ((([32,34]:TX)++(iL y))++([34]:TX))))]) (oc (rfl:[(.opn 0 0),(.osl 186 0 ((t++qH y++qK (iS y):qJ).length))]=qT (qY [0,186] 274) [(.opn 0 0),(.osl 1 0 ((t++qH y++qK (iS y):qJ).length))]) (oc ((qQ (qM _)).symm:(qR (t++qH y++qK (iS y)))=qT (qY [0,186] 274) (qR (t++qH y++qK (iS y)))) oz)))))))) ?_
  have hT:t++zO y=t++qH y++qK (iS y)++([32,34]++iL y++[34]):=by rw [yx,hY];simp only [List.append_assoc]
  exact fun cx_ a_ hI_=>yw (H':=[some (77,[(.opn 0 0),(.osl 2 0 ((t++zO y:qJ).length))]),none,some (5,(qR (t++zO y)))]) (.inl rfl) (Wk.trans (Wk.eq (show _=[pb 0 77 [(.opn 0 0),(.osl 274 0 (((t++qH y++qK (iS y))++((([32,34]:TX)++(iL y))++([34]:TX)):qJ).length))],pb 274 5 (qR ((t++qH y++qK (iS y))++((([32,34]:TX)++(iL y))++([34]:TX))))] from by simp only [qQ (qM _)])) (Wk.trans (Wk.eq (show _=[pb 0 77 [(.opn 0 0),(.osl 274 0 ((t++zO y:qJ).length))],pb 274 5 (qR (t++zO y))] from by rw [hT])) (Wk.ren3 [pb 0 77 [(.opn 0 0),(.osl 2 0 ((t++zO y:qJ).length))],pb 2 5 (qR (t++zO y))] 2 hc0 [0,1,274] [(kb 2,(qR (t++zO y)))] (oc (qM _) (oz)) (by kernel_rfl) rfl rfl (by kernel_rfl) (by kernel_rfl)))) rfl (oc rfl (oc rfl (oz))) (fun cx_ a_ hI_=>yC (l':=[pb 0 77 [(.opn 0 0),(.osl 2 0 ((t++zO y:qJ).length))],pb 2 5 (qR (t++zO y))]) (by kernel_rfl) cx_ a_ hI_) hI_
 refine qW (zP h9)<|qA<|qA<|qL qD [.k2,.n,.d,.r] [ps 10 (bv (decide ((iK y)=5)))] ?_
 by_cases h13:(iK y)=5
 ·refine qX (zR h13)<|qA ?_
  have hM:qH y=([117,112,32]++((qE (iB y).1 (iB y).2).1++[32]))++(91 :: (qz (iC y)++[93])):=by unfold qH upT;rw [if_neg (show ¬ iK y=2 from by omega),if_neg (show ¬ iK y=3 from by omega),if_neg (show ¬ iK y=1 from by omega),if_pos (show iK y=5 from by omega)]
  have hM2:=congrArg List.length hM
  try simp only [List.length_append,List.length_cons,List.length_nil] at hM2
  refine yJ qD 2 [.k2,.n,.d,.r] [ps 4 (sv (st ((qE ((iB y).1) ((iB y).2)).1)))] (zY 114 (zx (iB y).1 (iB y).2 hx1.1 hx1.2) oz)<|zE qD [(4,.val (.av (.string (st (([117,112,32]:TX)++((qE ((iB y).1) ((iB y).2)).1)))))),(5,.val (.av (.string (st ((([117,112,32]:TX)++((qE ((iB y).1) ((iB y).2)).1))++([32]:TX)))))),(6,.call [0,1] [(.opt 0 0),(sv (st ((([117,112,32]:TX)++((qE ((iB y).1) ((iB y).2)).1))++([32]:TX))))] [some (77,[(.opn 0 0),(.osl 1 0 t.length)]),some (5,(qR t))] (.tup [(nv ((((([117,112,32]:TX)++((qE ((iB y).1) ((iB y).2)).1))++([32]:TX))).length)),(.av .nilIface)]) [some (77,[(.opn 0 0),(.osl 2 0 ((t++((([117,112,32]:TX)++((qE ((iB y).1) ((iB y).2)).1))++([32]:TX)):qJ).length))]),none,some (5,(qR (t++((([117,112,32]:TX)++((qE ((iB y).1) ((iB y).2)).1))++([32]:TX)))))])] [.k2,.d,.d,.n,.d,.k1,.n] [pb 0 77 [(.opn 0 0),(.osl 210 0 ((t++((([117,112,32]:TX)++((qE ((iB y).1) ((iB y).2)).1))++([32]:TX)):qJ).length))],pb 210 5 (qT (yK [0,1] 210) (qR (t++((([117,112,32]:TX)++((qE ((iB y).1) ((iB y).2)).1))++([32]:TX)))))] (oc (by first|omega|(simp <;> omega):((([117,112,32]:TX).length+((qE ((iB y).1) ((iB y).2)).1).length:Nat):Int)≤9223372036854775807) (oc (qj _ _:st ([117,112,32]:TX)++st ((qE ((iB y).1) ((iB y).2)).1)=st (([117,112,32]:TX)++((qE ((iB y).1) ((iB y).2)).1))) (oc (by first|omega|(simp <;> omega):(((([117,112,32]:TX)++((qE ((iB y).1) ((iB y).2)).1)).length+([32]:TX).length:Nat):Int)≤9223372036854775807) (oc (qj _ _:st (([117,112,32]:TX)++((qE ((iB y).1) ((iB y).2)).1))++st ([32]:TX)=st ((([117,112,32]:TX)++((qE ((iB y).1) ((iB y).2)).1))++([32]:TX))) (oc (wj t ((([117,112,32]:TX)++((qE ((iB y).1) ((iB y).2)).1))++([32]:TX)) (by (first|omega|(simp only [List.length_append,List.length_cons,List.length_nil];omega)))) (oc (rfl:[(.opt 0 0),(sv (st ((([117,112,32]:TX)++((qE ((iB y).1) ((iB y).2)).1))++([32]:TX))))]=qT (qY [0,1] 210) [(.opt 0 0),(sv (st ((([117,112,32]:TX)++((qE ((iB y).1) ((iB y).2)).1))++([32]:TX))))]) (oc (rfl:[(.opn 0 0),(.osl 1 0 t.length)]=qT (qY [0,1] 210) [(.opn 0 0),(.osl 1 0 t.length)]) (oc ((qQ (qM _)).symm:(qR t)=qT (qY [0,1] 210) (qR t)) oz))))))))<|qx (Wk.eq (show _=[ps 0 (.opt 0 0),ps 3 (.opt 2 0),pb 0 77 [(.opn 0 0),(.osl 210 0 ((t++((([117,112,32]:TX)++((qE ((iB y).1) ((iB y).2)).1))++([32]:TX)):qJ).length))],pb 2 50 [(iv (iK y)),(iv (iS y)),(.ssl (yI (iP y)) 0 ((iP y).length)),(iv ((iB y).1)),(iv ((iB y).2)),(sv (st (iL y))),(.ssl (zT (iC y)) 0 ((iC y).length))],pb 210 5 (qR (t++((([117,112,32]:TX)++((qE ((iB y).1) ((iB y).2)).1))++([32]:TX))))] from by simp only [qQ (qM _)])) ?_
  refine qA<|zE qD [(3,.call [0,210] [(.opt 0 0),(.av (.int .u8 91))] [some (77,[(.opn 0 0),(.osl 1 0 ((t++((([117,112,32]:TX)++((qE ((iB y).1) ((iB y).2)).1))++([32]:TX)):qJ).length))]),some (5,(qR (t++((([117,112,32]:TX)++((qE ((iB y).1) ((iB y).2)).1))++([32]:TX)))))] (.av .nilIface) [some (77,[(.opn 0 0),(.osl 2 0 (((t++((([117,112,32]:TX)++((qE ((iB y).1) ((iB y).2)).1))++([32]:TX)))++[91]:qJ).length))]),none,some (5,(qR ((t++((([117,112,32]:TX)++((qE ((iB y).1) ((iB y).2)).1))++([32]:TX)))++[91])))])] [.k2,.d,.n,.k1,.d,.n] [pb 0 77 [(.opn 0 0),(.osl 242 0 (((t++((([117,112,32]:TX)++((qE ((iB y).1) ((iB y).2)).1))++([32]:TX)))++[91]:qJ).length))],pb 242 5 (qT (yK [0,210] 242) (qR ((t++((([117,112,32]:TX)++((qE ((iB y).1) ((iB y).2)).1))++([32]:TX)))++[91])))] (oc (YR (t++((([117,112,32]:TX)++((qE ((iB y).1) ((iB y).2)).1))++([32]:TX))) 91 (by (first|omega|(simp only [List.length_append,List.length_cons,List.length_nil];omega)))) (oc (rfl:[(.opt 0 0),(.av (.int .u8 91))]=qT (qY [0,210] 242) [(.opt 0 0),(.av (.int .u8 91))]) (oc (rfl:[(.opn 0 0),(.osl 210 0 ((t++((([117,112,32]:TX)++((qE ((iB y).1) ((iB y).2)).1))++([32]:TX)):qJ).length))]=qT (qY [0,210] 242) [(.opn 0 0),(.osl 1 0 ((t++((([117,112,32]:TX)++((qE ((iB y).1) ((iB y).2)).1))++([32]:TX)):qJ).length))]) (oc ((qQ (qM _)).symm:(qR (t++((([117,112,32]:TX)++((qE ((iB y).1) ((iB y).2)).1))++([32]:TX))))=qT (qY [0,210] 242) (qR (t++((([117,112,32]:TX)++((qE ((iB y).1) ((iB y).2)).1))++([32]:TX))))) oz))))<|qx (Wk.eq (show _=[ps 0 (.opt 0 0),ps 3 (.opt 2 0),pb 0 77 [(.opn 0 0),(.osl 242 0 (((t++((([117,112,32]:TX)++((qE ((iB y).1) ((iB y).2)).1))++([32]:TX)))++[91]:qJ).length))],pb 2 50 [(iv (iK y)),(iv (iS y)),(.ssl (yI (iP y)) 0 ((iP y).length)),(iv ((iB y).1)),(iv ((iB y).2)),(sv (st (iL y))),(.ssl (zT (iC y)) 0 ((iC y).length))],pb 242 5 (qR ((t++((([117,112,32]:TX)++((qE ((iB y).1) ((iB y).2)).1))++([32]:TX)))++[91]))] from by simp only [qQ (qM _)])) ?_
  refine qA<|zE qD [(3,.call [0,242] [(.opt 0 0),(.ssl (zT (iC y)) 0 ((iC y).length))] [some (77,[(.opn 0 0),(.osl 1 0 (((t++((([117,112,32]:TX)++((qE ((iB y).1) ((iB y).2)).1))++([32]:TX)))++[91]:qJ).length))]),some (5,(qR ((t++((([117,112,32]:TX)++((qE ((iB y).1) ((iB y).2)).1))++([32]:TX)))++[91])))] (.tup []) [some (77,[(.opn 0 0),(.osl 2 0 ((((t++((([117,112,32]:TX)++((qE ((iB y).1) ((iB y).2)).1))++([32]:TX)))++[91])++qz (iC y):qJ).length))]),none,some (5,(qR (((t++((([117,112,32]:TX)++((qE ((iB y).1) ((iB y).2)).1))++([32]:TX)))++[91])++qz (iC y))))])] [.k2,.d,.n,.k1,.d,.n] [pb 0 77 [(.opn 0 0),(.osl 274 0 ((((t++((([117,112,32]:TX)++((qE ((iB y).1) ((iB y).2)).1))++([32]:TX)))++[91])++qz (iC y):qJ).length))],pb 274 5 (qT (yK [0,242] 274) (qR (((t++((([117,112,32]:TX)++((qE ((iB y).1) ((iB y).2)).1))++([32]:TX)))++[91])++qz (iC y))))] (oc (ihL (iC y) ((t++((([117,112,32]:TX)++((qE ((iB y).1) ((iB y).2)).1))++([32]:TX)))++[91]) (VG y) (by (first|omega|(simp only [List.length_append,List.length_cons,List.length_nil];omega))) hx5 hx4 hpr.2.1) (oc (rfl:[(.opt 0 0),(.ssl (zT (iC y)) 0 ((iC y).length))]=qT (qY [0,242] 274) [(.opt 0 0),(.ssl (zT (iC y)) 0 ((iC y).length))]) (oc (rfl:[(.opn 0 0),(.osl 242 0 (((t++((([117,112,32]:TX)++((qE ((iB y).1) ((iB y).2)).1))++([32]:TX)))++[91]:qJ).length))]=qT (qY [0,242] 274) [(.opn 0 0),(.osl 1 0 (((t++((([117,112,32]:TX)++((qE ((iB y).1) ((iB y).2)).1))++([32]:TX)))++[91]:qJ).length))]) (oc ((qQ (qM _)).symm:(qR ((t++((([117,112,32]:TX)++((qE ((iB y).1) ((iB y).2)).1))++([32]:TX)))++[91]))=qT (qY [0,242] 274) (qR ((t++((([117,112,32]:TX)++((qE ((iB y).1) ((iB y).2)).1))++([32]:TX)))++[91]))) oz))))<|qx (Wk.eq (show _=[ps 0 (.opt 0 0),ps 3 (.opt 2 0),pb 0 77 [(.opn 0 0),(.osl 274 0 ((((t++((([117,112,32]:TX)++((qE ((iB y).1) ((iB y).2)).1))++([32]:TX)))++[91])++qz (iC y):qJ).length))],pb 2 50 [(iv (iK y)),(iv (iS y)),(.ssl (yI (iP y)) 0 ((iP y).length)),(iv ((iB y).1)),(iv ((iB y).2)),(sv (st (iL y))),(.ssl (zT (iC y)) 0 ((iC y).length))],pb 274 5 (qR (((t++((([117,112,32]:TX)++((qE ((iB y).1) ((iB y).2)).1))++([32]:TX)))++[91])++qz (iC y)))] from by simp only [qQ (qM _)])) ?_
  refine zE qD [(3,.call [0,274] [(.opt 0 0),(.av (.int .u8 93))] [some (77,[(.opn 0 0),(.osl 1 0 ((((t++((([117,112,32]:TX)++((qE ((iB y).1) ((iB y).2)).1))++([32]:TX)))++[91])++qz (iC y):qJ).length))]),some (5,(qR (((t++((([117,112,32]:TX)++((qE ((iB y).1) ((iB y).2)).1))++([32]:TX)))++[91])++qz (iC y))))] (.av .nilIface) [some (77,[(.opn 0 0),(.osl 2 0 (((((t++((([117,112,32]:TX)++((qE ((iB y).1) ((iB y).2)).1))++([32]:TX)))++[91])++qz (iC y))++[93]:qJ).length))]),none,some (5,(qR ((((t++((([117,112,32]:TX)++((qE ((iB y).1) ((iB y).2)).1))++([32]:TX)))++[91])++qz (iC y))++[93])))])] [.k2,.d,.n,.k1,.d,.n] [pb 0 77 [(.opn 0 0),(.osl 306 0 (((((t++((([117,112,32]:TX)++((qE ((iB y).1) ((iB y).2)).1))++([32]:TX)))++[91])++qz (iC y))++[93]:qJ).length))],pb 306 5 (qT (yK [0,274] 306) (qR ((((t++((([117,112,32]:TX)++((qE ((iB y).1) ((iB y).2)).1))++([32]:TX)))++[91])++qz (iC y))++[93])))] (oc (YR (((t++((([117,112,32]:TX)++((qE ((iB y).1) ((iB y).2)).1))++([32]:TX)))++[91])++qz (iC y)) 93 (by (first|omega|(simp only [List.length_append,List.length_cons,List.length_nil];omega)))) (oc (rfl:[(.opt 0 0),(.av (.int .u8 93))]=qT (qY [0,274] 306) [(.opt 0 0),(.av (.int .u8 93))]) (oc (rfl:[(.opn 0 0),(.osl 274 0 ((((t++((([117,112,32]:TX)++((qE ((iB y).1) ((iB y).2)).1))++([32]:TX)))++[91])++qz (iC y):qJ).length))]=qT (qY [0,274] 306) [(.opn 0 0),(.osl 1 0 ((((t++((([117,112,32]:TX)++((qE ((iB y).1) ((iB y).2)).1))++([32]:TX)))++[91])++qz (iC y):qJ).length))]) (oc ((qQ (qM _)).symm:(qR (((t++((([117,112,32]:TX)++((qE ((iB y).1) ((iB y).2)).1))++([32]:TX)))++[91])++qz (iC y)))=qT (qY [0,274] 306) (qR (((t++((([117,112,32]:TX)++((qE ((iB y).1) ((iB y).2)).1))++([32]:TX)))++[91])++qz (iC y)))) oz))))<|zM<|qx (Wk.eq (show _=[ps 0 (.opt 0 0),ps 3 (.opt 2 0),pb 0 77 [(.opn 0 0),(.osl 306 0 (((((t++((([117,112,32]:TX)++((qE ((iB y).1) ((iB y).2)).1))++([32]:TX)))++[91])++qz (iC y))++[93]:qJ).length))],pb 2 50 [(iv (iK y)),(iv (iS y)),(.ssl (yI (iP y)) 0 ((iP y).length)),(iv ((iB y).1)),(iv ((iB y).2)),(sv (st (iL y))),(.ssl (zT (iC y)) 0 ((iC y).length))],pb 306 5 (qR ((((t++((([117,112,32]:TX)++((qE ((iB y).1) ((iB y).2)).1))++([32]:TX)))++[91])++qz (iC y))++[93]))] from by simp only [qQ (qM _)])) ?_
  refine qA<|qA<|qx (Wk.eq (show _=[ps 0 (.opt 0 0),ps 3 (.opt 2 0),pb 0 77 [(.opn 0 0),(.osl 306 0 ((t++qH y:qJ).length))],pb 2 50 [(iv (iK y)),(iv (iS y)),(.ssl (yI (iP y)) 0 ((iP y).length)),(iv ((iB y).1)),(iv ((iB y).2)),(sv (st (iL y))),(.ssl (zT (iC y)) 0 ((iC y).length))],pb 306 5 (qR (t++qH y))] from by rw [hM];try simp only [List.append_assoc,List.cons_append,List.nil_append])) ?_
  refine qL qD [.k2,.n,.r] [ps 56 (bv (!(decide ((iS y)=1))))] ?_
  by_cases h14:(iS y)=1
  ·refine qW (bt h14)<|qF<|qA ?_
   have hS:qK (iS y)=[]:=if_pos (by omega)
   refine qx (Wk.eq (show _=[ps 0 (.opt 0 0),ps 3 (.opt 2 0),ps 56 (bv (!(decide ((iS y)=1)))),pb 0 77 [(.opn 0 0),(.osl 306 0 ((t++qH y++qK (iS y):qJ).length))],pb 2 50 [(iv (iK y)),(iv (iS y)),(.ssl (yI (iP y)) 0 ((iP y).length)),(iv ((iB y).1)),(iv ((iB y).2)),(sv (st (iL y))),(.ssl (zT (iC y)) 0 ((iC y).length))],pb 306 5 (qR (t++qH y++qK (iS y)))] from by rw [hS];rw [List.append_nil])) ?_
   refine zE qD [(2,.val (.av (.bool (!decide ((iL y)=([]:TX))))))] [.k2,.d,.n,.r] [ps 67 (bv (!(decide ((iL y)=([]:TX)))))] (oc (zw _ _:(!((st (iL y)).toList == (st ([]:TX)).toList)) = !decide ((iL y)=([]:TX))) oz) ?_
   by_cases h15:(iL y)=([]:TX)
   ·refine qW (bt h15)<|qF ?_
    have hT:t++zO y=t++qH y++qK (iS y):=by rw [yx,show wy (iL y)=[] from if_pos (by assumption),List.append_nil,List.append_assoc]
    exact fun cx_ a_ hI_=>yw (H':=[some (77,[(.opn 0 0),(.osl 2 0 ((t++zO y:qJ).length))]),none,some (5,(qR (t++zO y)))]) (.inl rfl) (Wk.trans (Wk.eq (show _=[ps 0 (.opt 0 0),ps 3 (.opt 2 0),ps 67 (bv (!(decide ((iL y)=([]:TX))))),pb 0 77 [(.opn 0 0),(.osl 306 0 ((t++zO y:qJ).length))],pb 2 50 [(iv (iK y)),(iv (iS y)),(.ssl (yI (iP y)) 0 ((iP y).length)),(iv ((iB y).1)),(iv ((iB y).2)),(sv (st (iL y))),(.ssl (zT (iC y)) 0 ((iC y).length))],pb 306 5 (qR (t++zO y))] from by rw [hT])) (Wk.ren3 [pb 0 77 [(.opn 0 0),(.osl 2 0 ((t++zO y:qJ).length))],pb 2 5 (qR (t++zO y))] 2 hc0 [0,1,306] [(kb 2,(qR (t++zO y)))] (oc (qM _) (oz)) (by kernel_rfl) rfl rfl (by kernel_rfl) (by kernel_rfl))) rfl (oc rfl (oc rfl (oz))) (fun cx_ a_ hI_=>yC (l':=[pb 0 77 [(.opn 0 0),(.osl 2 0 ((t++zO y:qJ).length))],pb 2 5 (qR (t++zO y))]) (by kernel_rfl) cx_ a_ hI_) hI_
   refine qX (bf h15) ?_
   have hY:wy (iL y)=[32,34]++iL y++[34]:=if_neg (by assumption)
   have hY2:=congrArg List.length hY
   simp only [List.length_append,List.length_cons,List.length_nil] at hY2
   refine jQ qD [(5,.val (.av (.string (st (([32,34]:TX)++(iL y)))))),(6,.val (.av (.string (st ((([32,34]:TX)++(iL y))++([34]:TX)))))),(7,.call [0,306] [(.opt 0 0),(sv (st ((([32,34]:TX)++(iL y))++([34]:TX))))] [some (77,[(.opn 0 0),(.osl 1 0 ((t++qH y++qK (iS y):qJ).length))]),some (5,(qR (t++qH y++qK (iS y))))] (.tup [(nv ((((([32,34]:TX)++(iL y))++([34]:TX))).length)),(.av .nilIface)]) [some (77,[(.opn 0 0),(.osl 2 0 (((t++qH y++qK (iS y))++((([32,34]:TX)++(iL y))++([34]:TX)):qJ).length))]),none,some (5,(qR ((t++qH y++qK (iS y))++((([32,34]:TX)++(iL y))++([34]:TX)))))])] [[],[0],[0,1],[],[3],[3,4],[3,4,5],[0,1,2,3,4,5,6]] [([136],[0]),([138],[136]),([140],[138]),([142],[6]),([144],[5,142]),([146],[144]),([148],[146]),([150,1,613,837],[1,140,148,613])] [pb 0 77 [(.opn 0 0),(.osl 418 0 (((t++qH y++qK (iS y))++((([32,34]:TX)++(iL y))++([34]:TX)):qJ).length))],pb 418 5 (qT (yK [0,306] 418) (qR ((t++qH y++qK (iS y))++((([32,34]:TX)++(iL y))++([34]:TX)))))] (oc (by first|omega|(simp <;> omega):((([32,34]:TX).length+(iL y).length:Nat):Int)≤9223372036854775807) (oc (qj _ _:st ([32,34]:TX)++st (iL y)=st (([32,34]:TX)++(iL y))) (oc (by first|omega|(simp <;> omega):(((([32,34]:TX)++(iL y)).length+([34]:TX).length:Nat):Int)≤9223372036854775807) (oc (qj _ _:st (([32,34]:TX)++(iL y))++st ([34]:TX)=st ((([32,34]:TX)++(iL y))++([34]:TX))) (oc (wj (t++qH y++qK (iS y)) ((([32,34]:TX)++(iL y))++([34]:TX)) (by (first|omega|(simp only [List.length_append,List.length_cons,List.length_nil];omega)))) (oc (rfl:[(.opt 0 0),(sv (st ((([32,34]:TX)++(iL y))++([34]:TX))))]=qT (qY [0,306] 418) [(.opt 0 0),(sv (st ((([32,34]:TX)++(iL y))++([34]:TX))))]) (oc (rfl:[(.opn 0 0),(.osl 306 0 ((t++qH y++qK (iS y):qJ).length))]=qT (qY [0,306] 418) [(.opn 0 0),(.osl 1 0 ((t++qH y++qK (iS y):qJ).length))]) (oc ((qQ (qM _)).symm:(qR (t++qH y++qK (iS y)))=qT (qY [0,306] 418) (qR (t++qH y++qK (iS y)))) oz)))))))) ?_
   have hT:t++zO y=t++qH y++qK (iS y)++([32,34]++iL y++[34]):=by rw [yx,hY];simp only [List.append_assoc]
   exact fun cx_ a_ hI_=>yw (H':=[some (77,[(.opn 0 0),(.osl 2 0 ((t++zO y:qJ).length))]),none,some (5,(qR (t++zO y)))]) (.inl rfl) (Wk.trans (Wk.eq (show _=[pb 0 77 [(.opn 0 0),(.osl 418 0 (((t++qH y++qK (iS y))++((([32,34]:TX)++(iL y))++([34]:TX)):qJ).length))],pb 418 5 (qR ((t++qH y++qK (iS y))++((([32,34]:TX)++(iL y))++([34]:TX))))] from by simp only [qQ (qM _)])) (Wk.trans (Wk.eq (show _=[pb 0 77 [(.opn 0 0),(.osl 418 0 ((t++zO y:qJ).length))],pb 418 5 (qR (t++zO y))] from by rw [hT])) (Wk.ren3 [pb 0 77 [(.opn 0 0),(.osl 2 0 ((t++zO y:qJ).length))],pb 2 5 (qR (t++zO y))] 2 hc0 [0,1,418] [(kb 2,(qR (t++zO y)))] (oc (qM _) (oz)) (by kernel_rfl) rfl rfl (by kernel_rfl) (by kernel_rfl)))) rfl (oc rfl (oc rfl (oz))) (fun cx_ a_ hI_=>yC (l':=[pb 0 77 [(.opn 0 0),(.osl 2 0 ((t++zO y:qJ).length))],pb 2 5 (qR (t++zO y))]) (by kernel_rfl) cx_ a_ hI_) hI_
  refine qX (bf h14) ?_
  have hS:qK (iS y)=[42]++Lib.itoa (iS y):=if_neg (by omega)
  have hS2:=congrArg List.length hS
  simp only [List.length_append,List.length_cons,List.length_nil] at hS2
  have hIt:=Lib.itoa_length_le (iS y) (by omega) (by omega)
  refine ZG qD [(5,.call [] [(iv (iS y))] [] (sv (st (Lib.itoa (iS y)))) []),(6,.val (.av (.string (st (([42]:TX)++(Lib.itoa (iS y))))))),(7,.call [0,306] [(.opt 0 0),(sv (st (([42]:TX)++(Lib.itoa (iS y)))))] [some (77,[(.opn 0 0),(.osl 1 0 ((t++qH y:qJ).length))]),some (5,(qR (t++qH y)))] (.tup [(nv (((([42]:TX)++(Lib.itoa (iS y)))).length)),(.av .nilIface)]) [some (77,[(.opn 0 0),(.osl 2 0 (((t++qH y)++(([42]:TX)++(Lib.itoa (iS y))):qJ).length))]),none,some (5,(qR ((t++qH y)++(([42]:TX)++(Lib.itoa (iS y))))))])] [[],[0],[0,1],[],[3],[3,4],[3,4,5],[0,1,2,3,4,5,6]] [([114],[0]),([116],[114]),([118],[116]),([120],[6]),([122],[5,120]),([124],[122]),([126],[124]),([128,1,613,789],[1,118,126,613])] [.k2,.d,.d,.n,.k1,.d,.n] [pb 0 77 [(.opn 0 0),(.osl 394 0 (((t++qH y)++(([42]:TX)++(Lib.itoa (iS y))):qJ).length))],pb 394 5 (qT (yK [0,306] 394) (qR ((t++qH y)++(([42]:TX)++(Lib.itoa (iS y))))))] (zY 378 (zz (iS y) (by omega) (by omega)) (oc (by first|omega|(simp <;> omega):((([42]:TX).length+(Lib.itoa (iS y)).length:Nat):Int)≤9223372036854775807) (oc (qj _ _:st ([42]:TX)++st (Lib.itoa (iS y))=st (([42]:TX)++(Lib.itoa (iS y)))) (oc (wj (t++qH y) (([42]:TX)++(Lib.itoa (iS y))) (by (first|omega|(simp only [List.length_append,List.length_cons,List.length_nil];omega)))) (oc (rfl:[(.opt 0 0),(sv (st (([42]:TX)++(Lib.itoa (iS y)))))]=qT (qY [0,306] 394) [(.opt 0 0),(sv (st (([42]:TX)++(Lib.itoa (iS y)))))]) (oc (rfl:[(.opn 0 0),(.osl 306 0 ((t++qH y:qJ).length))]=qT (qY [0,306] 394) [(.opn 0 0),(.osl 1 0 ((t++qH y:qJ).length))]) (oc ((qQ (qM _)).symm:(qR (t++qH y))=qT (qY [0,306] 394) (qR (t++qH y))) oz)))))))<|qx (Wk.eq (show _=[ps 0 (.opt 0 0),ps 3 (.opt 2 0),pb 0 77 [(.opn 0 0),(.osl 394 0 (((t++qH y)++(([42]:TX)++(Lib.itoa (iS y))):qJ).length))],pb 2 50 [(iv (iK y)),(iv (iS y)),(.ssl (yI (iP y)) 0 ((iP y).length)),(iv ((iB y).1)),(iv ((iB y).2)),(sv (st (iL y))),(.ssl (zT (iC y)) 0 ((iC y).length))],pb 394 5 (qR ((t++qH y)++(([42]:TX)++(Lib.itoa (iS y)))))] from by simp only [qQ (qM _)])) ?_
  refine qA<|qx (Wk.eq (show _=[ps 0 (.opt 0 0),ps 3 (.opt 2 0),pb 0 77 [(.opn 0 0),(.osl 394 0 ((t++qH y++qK (iS y):qJ).length))],pb 2 50 [(iv (iK y)),(iv (iS y)),(.ssl (yI (iP y)) 0 ((iP y).length)),(iv ((iB y).1)),(iv ((iB y).2)),(sv (st (iL y))),(.ssl (zT (iC y)) 0 ((iC y).length))],pb 394 5 (qR (t++qH y++qK (iS y)))] from by rw [hS])) ?_
  refine zE qD [(2,.val (.av (.bool (!decide ((iL y)=([]:TX))))))] [.k2,.n,.r] [ps 67 (bv (!(decide ((iL y)=([]:TX)))))] (oc (zw _ _:(!((st (iL y)).toList == (st ([]:TX)).toList)) = !decide ((iL y)=([]:TX))) oz) ?_
  by_cases h16:(iL y)=([]:TX)
  ·refine qW (bt h16)<|qF ?_
   have hT:t++zO y=t++qH y++qK (iS y):=by rw [yx,show wy (iL y)=[] from if_pos (by assumption),List.append_nil,List.append_assoc]
   exact fun cx_ a_ hI_=>yw (H':=[some (77,[(.opn 0 0),(.osl 2 0 ((t++zO y:qJ).length))]),none,some (5,(qR (t++zO y)))]) (.inl rfl) (Wk.trans (Wk.eq (show _=[ps 0 (.opt 0 0),ps 3 (.opt 2 0),ps 67 (bv (!(decide ((iL y)=([]:TX))))),pb 0 77 [(.opn 0 0),(.osl 394 0 ((t++zO y:qJ).length))],pb 2 50 [(iv (iK y)),(iv (iS y)),(.ssl (yI (iP y)) 0 ((iP y).length)),(iv ((iB y).1)),(iv ((iB y).2)),(sv (st (iL y))),(.ssl (zT (iC y)) 0 ((iC y).length))],pb 394 5 (qR (t++zO y))] from by rw [hT])) (Wk.ren3 [pb 0 77 [(.opn 0 0),(.osl 2 0 ((t++zO y:qJ).length))],pb 2 5 (qR (t++zO y))] 2 hc0 [0,1,394] [(kb 2,(qR (t++zO y)))] (oc (qM _) (oz)) (by kernel_rfl) rfl rfl (by kernel_rfl) (by kernel_rfl))) rfl (oc rfl (oc rfl (oz))) (fun cx_ a_ hI_=>yC (l':=[pb 0 77 [(.opn 0 0),(.osl 2 0 ((t++zO y:qJ).length))],pb 2 5 (qR (t++zO y))]) (by kernel_rfl) cx_ a_ hI_) hI_
  refine qX (bf h16) ?_
  have hY:wy (iL y)=[32,34]++iL y++[34]:=if_neg (by assumption)
  have hY2:=congrArg List.length hY
  simp only [List.length_append,List.length_cons,List.length_nil] at hY2
  refine jQ qD [(5,.val (.av (.string (st (([32,34]:TX)++(iL y)))))),(6,.val (.av (.string (st ((([32,34]:TX)++(iL y))++([34]:TX)))))),(7,.call [0,394] [(.opt 0 0),(sv (st ((([32,34]:TX)++(iL y))++([34]:TX))))] [some (77,[(.opn 0 0),(.osl 1 0 ((t++qH y++qK (iS y):qJ).length))]),some (5,(qR (t++qH y++qK (iS y))))] (.tup [(nv ((((([32,34]:TX)++(iL y))++([34]:TX))).length)),(.av .nilIface)]) [some (77,[(.opn 0 0),(.osl 2 0 (((t++qH y++qK (iS y))++((([32,34]:TX)++(iL y))++([34]:TX)):qJ).length))]),none,some (5,(qR ((t++qH y++qK (iS y))++((([32,34]:TX)++(iL y))++([34]:TX)))))])] [[],[0],[0,1],[],[3],[3,4],[3,4,5],[0,1,2,3,4,5,6]] [([136],[0]),([138],[136]),([140],[138]),([142],[6]),([144],[5,142]),([146],[144]),([148],[146]),([150,1,789,965],[1,140,148,789])] [pb 0 77 [(.opn 0 0),(.osl 482 0 (((t++qH y++qK (iS y))++((([32,34]:TX)++(iL y))++([34]:TX)):qJ).length))],pb 482 5 (qT (yK [0,394] 482) (qR ((t++qH y++qK (iS y))++((([32,34]:TX)++(iL y))++([34]:TX)))))] (oc (by first|omega|(simp <;> omega):((([32,34]:TX).length+(iL y).length:Nat):Int)≤9223372036854775807) (oc (qj _ _:st ([32,34]:TX)++st (iL y)=st (([32,34]:TX)++(iL y))) (oc (by first|omega|(simp <;> omega):(((([32,34]:TX)++(iL y)).length+([34]:TX).length:Nat):Int)≤9223372036854775807) (oc (qj _ _:st (([32,34]:TX)++(iL y))++st ([34]:TX)=st ((([32,34]:TX)++(iL y))++([34]:TX))) (oc (wj (t++qH y++qK (iS y)) ((([32,34]:TX)++(iL y))++([34]:TX)) (by (first|omega|(simp only [List.length_append,List.length_cons,List.length_nil];omega)))) (oc (rfl:[(.opt 0 0),(sv (st ((([32,34]:TX)++(iL y))++([34]:TX))))]=qT (qY [0,394] 482) [(.opt 0 0),(sv (st ((([32,34]:TX)++(iL y))++([34]:TX))))]) (oc (rfl:[(.opn 0 0),(.osl 394 0 ((t++qH y++qK (iS y):qJ).length))]=qT (qY [0,394] 482) [(.opn 0 0),(.osl 1 0 ((t++qH y++qK (iS y):qJ).length))]) (oc ((qQ (qM _)).symm:(qR (t++qH y++qK (iS y)))=qT (qY [0,394] 482) (qR (t++qH y++qK (iS y)))) oz)))))))) ?_
  have hT:t++zO y=t++qH y++qK (iS y)++([32,34]++iL y++[34]):=by rw [yx,hY];simp only [List.append_assoc]
  exact fun cx_ a_ hI_=>yw (H':=[some (77,[(.opn 0 0),(.osl 2 0 ((t++zO y:qJ).length))]),none,some (5,(qR (t++zO y)))]) (.inl rfl) (Wk.trans (Wk.eq (show _=[pb 0 77 [(.opn 0 0),(.osl 482 0 (((t++qH y++qK (iS y))++((([32,34]:TX)++(iL y))++([34]:TX)):qJ).length))],pb 482 5 (qR ((t++qH y++qK (iS y))++((([32,34]:TX)++(iL y))++([34]:TX))))] from by simp only [qQ (qM _)])) (Wk.trans (Wk.eq (show _=[pb 0 77 [(.opn 0 0),(.osl 482 0 ((t++zO y:qJ).length))],pb 482 5 (qR (t++zO y))] from by rw [hT])) (Wk.ren3 [pb 0 77 [(.opn 0 0),(.osl 2 0 ((t++zO y:qJ).length))],pb 2 5 (qR (t++zO y))] 2 hc0 [0,1,482] [(kb 2,(qR (t++zO y)))] (oc (qM _) (oz)) (by kernel_rfl) rfl rfl (by kernel_rfl) (by kernel_rfl)))) rfl (oc rfl (oc rfl (oz))) (fun cx_ a_ hI_=>yC (l':=[pb 0 77 [(.opn 0 0),(.osl 2 0 ((t++zO y:qJ).length))],pb 2 5 (qR (t++zO y))]) (by kernel_rfl) cx_ a_ hI_) hI_
 refine qW (zP h13)<|qF<|qA ?_
 have hM:qH y=(91 :: (qz (iC y)++[93])):=by unfold qH upT;rw [if_neg (show ¬ iK y=2 from by omega),if_neg (show ¬ iK y=3 from by omega),if_neg (show ¬ iK y=1 from by omega),if_neg (show ¬ iK y=5 from by omega)];rfl
 have hM2:=congrArg List.length hM
 try simp only [List.length_append,List.length_cons,List.length_nil] at hM2
 refine zE qD [(3,.call [0,1] [(.opt 0 0),(.av (.int .u8 91))] [some (77,[(.opn 0 0),(.osl 1 0 t.length)]),some (5,(qR t))] (.av .nilIface) [some (77,[(.opn 0 0),(.osl 2 0 ((t++[91]:qJ).length))]),none,some (5,(qR (t++[91])))])] [.k2,.d,.d,.n,.d,.k1,.n] [pb 0 77 [(.opn 0 0),(.osl 122 0 ((t++[91]:qJ).length))],pb 122 5 (qT (yK [0,1] 122) (qR (t++[91])))] (oc (YR t 91 (by (first|omega|(simp only [List.length_append,List.length_cons,List.length_nil];omega)))) (oc (rfl:[(.opt 0 0),(.av (.int .u8 91))]=qT (qY [0,1] 122) [(.opt 0 0),(.av (.int .u8 91))]) (oc (rfl:[(.opn 0 0),(.osl 1 0 t.length)]=qT (qY [0,1] 122) [(.opn 0 0),(.osl 1 0 t.length)]) (oc ((qQ (qM _)).symm:(qR t)=qT (qY [0,1] 122) (qR t)) oz))))<|qx (Wk.eq (show _=[ps 0 (.opt 0 0),ps 3 (.opt 2 0),pb 0 77 [(.opn 0 0),(.osl 122 0 ((t++[91]:qJ).length))],pb 2 50 [(iv (iK y)),(iv (iS y)),(.ssl (yI (iP y)) 0 ((iP y).length)),(iv ((iB y).1)),(iv ((iB y).2)),(sv (st (iL y))),(.ssl (zT (iC y)) 0 ((iC y).length))],pb 122 5 (qR (t++[91]))] from by simp only [qQ (qM _)])) ?_
 refine qA<|zE qD [(3,.call [0,122] [(.opt 0 0),(.ssl (zT (iC y)) 0 ((iC y).length))] [some (77,[(.opn 0 0),(.osl 1 0 ((t++[91]:qJ).length))]),some (5,(qR (t++[91])))] (.tup []) [some (77,[(.opn 0 0),(.osl 2 0 (((t++[91])++qz (iC y):qJ).length))]),none,some (5,(qR ((t++[91])++qz (iC y))))])] [.k2,.d,.n,.k1,.d,.n] [pb 0 77 [(.opn 0 0),(.osl 154 0 (((t++[91])++qz (iC y):qJ).length))],pb 154 5 (qT (yK [0,122] 154) (qR ((t++[91])++qz (iC y))))] (oc (ihL (iC y) (t++[91]) (VG y) (by (first|omega|(simp only [List.length_append,List.length_cons,List.length_nil];omega))) hx5 hx4 hpr.2.1) (oc (rfl:[(.opt 0 0),(.ssl (zT (iC y)) 0 ((iC y).length))]=qT (qY [0,122] 154) [(.opt 0 0),(.ssl (zT (iC y)) 0 ((iC y).length))]) (oc (rfl:[(.opn 0 0),(.osl 122 0 ((t++[91]:qJ).length))]=qT (qY [0,122] 154) [(.opn 0 0),(.osl 1 0 ((t++[91]:qJ).length))]) (oc ((qQ (qM _)).symm:(qR (t++[91]))=qT (qY [0,122] 154) (qR (t++[91]))) oz))))<|qx (Wk.eq (show _=[ps 0 (.opt 0 0),ps 3 (.opt 2 0),pb 0 77 [(.opn 0 0),(.osl 154 0 (((t++[91])++qz (iC y):qJ).length))],pb 2 50 [(iv (iK y)),(iv (iS y)),(.ssl (yI (iP y)) 0 ((iP y).length)),(iv ((iB y).1)),(iv ((iB y).2)),(sv (st (iL y))),(.ssl (zT (iC y)) 0 ((iC y).length))],pb 154 5 (qR ((t++[91])++qz (iC y)))] from by simp only [qQ (qM _)])) ?_
 refine zE qD [(3,.call [0,154] [(.opt 0 0),(.av (.int .u8 93))] [some (77,[(.opn 0 0),(.osl 1 0 (((t++[91])++qz (iC y):qJ).length))]),some (5,(qR ((t++[91])++qz (iC y))))] (.av .nilIface) [some (77,[(.opn 0 0),(.osl 2 0 ((((t++[91])++qz (iC y))++[93]:qJ).length))]),none,some (5,(qR (((t++[91])++qz (iC y))++[93])))])] [.k2,.d,.n,.k1,.d,.n] [pb 0 77 [(.opn 0 0),(.osl 186 0 ((((t++[91])++qz (iC y))++[93]:qJ).length))],pb 186 5 (qT (yK [0,154] 186) (qR (((t++[91])++qz (iC y))++[93])))] (oc (YR ((t++[91])++qz (iC y)) 93 (by (first|omega|(simp only [List.length_append,List.length_cons,List.length_nil];omega)))) (oc (rfl:[(.opt 0 0),(.av (.int .u8 93))]=qT (qY [0,154] 186) [(.opt 0 0),(.av (.int .u8 93))]) (oc (rfl:[(.opn 0 0),(.osl 154 0 (((t++[91])++qz (iC y):qJ).length))]=qT (qY [0,154] 186) [(.opn 0 0),(.osl 1 0 (((t++[91])++qz (iC y):qJ).length))]) (oc ((qQ (qM _)).symm:(qR ((t++[91])++qz (iC y)))=qT (qY [0,154] 186) (qR ((t++[91])++qz (iC y)))) oz))))<|zM<|qx (Wk.eq (show _=[ps 0 (.opt 0 0),ps 3 (.opt 2 0),pb 0 77 [(.opn 0 0),(.osl 186 0 ((((t++[91])++qz (iC y))++[93]:qJ).length))],pb 2 50 [(iv (iK y)),(iv (iS y)),(.ssl (yI (iP y)) 0 ((iP y).length)),(iv ((iB y).1)),(iv ((iB y).2)),(sv (st (iL y))),(.ssl (zT (iC y)) 0 ((iC y).length))],pb 186 5 (qR (((t++[91])++qz (iC y))++[93]))] from by simp only [qQ (qM _)])) ?_
 refine qA<|qA<|qx (Wk.eq (show _=[ps 0 (.opt 0 0),ps 3 (.opt 2 0),pb 0 77 [(.opn 0 0),(.osl 186 0 ((t++qH y:qJ).length))],pb 2 50 [(iv (iK y)),(iv (iS y)),(.ssl (yI (iP y)) 0 ((iP y).length)),(iv ((iB y).1)),(iv ((iB y).2)),(sv (st (iL y))),(.ssl (zT (iC y)) 0 ((iC y).length))],pb 186 5 (qR (t++qH y))] from by rw [hM];try simp only [List.append_assoc,List.cons_append,List.nil_append])) ?_
 refine qL qD [.k2,.n,.r] [ps 56 (bv (!(decide ((iS y)=1))))] ?_
 by_cases h17:(iS y)=1
 ·refine qW (bt h17)<|qF<|qA ?_
  have hS:qK (iS y)=[]:=if_pos (by omega)
  refine qx (Wk.eq (show _=[ps 0 (.opt 0 0),ps 3 (.opt 2 0),ps 56 (bv (!(decide ((iS y)=1)))),pb 0 77 [(.opn 0 0),(.osl 186 0 ((t++qH y++qK (iS y):qJ).length))],pb 2 50 [(iv (iK y)),(iv (iS y)),(.ssl (yI (iP y)) 0 ((iP y).length)),(iv ((iB y).1)),(iv ((iB y).2)),(sv (st (iL y))),(.ssl (zT (iC y)) 0 ((iC y).length))],pb 186 5 (qR (t++qH y++qK (iS y)))] from by rw [hS];rw [List.append_nil])) ?_
  refine zE qD [(2,.val (.av (.bool (!decide ((iL y)=([]:TX))))))] [.k2,.d,.n,.r] [ps 67 (bv (!(decide ((iL y)=([]:TX)))))] (oc (zw _ _:(!((st (iL y)).toList == (st ([]:TX)).toList)) = !decide ((iL y)=([]:TX))) oz) ?_
  by_cases h18:(iL y)=([]:TX)
  ·refine qW (bt h18)<|qF ?_
   have hT:t++zO y=t++qH y++qK (iS y):=by rw [yx,show wy (iL y)=[] from if_pos (by assumption),List.append_nil,List.append_assoc]
   exact fun cx_ a_ hI_=>yw (H':=[some (77,[(.opn 0 0),(.osl 2 0 ((t++zO y:qJ).length))]),none,some (5,(qR (t++zO y)))]) (.inl rfl) (Wk.trans (Wk.eq (show _=[ps 0 (.opt 0 0),ps 3 (.opt 2 0),ps 67 (bv (!(decide ((iL y)=([]:TX))))),pb 0 77 [(.opn 0 0),(.osl 186 0 ((t++zO y:qJ).length))],pb 2 50 [(iv (iK y)),(iv (iS y)),(.ssl (yI (iP y)) 0 ((iP y).length)),(iv ((iB y).1)),(iv ((iB y).2)),(sv (st (iL y))),(.ssl (zT (iC y)) 0 ((iC y).length))],pb 186 5 (qR (t++zO y))] from by rw [hT])) (Wk.ren3 [pb 0 77 [(.opn 0 0),(.osl 2 0 ((t++zO y:qJ).length))],pb 2 5 (qR (t++zO y))] 2 hc0 [0,1,186] [(kb 2,(qR (t++zO y)))] (oc (qM _) (oz)) (by kernel_rfl) rfl rfl (by kernel_rfl) (by kernel_rfl))) rfl (oc rfl (oc rfl (oz))) (fun cx_ a_ hI_=>yC (l':=[pb 0 77 [(.opn 0 0),(.osl 2 0 ((t++zO y:qJ).length))],pb 2 5 (qR (t++zO y))]) (by kernel_rfl) cx_ a_ hI_) hI_
  refine qX (bf h18) ?_
  have hY:wy (iL y)=[32,34]++iL y++[34]:=if_neg (by assumption)
  have hY2:=congrArg List.length hY
  simp only [List.length_append,List.length_cons,List.length_nil] at hY2
  refine jQ qD [(5,.val (.av (.string (st (([32,34]:TX)++(iL y)))))),(6,.val (.av (.string (st ((([32,34]:TX)++(iL y))++([34]:TX)))))),(7,.call [0,186] [(.opt 0 0),(sv (st ((([32,34]:TX)++(iL y))++([34]:TX))))] [some (77,[(.opn 0 0),(.osl 1 0 ((t++qH y++qK (iS y):qJ).length))]),some (5,(qR (t++qH y++qK (iS y))))] (.tup [(nv ((((([32,34]:TX)++(iL y))++([34]:TX))).length)),(.av .nilIface)]) [some (77,[(.opn 0 0),(.osl 2 0 (((t++qH y++qK (iS y))++((([32,34]:TX)++(iL y))++([34]:TX)):qJ).length))]),none,some (5,(qR ((t++qH y++qK (iS y))++((([32,34]:TX)++(iL y))++([34]:TX)))))])] [[],[0],[0,1],[],[3],[3,4],[3,4,5],[0,1,2,3,4,5,6]] [([136],[0]),([138],[136]),([140],[138]),([142],[6]),([144],[5,142]),([146],[144]),([148],[146]),([150,1,373,597],[1,140,148,373])] [pb 0 77 [(.opn 0 0),(.osl 298 0 (((t++qH y++qK (iS y))++((([32,34]:TX)++(iL y))++([34]:TX)):qJ).length))],pb 298 5 (qT (yK [0,186] 298) (qR ((t++qH y++qK (iS y))++((([32,34]:TX)++(iL y))++([34]:TX)))))] (oc (by first|omega|(simp <;> omega):((([32,34]:TX).length+(iL y).length:Nat):Int)≤9223372036854775807) (oc (qj _ _:st ([32,34]:TX)++st (iL y)=st (([32,34]:TX)++(iL y))) (oc (by first|omega|(simp <;> omega):(((([32,34]:TX)++(iL y)).length+([34]:TX).length:Nat):Int)≤9223372036854775807) (oc (qj _ _:st (([32,34]:TX)++(iL y))++st ([34]:TX)=st ((([32,34]:TX)++(iL y))++([34]:TX))) (oc (wj (t++qH y++qK (iS y)) ((([32,34]:TX)++(iL y))++([34]:TX)) (by (first|omega|(simp only [List.length_append,List.length_cons,List.length_nil];omega)))) (oc (rfl:[(.opt 0 0),(sv (st ((([32,34]:TX)++(iL y))++([34]:TX))))]=qT (qY [0,186] 298) [(.opt 0 0),(sv (st ((([32,34]:TX)++(iL y))++([34]:TX))))]) (oc (rfl:[(.opn 0 0),(.osl 186 0 ((t++qH y++qK (iS y):qJ).length))]=qT (qY [0,186] 298) [(.opn 0 0),(.osl 1 0 ((t++qH y++qK (iS y):qJ).length))]) (oc ((qQ (qM _)).symm:(qR (t++qH y++qK (iS y)))=qT (qY [0,186] 298) (qR (t++qH y++qK (iS y)))) oz)))))))) ?_
  have hT:t++zO y=t++qH y++qK (iS y)++([32,34]++iL y++[34]):=by rw [yx,hY];simp only [List.append_assoc]
  exact fun cx_ a_ hI_=>yw (H':=[some (77,[(.opn 0 0),(.osl 2 0 ((t++zO y:qJ).length))]),none,some (5,(qR (t++zO y)))]) (.inl rfl) (Wk.trans (Wk.eq (show _=[pb 0 77 [(.opn 0 0),(.osl 298 0 (((t++qH y++qK (iS y))++((([32,34]:TX)++(iL y))++([34]:TX)):qJ).length))],pb 298 5 (qR ((t++qH y++qK (iS y))++((([32,34]:TX)++(iL y))++([34]:TX))))] from by simp only [qQ (qM _)])) (Wk.trans (Wk.eq (show _=[pb 0 77 [(.opn 0 0),(.osl 298 0 ((t++zO y:qJ).length))],pb 298 5 (qR (t++zO y))] from by rw [hT])) (Wk.ren3 [pb 0 77 [(.opn 0 0),(.osl 2 0 ((t++zO y:qJ).length))],pb 2 5 (qR (t++zO y))] 2 hc0 [0,1,298] [(kb 2,(qR (t++zO y)))] (oc (qM _) (oz)) (by kernel_rfl) rfl rfl (by kernel_rfl) (by kernel_rfl)))) rfl (oc rfl (oc rfl (oz))) (fun cx_ a_ hI_=>yC (l':=[pb 0 77 [(.opn 0 0),(.osl 2 0 ((t++zO y:qJ).length))],pb 2 5 (qR (t++zO y))]) (by kernel_rfl) cx_ a_ hI_) hI_
 refine qX (bf h17) ?_
 have hS:qK (iS y)=[42]++Lib.itoa (iS y):=if_neg (by omega)
 have hS2:=congrArg List.length hS
 simp only [List.length_append,List.length_cons,List.length_nil] at hS2
 have hIt:=Lib.itoa_length_le (iS y) (by omega) (by omega)
 refine ZG qD [(5,.call [] [(iv (iS y))] [] (sv (st (Lib.itoa (iS y)))) []),(6,.val (.av (.string (st (([42]:TX)++(Lib.itoa (iS y))))))),(7,.call [0,186] [(.opt 0 0),(sv (st (([42]:TX)++(Lib.itoa (iS y)))))] [some (77,[(.opn 0 0),(.osl 1 0 ((t++qH y:qJ).length))]),some (5,(qR (t++qH y)))] (.tup [(nv (((([42]:TX)++(Lib.itoa (iS y)))).length)),(.av .nilIface)]) [some (77,[(.opn 0 0),(.osl 2 0 (((t++qH y)++(([42]:TX)++(Lib.itoa (iS y))):qJ).length))]),none,some (5,(qR ((t++qH y)++(([42]:TX)++(Lib.itoa (iS y))))))])] [[],[0],[0,1],[],[3],[3,4],[3,4,5],[0,1,2,3,4,5,6]] [([114],[0]),([116],[114]),([118],[116]),([120],[6]),([122],[5,120]),([124],[122]),([126],[124]),([128,1,373,549],[1,118,126,373])] [.k2,.d,.d,.n,.k1,.d,.n] [pb 0 77 [(.opn 0 0),(.osl 274 0 (((t++qH y)++(([42]:TX)++(Lib.itoa (iS y))):qJ).length))],pb 274 5 (qT (yK [0,186] 274) (qR ((t++qH y)++(([42]:TX)++(Lib.itoa (iS y))))))] (zY 258 (zz (iS y) (by omega) (by omega)) (oc (by first|omega|(simp <;> omega):((([42]:TX).length+(Lib.itoa (iS y)).length:Nat):Int)≤9223372036854775807) (oc (qj _ _:st ([42]:TX)++st (Lib.itoa (iS y))=st (([42]:TX)++(Lib.itoa (iS y)))) (oc (wj (t++qH y) (([42]:TX)++(Lib.itoa (iS y))) (by (first|omega|(simp only [List.length_append,List.length_cons,List.length_nil];omega)))) (oc (rfl:[(.opt 0 0),(sv (st (([42]:TX)++(Lib.itoa (iS y)))))]=qT (qY [0,186] 274) [(.opt 0 0),(sv (st (([42]:TX)++(Lib.itoa (iS y)))))]) (oc (rfl:[(.opn 0 0),(.osl 186 0 ((t++qH y:qJ).length))]=qT (qY [0,186] 274) [(.opn 0 0),(.osl 1 0 ((t++qH y:qJ).length))]) (oc ((qQ (qM _)).symm:(qR (t++qH y))=qT (qY [0,186] 274) (qR (t++qH y))) oz)))))))<|qx (Wk.eq (show _=[ps 0 (.opt 0 0),ps 3 (.opt 2 0),pb 0 77 [(.opn 0 0),(.osl 274 0 (((t++qH y)++(([42]:TX)++(Lib.itoa (iS y))):qJ).length))],pb 2 50 [(iv (iK y)),(iv (iS y)),(.ssl (yI (iP y)) 0 ((iP y).length)),(iv ((iB y).1)),(iv ((iB y).2)),(sv (st (iL y))),(.ssl (zT (iC y)) 0 ((iC y).length))],pb 274 5 (qR ((t++qH y)++(([42]:TX)++(Lib.itoa (iS y)))))] from by simp only [qQ (qM _)])) ?_
 refine qA<|qx (Wk.eq (show _=[ps 0 (.opt 0 0),ps 3 (.opt 2 0),pb 0 77 [(.opn 0 0),(.osl 274 0 ((t++qH y++qK (iS y):qJ).length))],pb 2 50 [(iv (iK y)),(iv (iS y)),(.ssl (yI (iP y)) 0 ((iP y).length)),(iv ((iB y).1)),(iv ((iB y).2)),(sv (st (iL y))),(.ssl (zT (iC y)) 0 ((iC y).length))],pb 274 5 (qR (t++qH y++qK (iS y)))] from by rw [hS])) ?_
 refine zE qD [(2,.val (.av (.bool (!decide ((iL y)=([]:TX))))))] [.k2,.n,.r] [ps 67 (bv (!(decide ((iL y)=([]:TX)))))] (oc (zw _ _:(!((st (iL y)).toList == (st ([]:TX)).toList)) = !decide ((iL y)=([]:TX))) oz) ?_
 by_cases h19:(iL y)=([]:TX)
 ·refine qW (bt h19)<|qF ?_
  have hT:t++zO y=t++qH y++qK (iS y):=by rw [yx,show wy (iL y)=[] from if_pos (by assumption),List.append_nil,List.append_assoc]
  exact fun cx_ a_ hI_=>yw (H':=[some (77,[(.opn 0 0),(.osl 2 0 ((t++zO y:qJ).length))]),none,some (5,(qR (t++zO y)))]) (.inl rfl) (Wk.trans (Wk.eq (show _=[ps 0 (.opt 0 0),ps 3 (.opt 2 0),ps 67 (bv (!(decide ((iL y)=([]:TX))))),pb 0 77 [(.opn 0 0),(.osl 274 0 ((t++zO y:qJ).length))],pb 2 50 [(iv (iK y)),(iv (iS y)),(.ssl (yI (iP y)) 0 ((iP y).length)),(iv ((iB y).1)),(iv ((iB y).2)),(sv (st (iL y))),(.ssl (zT (iC y)) 0 ((iC y).length))],pb 274 5 (qR (t++zO y))] from by rw [hT])) (Wk.ren3 [pb 0 77 [(.opn 0 0),(.osl 2 0 ((t++zO y:qJ).length))],pb 2 5 (qR (t++zO y))] 2 hc0 [0,1,274] [(kb 2,(qR (t++zO y)))] (oc (qM _) (oz)) (by kernel_rfl) rfl rfl (by kernel_rfl) (by kernel_rfl))) rfl (oc rfl (oc rfl (oz))) (fun cx_ a_ hI_=>yC (l':=[pb 0 77 [(.opn 0 0),(.osl 2 0 ((t++zO y:qJ).length))],pb 2 5 (qR (t++zO y))]) (by kernel_rfl) cx_ a_ hI_) hI_
 refine qX (bf h19) ?_
 have hY:wy (iL y)=[32,34]++iL y++[34]:=if_neg (by assumption)
 have hY2:=congrArg List.length hY
 simp only [List.length_append,List.length_cons,List.length_nil] at hY2
 refine jQ qD [(5,.val (.av (.string (st (([32,34]:TX)++(iL y)))))),(6,.val (.av (.string (st ((([32,34]:TX)++(iL y))++([34]:TX)))))),(7,.call [0,274] [(.opt 0 0),(sv (st ((([32,34]:TX)++(iL y))++([34]:TX))))] [some (77,[(.opn 0 0),(.osl 1 0 ((t++qH y++qK (iS y):qJ).length))]),some (5,(qR (t++qH y++qK (iS y))))] (.tup [(nv ((((([32,34]:TX)++(iL y))++([34]:TX))).length)),(.av .nilIface)]) [some (77,[(.opn 0 0),(.osl 2 0 (((t++qH y++qK (iS y))++((([32,34]:TX)++(iL y))++([34]:TX)):qJ).length))]),none,some (5,(qR ((t++qH y++qK (iS y))++((([32,34]:TX)++(iL y))++([34]:TX)))))])] [[],[0],[0,1],[],[3],[3,4],[3,4,5],[0,1,2,3,4,5,6]] [([136],[0]),([138],[136]),([140],[138]),([142],[6]),([144],[5,142]),([146],[144]),([148],[146]),([150,1,549,725],[1,140,148,549])] [pb 0 77 [(.opn 0 0),(.osl 362 0 (((t++qH y++qK (iS y))++((([32,34]:TX)++(iL y))++([34]:TX)):qJ).length))],pb 362 5 (qT (yK [0,274] 362) (qR ((t++qH y++qK (iS y))++((([32,34]:TX)++(iL y))++([34]:TX)))))] (oc (by first|omega|(simp <;> omega):((([32,34]:TX).length+(iL y).length:Nat):Int)≤9223372036854775807) (oc (qj _ _:st ([32,34]:TX)++st (iL y)=st (([32,34]:TX)++(iL y))) (oc (by first|omega|(simp <;> omega):(((([32,34]:TX)++(iL y)).length+([34]:TX).length:Nat):Int)≤9223372036854775807) (oc (qj _ _:st (([32,34]:TX)++(iL y))++st ([34]:TX)=st ((([32,34]:TX)++(iL y))++([34]:TX))) (oc (wj (t++qH y++qK (iS y)) ((([32,34]:TX)++(iL y))++([34]:TX)) (by (first|omega|(simp only [List.length_append,List.length_cons,List.length_nil];omega)))) (oc (rfl:[(.opt 0 0),(sv (st ((([32,34]:TX)++(iL y))++([34]:TX))))]=qT (qY [0,274] 362) [(.opt 0 0),(sv (st ((([32,34]:TX)++(iL y))++([34]:TX))))]) (oc (rfl:[(.opn 0 0),(.osl 274 0 ((t++qH y++qK (iS y):qJ).length))]=qT (qY [0,274] 362) [(.opn 0 0),(.osl 1 0 ((t++qH y++qK (iS y):qJ).length))]) (oc ((qQ (qM _)).symm:(qR (t++qH y++qK (iS y)))=qT (qY [0,274] 362) (qR (t++qH y++qK (iS y)))) oz)))))))) ?_
 have hT:t++zO y=t++qH y++qK (iS y)++([32,34]++iL y++[34]):=by rw [yx,hY];simp only [List.append_assoc]
 exact fun cx_ a_ hI_=>yw (H':=[some (77,[(.opn 0 0),(.osl 2 0 ((t++zO y:qJ).length))]),none,some (5,(qR (t++zO y)))]) (.inl rfl) (Wk.trans (Wk.eq (show _=[pb 0 77 [(.opn 0 0),(.osl 362 0 (((t++qH y++qK (iS y))++((([32,34]:TX)++(iL y))++([34]:TX)):qJ).length))],pb 362 5 (qR ((t++qH y++qK (iS y))++((([32,34]:TX)++(iL y))++([34]:TX))))] from by simp only [qQ (qM _)])) (Wk.trans (Wk.eq (show _=[pb 0 77 [(.opn 0 0),(.osl 362 0 ((t++zO y:qJ).length))],pb 362 5 (qR (t++zO y))] from by rw [hT])) (Wk.ren3 [pb 0 77 [(.opn 0 0),(.osl 2 0 ((t++zO y:qJ).length))],pb 2 5 (qR (t++zO y))] 2 hc0 [0,1,362] [(kb 2,(qR (t++zO y)))] (oc (qM _) (oz)) (by kernel_rfl) rfl rfl (by kernel_rfl) (by kernel_rfl)))) rfl (oc rfl (oc rfl (oz))) (fun cx_ a_ hI_=>yC (l':=[pb 0 77 [(.opn 0 0),(.osl 2 0 ((t++zO y:qJ).length))],pb 2 5 (qR (t++zO y))]) (by kernel_rfl) cx_ a_ hI_) hI_
theorem qix (l:List It) (t:qJ) (ihI:∀ (x:It) (t:qJ),SizeOf.sizeOf x<SizeOf.sizeOf l→t.length+(zO x).length≤140737488355328→YZ x→prI x→PC Tryz.prog 62 [.opt 0 0,.agg (gI x)] [some (77,[(.opn 0 0),(.osl 1 0 t.length)]),some (5,(qR t))] (.tup []) [some (77,[(.opn 0 0),(.osl 2 0 ((t++zO x:qJ).length))]),none,some (5,(qR (t++zO x)))]) (hb:t.length+(qz l).length≤140737488355328) (hfl:jH l) (hll:l.length≤1466015503658) (hpl:prL l):PC Tryz.prog 29 [(.opt 0 0),(.ssl (zT l) 0 l.length)] [some (77,[(.opn 0 0),(.osl 1 0 t.length)]),some (5,(qR t))] (.tup []) [some (77,[(.opn 0 0),(.osl 2 0 ((t++qz l:qJ).length))]),none,some (5,(qR (t++qz l)))]:=by
 refine zZ Tryz.func29 rfl (by kernel_rfl) (Nat.le_of_ble_eq_true rfl) (by kernel_rfl) (l0:=[ps 0 (.opt 0 0),ps 1 (.ssl (zT l) 0 l.length),pb 0 77 [(.opn 0 0),(.osl 1 0 t.length)],pb 1 5 (qR t)]) rfl (fun c0 Bor hc0=>?_)
 refine qA<|qx (Wk.eq (show _=[ps 0 (.opt 0 0),ps 1 (.ssl (zT l) 0 l.length),pb 0 77 [(.opn 0 0),(.osl 1 0 ((t++qz (l.take 0):qJ).length))],pb 1 5 (qR (t++qz (l.take 0)))] from by rw [List.take_zero,Zq,List.append_nil])) ?_
 refine qL qD [.k1,.d,.n,.n,.n,.r] [ps 6 (.ssl (zT l) 0 l.length),ps 7 (nv l.length),ps 8 (iv 0)]<|zI<|vW (α:={x:Nat // x≤l.length}) (fun x=>[ps 0 (.opt 0 0),ps 6 (.ssl (zT l) 0 l.length),ps 7 (nv l.length),ps 8 (nv x.1),pb 0 77 [(.opn 0 0),(.osl 2 0 ((t++qz (l.take x.1):qJ).length))],pb 2 5 (qR (t++qz (l.take x.1)))]) (fun x=>l.length-x.1) 3 ⟨0,Nat.zero_le _⟩ (Wk.ren3D _ 2 hc0 [0,1,1] [(kb 2,(qR (t++qz (l.take 0))))] (oc (qM _) (oz)) (by kernel_rfl) rfl (by kernel_rfl) (by kernel_rfl) (by kernel_rfl)) ?_
 rintro ⟨i,hi⟩
 refine qA<|zU qD [] [ps 0 (.opt 0 0),ps 6 (.ssl (zT l) 0 l.length),ps 7 (nv l.length),ps 8 (nv i),ps 9 (bv (decide (((i:Nat):Int)<(l.length:Int)))),pb 0 77 [(.opn 0 0),(.osl 2 0 ((t++qz (l.take i):qJ).length))],pb 2 5 (qR (t++qz (l.take i)))] (oz)<|qA ?_
 by_cases h1:(i:Int)<(l.length:Int)
 ·refine qX (zR h1)<|qF<|qA<|zI<|qA ?_
  have hrm:=its_room (show i<l.length from by omega)
  have hple:=its_le l i
  refine zE qD [(1,.nat (i*7)),(2,.cells [(iv (iK (l.getD i qV))),(iv (iS (l.getD i qV))),(.ssl (yI (iP (l.getD i qV))) 0 ((iP (l.getD i qV)).length)),(iv ((iB (l.getD i qV)).1)),(iv ((iB (l.getD i qV)).2)),(sv (st (iL (l.getD i qV)))),(.ssl (zT (iC (l.getD i qV))) 0 ((iC (l.getD i qV)).length))])] [.k1,.n,.n,.k3,.d,.k2,.n] [ps 4 (nv i),ps 5 (.opt 35 0),pb 35 50 [(iv (iK (l.getD i qV))),(iv (iS (l.getD i qV))),(.ssl (yI (iP (l.getD i qV))) 0 ((iP (l.getD i qV)).length)),(iv ((iB (l.getD i qV)).1)),(iv ((iB (l.getD i qV)).2)),(sv (st (iL (l.getD i qV)))),(.ssl (zT (iC (l.getD i qV))) 0 ((iC (l.getD i qV)).length))]] (oc (by omega:(0:Int)≤(i:Int)∧(i:Int)<(l.length:Int)) (oc (by omega:0+(((i:Nat):Int):Int).toNat*7=(i*7)) (oc (qhn l i 0 7 (by omega) (by decide):(i*7)+7≤((zT l)).length∧(((zT l)).drop (i*7)).take 7=[(iv (iK (l.getD i qV))),(iv (iS (l.getD i qV))),(.ssl (yI (iP (l.getD i qV))) 0 ((iP (l.getD i qV)).length)),(iv ((iB (l.getD i qV)).1)),(iv ((iB (l.getD i qV)).2)),(sv (st (iL (l.getD i qV)))),(.ssl (zT (iC (l.getD i qV))) 0 ((iC (l.getD i qV)).length))]) oz)))<|qA<|qA<|qL qD [.k1,.d,.k4,.n,.r] [ps 14 (bv (decide (0<(i:Int))))] ?_
  by_cases h2:0<(i:Int)
  ·refine qX (zR h2) ?_
   have hrm2:=hrm.1
   rw [if_neg (show ¬ i=0 from by omega)] at hrm2
   refine zE qD [(3,.call [0,2] [(.opt 0 0),(.av (.int .u8 32))] [some (77,[(.opn 0 0),(.osl 1 0 ((t++qz (l.take i):qJ).length))]),some (5,(qR (t++qz (l.take i))))] (.av .nilIface) [some (77,[(.opn 0 0),(.osl 2 0 (((t++qz (l.take i))++[32]:qJ).length))]),none,some (5,(qR ((t++qz (l.take i))++[32])))])] [.k5,.d,.d,.n,.d,.k1,.n] [pb 0 77 [(.opn 0 0),(.osl 99 0 (((t++qz (l.take i))++[32]:qJ).length))],pb 99 5 (qT (yK [0,2] 99) (qR ((t++qz (l.take i))++[32])))] (oc (YR (t++qz (l.take i)) 32 (by (first|omega|(simp only [List.length_append,List.length_cons,List.length_nil];omega)))) (oc (rfl:[(.opt 0 0),(.av (.int .u8 32))]=qT (qY [0,2] 99) [(.opt 0 0),(.av (.int .u8 32))]) (oc (rfl:[(.opn 0 0),(.osl 2 0 ((t++qz (l.take i):qJ).length))]=qT (qY [0,2] 99) [(.opn 0 0),(.osl 1 0 ((t++qz (l.take i):qJ).length))]) (oc ((qQ (qM _)).symm:(qR (t++qz (l.take i)))=qT (qY [0,2] 99) (qR (t++qz (l.take i)))) oz))))<|qx (Wk.eq (show _=[ps 0 (.opt 0 0),ps 5 (.opt 35 0),ps 6 (.ssl (zT l) 0 l.length),ps 7 (nv l.length),ps 8 (nv i),pb 0 77 [(.opn 0 0),(.osl 99 0 (((t++qz (l.take i))++[32]:qJ).length))],pb 35 50 [(iv (iK (l.getD i qV))),(iv (iS (l.getD i qV))),(.ssl (yI (iP (l.getD i qV))) 0 ((iP (l.getD i qV)).length)),(iv ((iB (l.getD i qV)).1)),(iv ((iB (l.getD i qV)).2)),(sv (st (iL (l.getD i qV)))),(.ssl (zT (iC (l.getD i qV))) 0 ((iC (l.getD i qV)).length))],pb 99 5 (qR ((t++qz (l.take i))++[32]))] from by simp only [qQ (qM _)])) ?_
   rw [if_neg (show ¬ i=0 from by omega)] at hrm
   refine zE qD [(2,.call [0,99] [(.opt 0 0),(.agg [(iv (iK (l.getD i qV))),(iv (iS (l.getD i qV))),(.ssl (yI (iP (l.getD i qV))) 0 ((iP (l.getD i qV)).length)),(iv ((iB (l.getD i qV)).1)),(iv ((iB (l.getD i qV)).2)),(sv (st (iL (l.getD i qV)))),(.ssl (zT (iC (l.getD i qV))) 0 ((iC (l.getD i qV)).length))])] [some (77,[(.opn 0 0),(.osl 1 0 (((t++qz (l.take i))++[32]:qJ).length))]),some (5,(qR ((t++qz (l.take i))++[32])))] (.tup []) [some (77,[(.opn 0 0),(.osl 2 0 ((((t++qz (l.take i))++[32])++zO (l.getD i qV):qJ).length))]),none,some (5,(qR (((t++qz (l.take i))++[32])++zO (l.getD i qV))))])] [.k1,.d,.k3,.d,.n,.d,.d,.n] [pb 0 77 [(.opn 0 0),(.osl 123 0 ((((t++qz (l.take i))++[32])++zO (l.getD i qV):qJ).length))],pb 123 5 (qT (yK [0,99] 123) (qR (((t++qz (l.take i))++[32])++zO (l.getD i qV))))] (oc (ihI (l.getD i qV) ((t++qz (l.take i))++[32]) (el_lt (by omega)) (by (first|omega|(simp only [List.length_append,List.length_cons,List.length_nil];omega))) (qhs hfl (by omega)) (hpl i (by omega)):PC Tryz.prog 62 [(.opt 0 0),(.agg [(iv (iK (l.getD i qV))),(iv (iS (l.getD i qV))),(.ssl (yI (iP (l.getD i qV))) 0 ((iP (l.getD i qV)).length)),(iv ((iB (l.getD i qV)).1)),(iv ((iB (l.getD i qV)).2)),(sv (st (iL (l.getD i qV)))),(.ssl (zT (iC (l.getD i qV))) 0 ((iC (l.getD i qV)).length))])] [some (77,[(.opn 0 0),(.osl 1 0 (((t++qz (l.take i))++[32]:qJ).length))]),some (5,(qR ((t++qz (l.take i))++[32])))] (.tup []) [some (77,[(.opn 0 0),(.osl 2 0 ((((t++qz (l.take i))++[32])++zO (l.getD i qV):qJ).length))]),none,some (5,(qR (((t++qz (l.take i))++[32])++zO (l.getD i qV))))]) (oc (rfl:[(.opt 0 0),(.agg [(iv (iK (l.getD i qV))),(iv (iS (l.getD i qV))),(.ssl (yI (iP (l.getD i qV))) 0 ((iP (l.getD i qV)).length)),(iv ((iB (l.getD i qV)).1)),(iv ((iB (l.getD i qV)).2)),(sv (st (iL (l.getD i qV)))),(.ssl (zT (iC (l.getD i qV))) 0 ((iC (l.getD i qV)).length))])]=qT (qY [0,99] 123) [(.opt 0 0),(.agg [(iv (iK (l.getD i qV))),(iv (iS (l.getD i qV))),(.ssl (yI (iP (l.getD i qV))) 0 ((iP (l.getD i qV)).length)),(iv ((iB (l.getD i qV)).1)),(iv ((iB (l.getD i qV)).2)),(sv (st (iL (l.getD i qV)))),(.ssl (zT (iC (l.getD i qV))) 0 ((iC (l.getD i qV)).length))])]) (oc (rfl:[(.opn 0 0),(.osl 99 0 (((t++qz (l.take i))++[32]:qJ).length))]=qT (qY [0,99] 123) [(.opn 0 0),(.osl 1 0 (((t++qz (l.take i))++[32]:qJ).length))]) (oc ((qQ (qM _)).symm:(qR ((t++qz (l.take i))++[32]))=qT (qY [0,99] 123) (qR ((t++qz (l.take i))++[32]))) oz))))<|zM<|qx (Wk.eq (show _=[ps 0 (.opt 0 0),ps 6 (.ssl (zT l) 0 l.length),ps 7 (nv l.length),ps 8 (nv i),pb 0 77 [(.opn 0 0),(.osl 123 0 ((((t++qz (l.take i))++[32])++zO (l.getD i qV):qJ).length))],pb 123 5 (qR (((t++qz (l.take i))++[32])++zO (l.getD i qV)))] from by simp only [qQ (qM _)])) ?_
   refine zE qD [] [.k3,.d,.n,.r] [ps 8 (iv (((i:Nat):Int)+1))] (oi (((i:Nat):Int)+1) (by omega) oz) ?_
   have hn:=qdz (show i<l.length from by omega)
   rw [if_neg (by omega)] at hn
   exact vH ⟨i+1,by show i+1≤l.length;omega⟩ (Wk.trans (Wk.eq (show _=[ps 0 (.opt 0 0),ps 6 (.ssl (zT l) 0 l.length),ps 7 (nv l.length),ps 8 (nv (i+1)),pb 0 77 [(.opn 0 0),(.osl 123 0 ((t++qz (l.take (i+1)):qJ).length))],pb 123 5 (qR (t++qz (l.take (i+1))))] from by rw [hn];simp only [List.append_assoc];rfl)) (Wk.ren3 _ 2 hc0 [0,1,123] [(kb 2,(qR (t++qz (l.take (i+1)))))] (oc (qM _) (oz)) (by kernel_rfl) rfl rfl (by kernel_rfl) (by kernel_rfl))) (show l.length-(i+1)<l.length-i from by show l.length-(i+1)<l.length-i;omega)
  refine qW (zP h2)<|qF ?_
  rw [if_pos (show i=0 from by omega)] at hrm
  refine zE qD [(2,.call [0,2] [(.opt 0 0),(.agg [(iv (iK (l.getD i qV))),(iv (iS (l.getD i qV))),(.ssl (yI (iP (l.getD i qV))) 0 ((iP (l.getD i qV)).length)),(iv ((iB (l.getD i qV)).1)),(iv ((iB (l.getD i qV)).2)),(sv (st (iL (l.getD i qV)))),(.ssl (zT (iC (l.getD i qV))) 0 ((iC (l.getD i qV)).length))])] [some (77,[(.opn 0 0),(.osl 1 0 ((t++qz (l.take i):qJ).length))]),some (5,(qR (t++qz (l.take i))))] (.tup []) [some (77,[(.opn 0 0),(.osl 2 0 (((t++qz (l.take i))++zO (l.getD i qV):qJ).length))]),none,some (5,(qR ((t++qz (l.take i))++zO (l.getD i qV))))])] [.k1,.d,.k3,.d,.d,.n,.d,.d,.n] [pb 0 77 [(.opn 0 0),(.osl 91 0 (((t++qz (l.take i))++zO (l.getD i qV):qJ).length))],pb 91 5 (qT (yK [0,2] 91) (qR ((t++qz (l.take i))++zO (l.getD i qV))))] (oc (ihI (l.getD i qV) (t++qz (l.take i)) (el_lt (by omega)) (by (first|omega|(simp only [List.length_append,List.length_cons,List.length_nil];omega))) (qhs hfl (by omega)) (hpl i (by omega)):PC Tryz.prog 62 [(.opt 0 0),(.agg [(iv (iK (l.getD i qV))),(iv (iS (l.getD i qV))),(.ssl (yI (iP (l.getD i qV))) 0 ((iP (l.getD i qV)).length)),(iv ((iB (l.getD i qV)).1)),(iv ((iB (l.getD i qV)).2)),(sv (st (iL (l.getD i qV)))),(.ssl (zT (iC (l.getD i qV))) 0 ((iC (l.getD i qV)).length))])] [some (77,[(.opn 0 0),(.osl 1 0 ((t++qz (l.take i):qJ).length))]),some (5,(qR (t++qz (l.take i))))] (.tup []) [some (77,[(.opn 0 0),(.osl 2 0 (((t++qz (l.take i))++zO (l.getD i qV):qJ).length))]),none,some (5,(qR ((t++qz (l.take i))++zO (l.getD i qV))))]) (oc (rfl:[(.opt 0 0),(.agg [(iv (iK (l.getD i qV))),(iv (iS (l.getD i qV))),(.ssl (yI (iP (l.getD i qV))) 0 ((iP (l.getD i qV)).length)),(iv ((iB (l.getD i qV)).1)),(iv ((iB (l.getD i qV)).2)),(sv (st (iL (l.getD i qV)))),(.ssl (zT (iC (l.getD i qV))) 0 ((iC (l.getD i qV)).length))])]=qT (qY [0,2] 91) [(.opt 0 0),(.agg [(iv (iK (l.getD i qV))),(iv (iS (l.getD i qV))),(.ssl (yI (iP (l.getD i qV))) 0 ((iP (l.getD i qV)).length)),(iv ((iB (l.getD i qV)).1)),(iv ((iB (l.getD i qV)).2)),(sv (st (iL (l.getD i qV)))),(.ssl (zT (iC (l.getD i qV))) 0 ((iC (l.getD i qV)).length))])]) (oc (rfl:[(.opn 0 0),(.osl 2 0 ((t++qz (l.take i):qJ).length))]=qT (qY [0,2] 91) [(.opn 0 0),(.osl 1 0 ((t++qz (l.take i):qJ).length))]) (oc ((qQ (qM _)).symm:(qR (t++qz (l.take i)))=qT (qY [0,2] 91) (qR (t++qz (l.take i)))) oz))))<|zM<|qx (Wk.eq (show _=[ps 0 (.opt 0 0),ps 6 (.ssl (zT l) 0 l.length),ps 7 (nv l.length),ps 8 (nv i),pb 0 77 [(.opn 0 0),(.osl 91 0 (((t++qz (l.take i))++zO (l.getD i qV):qJ).length))],pb 91 5 (qR ((t++qz (l.take i))++zO (l.getD i qV)))] from by simp only [qQ (qM _)])) ?_
  refine zE qD [] [.k3,.d,.n,.r] [ps 8 (iv (((i:Nat):Int)+1))] (oi (((i:Nat):Int)+1) (by omega) oz) ?_
  have hn:=qdz (show i<l.length from by omega)
  rw [if_pos (by omega)] at hn
  exact vH ⟨i+1,by show i+1≤l.length;omega⟩ (Wk.trans (Wk.eq (show _=[ps 0 (.opt 0 0),ps 6 (.ssl (zT l) 0 l.length),ps 7 (nv l.length),ps 8 (nv (i+1)),pb 0 77 [(.opn 0 0),(.osl 91 0 ((t++qz (l.take (i+1)):qJ).length))],pb 91 5 (qR (t++qz (l.take (i+1))))] from by rw [hn,show i=0 from by omega,List.take_zero,Zq,List.append_nil];rfl)) (Wk.ren3 _ 2 hc0 [0,1,91] [(kb 2,(qR (t++qz (l.take (i+1)))))] (oc (qM _) (oz)) (by kernel_rfl) rfl rfl (by kernel_rfl) (by kernel_rfl))) (show l.length-(i+1)<l.length-i from by show l.length-(i+1)<l.length-i;omega)
 refine qW (zP h1)<|vL rfl rfl ?_
 exact fun cx_ a_ hI_=>yw (H':=[some (77,[(.opn 0 0),(.osl 2 0 ((t++qz l:qJ).length))]),none,some (5,(qR (t++qz l)))]) (.inl rfl) (Wk.trans (Wk.eq (show _=[ps 0 (.opt 0 0),ps 6 (.ssl (zT l) 0 l.length),ps 7 (nv l.length),ps 8 (nv i),ps 9 (bv (decide (((i:Nat):Int)<(l.length:Int)))),pb 0 77 [(.opn 0 0),(.osl 2 0 ((t++qz l:qJ).length))],pb 2 5 (qR (t++qz l))] from by rw [List.take_of_length_le (show l.length≤i from by omega)])) (Wk.ren3 [pb 0 77 [(.opn 0 0),(.osl 2 0 ((t++qz l:qJ).length))],pb 2 5 (qR (t++qz l))] 2 hc0 [0,1,2] [(kb 2,(qR (t++qz l)))] (oc (qM _) (oz)) (by kernel_rfl) rfl rfl (by kernel_rfl) (by kernel_rfl))) rfl (oc rfl (oc rfl (oz))) (fun cx_ a_ hI_=>yC (l':=[pb 0 77 [(.opn 0 0),(.osl 2 0 ((t++qz l:qJ).length))],pb 2 5 (qR (t++qz l))]) (by kernel_rfl) cx_ a_ hI_) hI_
theorem qbl:∀ m:Nat,(∀ (x:It) (t:qJ),SizeOf.sizeOf x<m→t.length+(zO x).length≤140737488355328→YZ x→prI x→PC Tryz.prog 62 [.opt 0 0,.agg (gI x)] [some (77,[(.opn 0 0),(.osl 1 0 t.length)]),some (5,(qR t))] (.tup []) [some (77,[(.opn 0 0),(.osl 2 0 ((t++zO x:qJ).length))]),none,some (5,(qR (t++zO x)))])∧(∀ (l:List It) (t:qJ),SizeOf.sizeOf l<m→t.length+(qz l).length≤140737488355328→jH l→l.length≤1466015503658→prL l→PC Tryz.prog 29 [.opt 0 0,.ssl (zT l) 0 l.length] [some (77,[(.opn 0 0),(.osl 1 0 t.length)]),some (5,(qR t))] (.tup []) [some (77,[(.opn 0 0),(.osl 2 0 ((t++qz l:qJ).length))]),none,some (5,(qR (t++qz l)))])
 | 0=>⟨fun _ _ h=>absurd h (Nat.not_lt_zero _),fun _ _ h=>absurd h (Nat.not_lt_zero _)⟩
 | m+1=>⟨fun x t h h1 h2 h3=>pitem_step x t (fun l t hl=>(qbl m).2 l t (by omega)) h1 h2 h3,fun l t h h1 h2 h3 h4=>qix l t (fun x t hx=>(qbl m).1 x t (by omega)) h1 h2 h3 h4⟩
theorem pitems_pc (l:List It) (t:qJ) (h1:t.length+(qz l).length≤140737488355328) (h2:jH l) (h3:l.length≤1466015503658) (h4:prL l):PC Tryz.prog 29 [.opt 0 0,.ssl (zT l) 0 l.length] [some (77,[(.opn 0 0),(.osl 1 0 t.length)]),some (5,(qR t))] (.tup []) [some (77,[(.opn 0 0),(.osl 2 0 ((t++qz l:qJ).length))]),none,some (5,(qR (t++qz l)))]:=(qbl _).2 l t (Nat.lt_succ_self _) h1 h2 h3 h4
theorem dec2_4 (l:qJ):zB l≤4:=by
 by_cases h:l=[]
 ·subst h;decide
 ·have e:zB l=_:=congrArg Prod.snd (dcd_N h)
  rw [e]
  rcases qel l.length (l.getD 0 0).toNat (l.getD 1 0).toNat (l.getD 2 0).toNat (l.getD 3 0).toNat with q|⟨_,q⟩|⟨q,_⟩|⟨q,_⟩|⟨q,_⟩ <;> rw [q]
  ·decide
  ·show 1≤4;decide
  ·decide
  ·decide
  ·decide
theorem cnt_len:∀ (m:Nat) (l:qJ),l.length≤m→l.length≤4*cntR l
 | 0,l,h=>by omega
 | m+1,l,h=>by
  by_cases h0:l=[]
  ·subst h0;exact Nat.zero_le _
  ·have h1:=dec2_4 l
   have h2:=jC h0
   have:=cnt_len m (l.drop (zB l)) (by rw [List.length_drop];omega)
   rw [Zy h0]
   rw [List.length_drop] at this
   omega
theorem ly_len {t:qJ} (h:t=[]∨wA t=true):(wy t).length≤403:=by
 unfold wy
 split
 ·exact Nat.zero_le _
 ·rename_i c
  have h1:=h.resolve_left c
  unfold wA at h1
  rw [Bool.and_eq_true,decide_eq_true_eq,qbi] at h1
  have:=cnt_len _ t (Nat.le_refl _)
  simp only [List.length_cons,List.length_append,List.length_nil]
  omega
theorem star_len {n:Int} (h1:1≤n) (h2:n≤65536):(qK n).length≤22:=by
 unfold qK
 split
 ·exact Nat.zero_le _
 ·have:=Lib.itoa_length_le n (by omega) (by omega)
  simp only [List.length_cons]
  omega
theorem pt_len {p:Pt} (h:rb p=true):(wB p).length≤40:=by
 have h':rightB p.1 p.2.1 p.2.2=true:=h
 obtain ⟨r1,r2,r3,r4,r5,r6⟩:=rightB_iff.1 h'
 have e:wB p=(letB.drop p.1.toNat).take 1++vJ p.2.1++Lib.itoa p.2.2:=by unfold wB wJ;rw [if_pos h']
 have hs:∀ k:Fin 7,(vJ ((k.1:Int)-3)).length≤16:=by decide
 have hs':=hs ⟨(p.2.1+3).toNat,by omega⟩
 rw [show (((p.2.1+3).toNat:Nat):Int)-3=p.2.1 by omega] at hs'
 have hl:=qdw p.1
 have hi:=Qx (o:=p.2.2) (by omega) (by omega)
 rw [e]
 simp only [List.length_append]
 omega
theorem ptt_len:∀ {l:List Pt},l.all rb=true→(zA l).length≤41*l.length
 | [],_=>Nat.zero_le _
 | p :: l,h=>by
  have hR:∀ {l:List Pt},l.all rb=true→(ptsR l).length≤41*l.length:=by
   intro l
   induction l with
   | nil=>intro _;exact Nat.zero_le _
   | cons q l ih =>
    intro h
    rw [List.all_cons,Bool.and_eq_true] at h
    have:=ih h.2
    have:=pt_len h.1
    show (32 :: (wB q++ptsR l)).length≤_
    simp only [List.length_cons,List.length_append]
    omega
  rw [List.all_cons,Bool.and_eq_true] at h
  have:=hR h.2
  have:=pt_len h.1
  rw [jT]
  simp only [List.length_cons,List.length_append]
  omega
theorem up_len (k:Int) (b:Int × Int):(upT k b).length≤104:=by
 unfold upT
 split
 ·have:=name_short b.1 b.2
  simp only [List.length_cons,List.length_append,List.length_nil]
  omega
 ·exact Nat.zero_le _
mutual
theorem qjp:∀ (x:It) (lv n:Int),(vV x lv n).1=true→(((zO x).length:Nat):Int)+1≤1300*(n-(vV x lv n).2)
 | .mk kd sh ps b ly ks,lv,n,h=>by
  have g:=Vq h
  obtain ⟨k1,hlv,s1,s2,hk⟩:=g
  have h1:=it_len (.mk kd sh ps b ly ks)
  have h2:=star_len s1 s2
  rcases hk with ⟨c,q,e⟩|⟨c,q,e⟩|⟨c,q,e⟩
  ·obtain ⟨p1,p2,p3,p4,p5,p6⟩:=qcn q
   have h3:=ly_len p6
   have h4:=ptt_len p5
   have h5:=ch_len (iP (.mk kd sh ps b ly ks))
   have hM:qH (.mk kd sh ps b ly ks)=ZW (iP (.mk kd sh ps b ly ks)):=by unfold qH;rw [if_neg (by omega),if_neg (by omega),if_pos c]
   rw [hM] at h1
   rw [e]
   split at h5 <;> omega
  ·obtain ⟨p1,p2,p3,p4⟩:=qgt q
   have h3:=ly_len (.inl p3)
   have hM:(qH (.mk kd sh ps b ly ks)).length=1:=by
    unfold qH
    rcases c with c|c
    ·rw [if_pos c];rfl
    ·rw [if_neg (by omega),if_pos c];rfl
   rw [e]
   omega
  ·obtain ⟨p1,p2,p3,p4,p5⟩:=qec q
   have h3:=ly_len (.inl p3)
   have hM:qH (.mk kd sh ps b ly ks)=upT kd b++(91 :: (qz ks++[93])):=by
    have c':kd=4∨kd=5:=c
    unfold qH
    rw [if_neg (by show ¬ kd=2;omega),if_neg (by show ¬ kd=3;omega),if_neg (by show ¬ kd=1;omega)]
    rfl
   have h4:=up_len kd b
   rw [e] at h ⊢
   have h5:=qft ks (lv+1) (n-1) h
   rw [hM] at h1
   simp only [List.length_cons,List.length_append,List.length_nil] at h1
   show _≤1300*(n-(wL ks (lv+1) (n-1)).2)
   omega
theorem qft:∀ (l:List It) (lv n:Int),(wL l lv n).1=true→(((qz l).length:Nat):Int)≤1300*(n-(wL l lv n).2)
 | [],lv,n,_=>by
  rw [Zq,wL]
  show (0:Int)≤1300*(n-n)
  omega
 | x :: l,lv,n,h=>by
  obtain ⟨h1,h2,h3⟩:=wR h
  have i1:=qjp x lv n h1
  have i2:=qfv l lv (vV x lv n).2 h2
  rw [VZ,h3]
  simp only [List.length_append]
  omega
theorem qfv:∀ (l:List It) (lv n:Int),(wL l lv n).1=true→(((Zz l).length:Nat):Int)≤1300*(n-(wL l lv n).2)
 | [],lv,n,_=>by
  rw [Zz,wL]
  show (0:Int)≤1300*(n-n)
  omega
 | x :: l,lv,n,h=>by
  obtain ⟨h1,h2,h3⟩:=wR h
  have i1:=qjp x lv n h1
  have i2:=qfv l lv (vV x lv n).2 h2
  rw [Zz,h3]
  simp only [List.length_cons,List.length_append]
  omega
end
theorem brT_eq (b:Br):brT b=[124,32]++Lib.itoa b.1++[47]++Lib.itoa b.2.1++[32]++qz b.2.2++[10]:=by unfold brT;simp
theorem qkt (v:Vo):voT v=[118,111,105,99,101,32]++v.1++[10]++yD v.2:=by unfold voT vow;simp
theorem br_len {b:Br} (h:jj b=0):(brT b).length≤5400000:=by
 obtain ⟨⟨b1,b2⟩,⟨b3,b4⟩,b5,b6⟩:=qhy h
 have h1:=Lib.itoa_length_le b.1 (by omega) (by omega)
 have h2:=Lib.itoa_length_le b.2.1 (by omega) (by omega)
 have h3:=qft b.2.2 1 4095 b5
 have h4:=qhm b.2.2 1 4095 (by omega)
 rw [brT_eq]
 simp only [List.length_append,List.length_cons,List.length_nil]
 omega
theorem qgh:∀ {l:List Br},(∀ b∈l,jj b=0)→(yD l).length≤5400000*l.length
 | [],_=>Nat.zero_le _
 | b :: l,h=>by
  have h1:=br_len (h b (by simp))
  have h2:=qgh (l:=l) fun c hc=>h c (by simp [hc])
  have e:yD (b :: l)=brT b++yD l:=by unfold yD;rw [List.flatMap_cons]
  rw [e,List.length_append,List.length_cons]
  omega
theorem vo_len {v:Vo} (h:vA v=0):(voT v).length≤5600000000:=by
 obtain ⟨v1,v2,v3⟩:=qcw h
 have h1:=qgh v3
 have h2:=(of_decide_eq_true v1).2.1
 rw [qkt]
 simp only [List.length_append,List.length_cons,List.length_nil]
 omega
theorem qiz:∀ {l:List Vo},(∀ v∈l,vA v=0)→(yU l).length≤5600000000*l.length
 | [],_=>Nat.zero_le _
 | v :: l,h=>by
  have h1:=vo_len (h v (by simp))
  have h2:=qiz (l:=l) fun c hc=>h c (by simp [hc])
  have e:yU (v :: l)=voT v++yU l:=by unfold yU;rw [List.flatMap_cons]
  rw [e,List.length_append,List.length_cons]
  omega
theorem pc_bound {l:List Vo} (h:yF l=0):(yU l).length≤140737488355328:=by
 obtain ⟨h1,h2⟩:=qdp h
 have:=qiz h2
 omega
theorem vo_next {l:List Vo} {i:Nat} (h:i<l.length):yU (l.take (i+1))=yU (l.take i)++voT (l.getD i qO):=by
 rw [VQ (d:=qO) h]
 unfold yU
 rw [List.flatMap_append,List.flatMap_cons,List.flatMap_nil,List.append_nil]
theorem br_next {l:List Br} {i:Nat} (h:i<l.length):yD (l.take (i+1))=yD (l.take i)++brT (l.getD i zQ):=by
 rw [VQ (d:=zQ) h]
 unfold yD
 rw [List.flatMap_append,List.flatMap_cons,List.flatMap_nil,List.append_nil]
theorem pc_le (l:List Vo) (i:Nat):(yU (l.take i)).length≤(yU l).length:=qcs (F:=yU) (fun l x=>by unfold yU;rw [List.flatMap_append,List.length_append];omega) l i
theorem brs_le (l:List Br) (i:Nat):(yD (l.take i)).length≤(yD l).length:=qcs (F:=yD) (fun l x=>by unfold yD;rw [List.flatMap_append,List.length_append];omega) l i
theorem vo_room {l:List Vo} {i:Nat} (h:i<l.length):(yU (l.take i)).length+(voT (l.getD i qO)).length≤(yU l).length:=by
 have:=pc_le l (i+1)
 rwa [vo_next h,List.length_append] at this
theorem br_room {l:List Br} {i:Nat} (h:i<l.length):(yD (l.take i)).length+(brT (l.getD i zQ)).length≤(yD l).length:=by
 have:=brs_le l (i+1)
 rwa [br_next h,List.length_append] at this
theorem pc_full {l:List Vo} (h:l≠[]):yU l≠[]:=by
 cases l with
 | nil=>exact absurd rfl h
 | cons v l=>unfold yU;rw [List.flatMap_cons];unfold voT;exact fun e=>by cases e
end Go.Proofs.YtmlnilkbolcknaaGreatDoor.Pm
