/-
  SCORE: the document's reader: signs and words: walks. (Printed by wip/pm.) | SCORE: the document tells equal voices from others: walk. (Printed by wip/pm.) | SCORE: plain: what the reader yields is no longer than a row can be (no program in sight). | REGIONS THAT DRAW THEIR ORDER: a class C of worlds (Derived/Deep/Quiet.lean's own notion: an operation is quiet in C),vL which a tail stands that the order forces (Derived/StillTail.lean's notion of a tail). No program in sight. | THE WALKS of pitches: of the package. | THE WALKS of pitches,on: Between,Key,within,Sum,floor,Move,Mirror of the package. | MOVES: plain. | THE WALKS of pitches: of the reference: Abs,Right,Up,White,Steps,Halves,At,Within,Key. | THE WALKS of pitches: of the reference: At,Between,Sum,Move,Mirror. | TEXTS: small functions of pitches: the kit's kind of contracts,as contracts by values. | PITCHES AS TEXTS: signs,numbers: walks. (Printed by wip/pm.) | THE DOCUMENT's TEXTS: digits,pitches printed: walks. (Printed by wip/pm.) | THE DOCUMENT's TEXTS: numbers,intervals written: walks. (Printed by wip/pm.) | THE DOCUMENT's TEXTS: pitches read: walk. (Printed by wip/pm.) | PITCHES AS TEXTS: printed,read: walks. (Printed by wip/pm.)
-/
import Derived.Test.YtmlnilkbolcknaaGreatDoorJLawSReads2
import Derived.StillTail
import Derived.Deep.Quiet
import Derived.Below
import Derived.Deep.RegionHeld3
import Derived.Deep.RegionWith
set_option linter.unusedVariables false
set_option linter.unusedSimpArgs false
set_option linter.deprecated false
set_option maxRecDepth 100000
set_option maxHeartbeats 4000000
namespace Go.Proofs.YtmlnilkbolcknaaGreatDoor.Pm
open Go Go.Proofs.YtmlnilkbolcknaaGreatDoor.Pi
theorem yy (s:zX) (a:Nat) (k e:Int):PC Tryz.prog 43 [(.opt 0 0),(iv e)] [some (103,(r5 s a 0 0 k))] (.tup []) [some (103,(yz s a e a k))]:=by
 refine zG Tryz.func43 rfl (by kernel_rfl) (Nat.le_of_ble_eq_true rfl) (by kernel_rfl) (l0:=[ps 0 (.opt 0 0),ps 1 (iv e),pb 0 103 (r5 s a 0 0 k)]) rfl (fun c0 Bor hc0=>?_)
 refine qB<|qH qD [.k2,.n,.r] [ps 9 (bv true)]<|qL (b:=true) rfl rfl<|zD qD [] [pb 0 103 (yz s a e a k)] (oz) ?_
 exact fun cx_ a_ hI_=>jz (H':=[some (103,(yz s a e a k))]) (.inl rfl) (Wk.ren2 [pb 0 103 (yz s a e a k)] 1 hc0 [0] rfl rfl (by kernel_rfl) (by kernel_rfl)) rfl (oc rfl (oz)) (fun cx_ a_ hI_=>wN (l':=[pb 0 103 (yz s a e a k)]) (by kernel_rfl) cx_ a_ hI_) hI_
theorem jO (s:zX) (a:Nat) (k d e:Int) (he:¬ e=0):PC Tryz.prog 43 [(.opt 0 0),(iv d)] [some (103,(yz s a e a k))] (.tup []) [some (103,(yz s a e a k))]:=by
 refine zG Tryz.func43 rfl (by kernel_rfl) (Nat.le_of_ble_eq_true rfl) (by kernel_rfl) (l0:=[ps 0 (.opt 0 0),ps 1 (iv d),pb 0 103 (yz s a e a k)]) rfl (fun c0 Bor hc0=>?_)
 refine qB<|qH qD [.k2,.n,.r] [ps 9 (bv (decide (e=0)))]<|qR (qV he)<|qF ?_
 exact fun cx_ a_ hI_=>jz (H':=[some (103,(yz s a e a k))]) (.inl rfl) (Wk.ren2 [pb 0 103 (yz s a e a k)] 1 hc0 [0] rfl rfl (by kernel_rfl) (by kernel_rfl)) rfl (oc rfl (oz)) (fun cx_ a_ hI_=>wN (l':=[pb 0 103 (yz s a e a k)]) (by kernel_rfl) cx_ a_ hI_) hI_
theorem jS (s:zX) (a:Nat) (k:Int):PC Tryz.prog 41 [(.opt 0 0)] [some (103,(r5 s a 0 0 k))] (bv true) [some (103,(r5 s a 0 0 k))]:=by
 refine zG Tryz.func41 rfl (by kernel_rfl) (Nat.le_of_ble_eq_true rfl) (by kernel_rfl) (l0:=[ps 0 (.opt 0 0),pb 0 103 (r5 s a 0 0 k)]) rfl (fun c0 Bor hc0=>?_)
 refine qB<|qH qD [.r] []<|qB<|qH qD [.d,.n,.r] [ps 2 (bv true)] ?_
 exact qk hc0 [2] [0] (hbk:=by exact oc rfl (oz))
theorem wG (s:zX) (a:Nat) (k:Int) (e:Int) (he:¬ e=0):PC Tryz.prog 41 [(.opt 0 0)] [some (103,(yz s a e a k))] (bv false) [some (103,(yz s a e a k))]:=by
 refine zG Tryz.func41 rfl (by kernel_rfl) (Nat.le_of_ble_eq_true rfl) (by kernel_rfl) (l0:=[ps 0 (.opt 0 0),pb 0 103 (yz s a e a k)]) rfl (fun c0 Bor hc0=>?_)
 refine qB<|qH qD [.r] []<|qB<|qH qD [.d,.n,.r] [ps 2 (bv (decide (e=0)))] ?_
 rw [show bv false=bv (decide (e=0)) from by rw [qV he]]
 exact qk hc0 [2] [0] (hbk:=by exact oc rfl (oz))
theorem qhn (s:zX) (a:Nat) (k:Int) (hs:s.length≤65536) (ha:a≤s.length):PC Tryz.prog 76 [(.opt 0 0)] [some (103,(r5 s a 0 0 k))] (.tup []) [some (103,(r5 s (qA s a) 0 0 k))]:=by
 refine zG Tryz.func76 rfl (by kernel_rfl) (Nat.le_of_ble_eq_true rfl) (by kernel_rfl) (l0:=[ps 0 (.opt 0 0),pb 0 103 (r5 s a 0 0 k)]) rfl (fun c0 Bor hc0=>?_)
 refine qX<|zy (α:={x:Nat // x≤s.length∧qA s x=qA s a}) (fun x=>[ps 0 (.opt 0 0),pb 0 103 (r5 s x.1 0 0 k)]) (fun x=>s.length-x.1) 1 ⟨a,⟨ha,rfl⟩⟩ (Wk.ren2 _ 1 hc0 [0] rfl rfl (by kernel_rfl) (by kernel_rfl)) ?_
 rintro ⟨b,⟨hb,hg⟩⟩
 refine qB<|qB ?_
 by_cases h1:(b:Int)<(s.length:Int)
 ·by_cases h2:(((s.getD b 0).toNat:Nat):Int)=32
  ·refine VA qD ([(1,.call [0] [(.opt 0 0)] [some (103,(r5 s b 0 0 k))] (bv true) [some (103,(r5 s b 0 0 k))])]++gy 3 10++gy 15 21++[(36,.gd true (.yes true)),(37,.yes true)]) (bfm [[],[(0,1)],[(0,2)],[(0,3)],[(0,4)],[(0,5)],[(0,6)],[(0,3)],[(0,3),(7,1)],[(0,3),(7,2)],[(0,3),(7,3)],[(0,3),(7,4)],[(0,12)],[(0,13)],[(0,14)],[(0,15)],[(0,16)],[(0,17)],[(0,18)],[(0,15)],[(0,15),(19,1)],[(0,15),(19,2)],[(0,15),(19,3)],[(0,23)],[(0,24)],[(0,25)],[(0,26)],[(0,27)],[(0,28)],[(0,29)],[(0,26)],[(0,26),(30,1)],[(0,26),(30,2)],[(0,26),(30,3)],[(0,34)],[(0,35)],[(0,36)],[(0,37)]]) [([4],[0]),([6,1],[1,4]),([8],[6]),([10],[0,8]),([12],[8,10]),([14],[8,12]),([16],[1,8,14]),([18],[0,8]),([20],[8,18]),([22],[8,20]),([24],[1,8,22]),([26],[8,24]),([28],[8,16,26]),([30],[8,28]),([32],[30]),([34],[0,32]),([36],[32,34]),([38],[32,36]),([40],[1,32,38]),([42],[0,32]),([44],[32,42]),([46],[32,44]),([48],[1,32,46]),([50],[32,40,48]),([52],[32,50]),([54],[32,52]),([56],[54]),([58],[54]),([60],[54]),([62],[54]),([64],[54]),([66],[54]),([68],[54]),([70],[54]),([72],[54]),([74],[54]),([76],[32,54,74]),([78],[32,76])] [ps 0 (.opt 0 0),ps 39 (bv true),pb 0 103 (r5 s b 0 0 k)] (zY [0] 9 (jS s b k) (on 10 tt (on 9 (qT h1) (oc (by first|omega|(simp <;> omega):(0:Int)≤(b:Int)∧(b:Int)<(s.length:Int)) (on 2 (qT h1) (on 10 (qT h2) (oc (qT h1) (oc (qT h2) (oc (qT h1) oz)))))))))<|qL (b:=true) rfl rfl<|qF<|qX<|zD qD [] [ps 0 (.opt 0 0),pb 0 103 [(sv (st s)),(iv (((b:Nat):Int)+1)),(iv 0),(iv 0),(iv k)]] (oi (((b:Nat):Int)+1) (by omega) oz)<|qZ ?_
   have hy:qA s b=qA s (b+1):=qdn (by omega) (by omega)
   exact qq ⟨b+1,⟨by show b+1≤s.length;omega,by rw [← hy];exact hg⟩⟩ (Wk.trans (Wk.eq (show _=[ps 0 (.opt 0 0),pb 0 103 (r5 s (b+1) 0 0 k)] from by rfl)) (Wk.ren2 _ 1 hc0 [0] rfl rfl (by kernel_rfl) (by kernel_rfl))) (show s.length-(b+1)<s.length-b from by show s.length-(b+1)<s.length-b;omega)
  refine VA qD ([(1,.call [0] [(.opt 0 0)] [some (103,(r5 s b 0 0 k))] (bv true) [some (103,(r5 s b 0 0 k))])]++gy 3 10++gy 15 11++gn 26 10++[(36,.gd true (.yes false)),(37,.yes true)]) (bfm [[],[(0,1)],[(0,2)],[(0,3)],[(0,4)],[(0,5)],[(0,6)],[(0,3)],[(0,3),(7,1)],[(0,3),(7,2)],[(0,3),(7,3)],[(0,3),(7,4)],[(0,12)],[(0,13)],[(0,14)],[(0,15)],[(0,16)],[(0,17)],[(0,18)],[(0,15)],[(0,15),(19,1)],[(0,15),(19,2)],[(0,15),(19,3)],[(0,23)],[(0,24)],[(0,25)],[(0,26)],[(0,27)],[(0,28)],[(0,29)],[(0,26)],[(0,26),(30,1)],[(0,26),(30,2)],[(0,26),(30,3)],[(0,34)],[(0,35)],[(0,36)],[(0,37)]]) [([4],[0]),([6,1],[1,4]),([8],[6]),([10],[0,8]),([12],[8,10]),([14],[8,12]),([16],[1,8,14]),([18],[0,8]),([20],[8,18]),([22],[8,20]),([24],[1,8,22]),([26],[8,24]),([28],[8,16,26]),([30],[8,28]),([32],[30]),([34],[0,32]),([36],[32,34]),([38],[32,36]),([40],[1,32,38]),([42],[0,32]),([44],[32,42]),([46],[32,44]),([48],[1,32,46]),([50],[32,40,48]),([52],[32,50]),([54],[32,52]),([56],[0,54]),([58],[54,56]),([60],[54,58]),([62],[1,54,60]),([64],[0,54]),([66],[54,64]),([68],[54,66]),([70],[1,54,68]),([72],[54,62,70]),([74],[54,72]),([76],[32,54,74]),([78],[32,76])] [ps 0 (.opt 0 0),ps 39 (bv (decide ((((s.getD b 0).toNat:Nat):Int)=10))),pb 0 103 (r5 s b 0 0 k)] (zY [0] 9 (jS s b k) (on 10 tt (on 9 (qT h1) (oc (by first|omega|(simp <;> omega):(0:Int)≤(b:Int)∧(b:Int)<(s.length:Int)) (on 2 (qT h1) (on 9 (qV h2) (oc (by first|omega|(simp <;> omega):(0:Int)≤(b:Int)∧(b:Int)<(s.length:Int)) (oc (qV h2) (oc (qT h1) (oc (qV h2) (oc (qT h1) oz))))))))))) ?_
  by_cases h3:(((s.getD b 0).toNat:Nat):Int)=10
  ·refine qS (qT h3)<|qF<|qX<|zD qD [] [ps 0 (.opt 0 0),pb 0 103 [(sv (st s)),(iv (((b:Nat):Int)+1)),(iv 0),(iv 0),(iv k)]] (oi (((b:Nat):Int)+1) (by omega) oz)<|qZ ?_
   have hy:qA s b=qA s (b+1):=qdn (by omega) (by omega)
   exact qq ⟨b+1,⟨by show b+1≤s.length;omega,by rw [← hy];exact hg⟩⟩ (Wk.trans (Wk.eq (show _=[ps 0 (.opt 0 0),pb 0 103 (r5 s (b+1) 0 0 k)] from by rfl)) (Wk.ren2 _ 1 hc0 [0] rfl rfl (by kernel_rfl) (by kernel_rfl))) (show s.length-(b+1)<s.length-b from by show s.length-(b+1)<s.length-b;omega)
  refine qR (qV h3)<|zI rfl rfl ?_
  have he:qA s a=b:=by rw [← hg];exact gap_no (by omega)
  rw [he]
  exact fun cx_ a_ hI_=>jz (H':=[some (103,(r5 s b 0 0 k))]) (.inl rfl) (Wk.ren2 [pb 0 103 (r5 s b 0 0 k)] 1 hc0 [0] rfl rfl (by kernel_rfl) (by kernel_rfl)) rfl (oc rfl (oz)) (fun cx_ a_ hI_=>wN (l':=[pb 0 103 (r5 s b 0 0 k)]) (by kernel_rfl) cx_ a_ hI_) hI_
 refine VA qD ([(1,.call [0] [(.opt 0 0)] [some (103,(r5 s b 0 0 k))] (bv true) [some (103,(r5 s b 0 0 k))])]++gy 3 10++gn 15 11++[(36,.gd false .no),(37,.yes false)]) (bfm [[],[(0,1)],[(0,2)],[(0,3)],[(0,4)],[(0,5)],[(0,6)],[(0,3)],[(0,3),(7,1)],[(0,3),(7,2)],[(0,3),(7,3)],[(0,3),(7,4)],[(0,12)],[(0,13)],[(0,14)],[(0,15)],[(0,16)],[(0,17)],[(0,18)],[(0,15)],[(0,15),(19,1)],[(0,15),(19,2)],[(0,15),(19,3)],[(0,23)],[(0,24)],[(0,25)],[(0,26)],[(0,27)],[(0,28)],[(0,29)],[(0,26)],[(0,26),(30,1)],[(0,26),(30,2)],[(0,26),(30,3)],[(0,34)],[(0,35)],[(0,36)],[(0,37)]]) [([4],[0]),([6,1],[1,4]),([8],[6]),([10],[0,8]),([12],[8,10]),([14],[8,12]),([16],[1,8,14]),([18],[0,8]),([20],[8,18]),([22],[8,20]),([24],[1,8,22]),([26],[8,24]),([28],[8,16,26]),([30],[8,28]),([32],[30]),([34],[32]),([36],[32]),([38],[32]),([40],[32]),([42],[32]),([44],[32]),([46],[32]),([48],[32]),([50],[32]),([52],[32]),([54],[32]),([56],[54]),([58],[54]),([60],[54]),([62],[54]),([64],[54]),([66],[54]),([68],[54]),([70],[54]),([72],[54]),([74],[54]),([76],[32]),([78],[32,76])] [ps 0 (.opt 0 0),ps 39 (bv false),pb 0 103 (r5 s b 0 0 k)] (zY [0] 9 (jS s b k) (on 10 tt (on 13 (qV h1) oz)))<|qO (b:=false) rfl rfl<|zI rfl rfl ?_
 have he:qA s a=b:=by rw [← hg];exact gap_end (by omega)
 rw [he]
 exact fun cx_ a_ hI_=>jz (H':=[some (103,(r5 s b 0 0 k))]) (.inl rfl) (Wk.ren2 [pb 0 103 (r5 s b 0 0 k)] 1 hc0 [0] rfl rfl (by kernel_rfl) (by kernel_rfl)) rfl (oc rfl (oz)) (fun cx_ a_ hI_=>wN (l':=[pb 0 103 (r5 s b 0 0 k)]) (by kernel_rfl) cx_ a_ hI_) hI_
theorem qji (s:zX) (a:Nat) (k:Int) (e:Int) (he:¬ e=0):PC Tryz.prog 76 [(.opt 0 0)] [some (103,(yz s a e a k))] (.tup []) [some (103,(yz s a e a k))]:=by
 refine zG Tryz.func76 rfl (by kernel_rfl) (Nat.le_of_ble_eq_true rfl) (by kernel_rfl) (l0:=[ps 0 (.opt 0 0),pb 0 103 (yz s a e a k)]) rfl (fun c0 Bor hc0=>?_)
 refine qX<|zy (α:={x:Nat // True}) (fun x=>[ps 0 (.opt 0 0),pb 0 103 (yz s a e a k)]) (fun x=>0) 1 ⟨0,trivial⟩ (Wk.ren2 _ 1 hc0 [0] rfl rfl (by kernel_rfl) (by kernel_rfl)) ?_
 rintro ⟨_b,_⟩
 refine qB<|qB<|VA qD ([(1,.call [0] [(.opt 0 0)] [some (103,(yz s a e a k))] (bv false) [some (103,(yz s a e a k))])]++gn 3 10++gn 15 11++[(36,.gd false .no)]) (bfm [[],[(0,1)],[(0,2)],[(0,3)],[(0,4)],[(0,5)],[(0,6)],[(0,3)],[(0,3),(7,1)],[(0,3),(7,2)],[(0,3),(7,3)],[(0,3),(7,4)],[(0,12)],[(0,13)],[(0,14)],[(0,15)],[(0,16)],[(0,17)],[(0,18)],[(0,15)],[(0,15),(19,1)],[(0,15),(19,2)],[(0,15),(19,3)],[(0,23)],[(0,24)],[(0,25)],[(0,26)],[(0,27)],[(0,28)],[(0,29)],[(0,26)],[(0,26),(30,1)],[(0,26),(30,2)],[(0,26),(30,3)],[(0,34)],[(0,35)],[(0,36)],[(0,37)]]) [([4],[0]),([6,1],[1,4]),([8],[6]),([10],[8]),([12],[8]),([14],[8]),([16],[8]),([18],[8]),([20],[8]),([22],[8]),([24],[8]),([26],[8]),([28],[8]),([30],[8,28]),([32],[30]),([34],[32]),([36],[32]),([38],[32]),([40],[32]),([42],[32]),([44],[32]),([46],[32]),([48],[32]),([50],[32]),([52],[32]),([54],[32]),([56],[54]),([58],[54]),([60],[54]),([62],[54]),([64],[54]),([66],[54]),([68],[54]),([70],[54]),([72],[54]),([74],[54]),([76],[32]),([78],[32,76])] [ps 0 (.opt 0 0),ps 39 (bv false),pb 0 103 (yz s a e a k)] (zY [0] 9 (wG s a k e he) (on 22 ff oz))<|qO (b:=false) rfl rfl<|zI rfl rfl ?_
 exact fun cx_ a_ hI_=>jz (H':=[some (103,(yz s a e a k))]) (.inl rfl) (Wk.ren2 [pb 0 103 (yz s a e a k)] 1 hc0 [0] rfl rfl (by kernel_rfl) (by kernel_rfl)) rfl (oc rfl (oz)) (fun cx_ a_ hI_=>wN (l':=[pb 0 103 (yz s a e a k)]) (by kernel_rfl) cx_ a_ hI_) hI_
theorem vU (s:zX) (a:Nat) (k c:Int) (hs:s.length≤65536) (ha:a≤s.length):PC Tryz.prog 44 [(.opt 0 0),(.av (.int .u8 c))] [some (103,(r5 s a 0 0 k))] (bv (qP s a c)) [some (103,(r5 s (qA s a) 0 0 k))]:=by
 refine zG Tryz.func44 rfl (by kernel_rfl) (Nat.le_of_ble_eq_true rfl) (by kernel_rfl) (l0:=[ps 0 (.opt 0 0),ps 1 (.av (.int .u8 c)),pb 0 103 (r5 s a 0 0 k)]) rfl (fun c0 Bor hc0=>?_)
 refine qB<|qH qD [.r] []<|qB<|zC qD 1 [.k2,.d,.n] [pb 0 103 (r5 s (qA s a) 0 0 k)] (zY [0] 17 (qhn s a k hs (by omega)) oz)<|qB ?_
 have hg:=zR ha
 by_cases h1:(qA s a:Int)<(s.length:Int)
 ·refine wC qD ([(1,.call [0] [(.opt 0 0)] [some (103,(r5 s (qA s a) 0 0 k))] (bv true) [some (103,(r5 s (qA s a) 0 0 k))])]++gy 3 10++gy 15 11++[(26,.yes true)]) (bfm [[],[(0,1)],[(0,2)],[(0,3)],[(0,4)],[(0,5)],[(0,6)],[(0,3)],[(0,3),(7,1)],[(0,3),(7,2)],[(0,3),(7,3)],[(0,3),(7,4)],[(0,12)],[(0,13)],[(0,14)],[(0,15)],[(0,16)],[(0,17)],[(0,18)],[(0,15)],[(0,15),(19,1)],[(0,15),(19,2)],[(0,15),(19,3)],[(0,23)],[(0,15)],[(0,25)],[(0,26)],[(0,27)]]) [([14],[0]),([16,1],[1,14]),([18],[16]),([20],[0,18]),([22],[18,20]),([24],[18,22]),([26],[1,18,24]),([28],[0,18]),([30],[18,28]),([32],[18,30]),([34],[1,18,32]),([36],[18,34]),([38],[18,26,36]),([40],[18,38]),([42],[40]),([44],[0,42]),([46],[42,44]),([48],[42,46]),([50],[1,42,48]),([52],[0,42]),([54],[42,52]),([56],[42,54]),([58],[1,42,56]),([60],[42,50,58]),([62],[2,42]),([64],[42,60,62]),([66],[42,64]),([8],[66])] [.d,.d,.n,.r] [ps 4 (bv (decide ((((s.getD (qA s a) 0).toNat:Nat):Int)=c)))] (zY [0] 33 (jS s (qA s a) k) (on 10 tt (on 9 (qT h1) (oc (by first|omega|(simp <;> omega):(0:Int)≤(qA s a:Int)∧(qA s a:Int)<(s.length:Int)) (on 3 (qT h1) oz))))) ?_
  rw [show qP s a c=(decide ((((s.getD (qA s a) 0).toNat:Nat):Int)=c)) from by unfold qP;rw [Bool.eq_iff_iff];simp only [decide_eq_true_eq];constructor <;> intro hh <;> first|exact hh.2|exact ⟨by omega,hh⟩]
  exact qk hc0 [4] [0] (hbk:=by exact oc rfl (oz))
 refine wC qD ([(1,.call [0] [(.opt 0 0)] [some (103,(r5 s (qA s a) 0 0 k))] (bv true) [some (103,(r5 s (qA s a) 0 0 k))])]++gy 3 10++gn 15 11++[(26,.yes false)]) (bfm [[],[(0,1)],[(0,2)],[(0,3)],[(0,4)],[(0,5)],[(0,6)],[(0,3)],[(0,3),(7,1)],[(0,3),(7,2)],[(0,3),(7,3)],[(0,3),(7,4)],[(0,12)],[(0,13)],[(0,14)],[(0,15)],[(0,16)],[(0,17)],[(0,18)],[(0,15)],[(0,15),(19,1)],[(0,15),(19,2)],[(0,15),(19,3)],[(0,23)],[(0,15)],[(0,25)],[(0,26)],[(0,27)]]) [([14],[0]),([16,1],[1,14]),([18],[16]),([20],[0,18]),([22],[18,20]),([24],[18,22]),([26],[1,18,24]),([28],[0,18]),([30],[18,28]),([32],[18,30]),([34],[1,18,32]),([36],[18,34]),([38],[18,26,36]),([40],[18,38]),([42],[40]),([44],[42]),([46],[42]),([48],[42]),([50],[42]),([52],[42]),([54],[42]),([56],[42]),([58],[42]),([60],[42]),([62],[42]),([64],[42]),([66],[42,64]),([8],[66])] [.d,.d,.n,.r] [ps 4 (bv false)] (zY [0] 33 (jS s (qA s a) k) (on 10 tt (on 12 (qV h1) oz))) ?_
 rw [show qP s a c=false from qV fun q=>by omega]
 exact qk hc0 [4] [0] (hbk:=by exact oc rfl (oz))
theorem wF (s:zX) (a:Nat) (k c:Int) (e:Int) (he:¬ e=0):PC Tryz.prog 44 [(.opt 0 0),(.av (.int .u8 c))] [some (103,(yz s a e a k))] (bv false) [some (103,(yz s a e a k))]:=by
 refine zG Tryz.func44 rfl (by kernel_rfl) (Nat.le_of_ble_eq_true rfl) (by kernel_rfl) (l0:=[ps 0 (.opt 0 0),ps 1 (.av (.int .u8 c)),pb 0 103 (yz s a e a k)]) rfl (fun c0 Bor hc0=>?_)
 refine qB<|qH qD [.r] []<|qB<|zC qD 1 [.r] [] (zY [0] 17 (qji s a k e he) oz)<|qB<|wC qD ([(1,.call [0] [(.opt 0 0)] [some (103,(yz s a e a k))] (bv false) [some (103,(yz s a e a k))])]++gn 3 10++gn 15 11) (bfm [[],[(0,1)],[(0,2)],[(0,3)],[(0,4)],[(0,5)],[(0,6)],[(0,3)],[(0,3),(7,1)],[(0,3),(7,2)],[(0,3),(7,3)],[(0,3),(7,4)],[(0,12)],[(0,13)],[(0,14)],[(0,15)],[(0,16)],[(0,17)],[(0,18)],[(0,15)],[(0,15),(19,1)],[(0,15),(19,2)],[(0,15),(19,3)],[(0,23)],[(0,15)],[(0,25)],[(0,26)],[(0,27)]]) [([14],[0]),([16,1],[1,14]),([18],[16]),([20],[18]),([22],[18]),([24],[18]),([26],[18]),([28],[18]),([30],[18]),([32],[18]),([34],[18]),([36],[18]),([38],[18]),([40],[18,38]),([42],[40]),([44],[42]),([46],[42]),([48],[42]),([50],[42]),([52],[42]),([54],[42]),([56],[42]),([58],[42]),([60],[42]),([62],[42]),([64],[42]),([66],[42,64]),([8],[66])] [.d,.d,.n,.r] [ps 4 (bv false)] (zY [0] 33 (wG s a k e he) (on 21 ff oz)) ?_
 exact qk hc0 [4] [0] (hbk:=by exact oc rfl (oz))
theorem qcg (s:zX) (a:Nat) (k c:Int) (hs:s.length≤65536) (ha:a≤s.length):PC Tryz.prog 44 [.opt 0 0,.av (.int .u8 c)] [some (103,(r5 s (qA s a) 0 0 k))] (bv (qP s a c)) [some (103,(r5 s (qA s a) 0 0 k))]:=by
 have:=vU s (qA s a) k c hs (zR ha)
 rwa [vG,jX] at this
theorem ZL (s:zX) (a:Nat) (k c:Int) (hs:s.length≤65536) (ha:a≤s.length) (hc:qP s a c=true):PC Tryz.prog 46 [(.opt 0 0),(.av (.int .u8 c))] [some (103,(r5 s a 0 0 k))] (.tup []) [some (103,(r5 s (qA s a+1) 0 0 k))]:=by
 refine zG Tryz.func46 rfl (by kernel_rfl) (Nat.le_of_ble_eq_true rfl) (by kernel_rfl) (l0:=[ps 0 (.opt 0 0),ps 1 (.av (.int .u8 c)),pb 0 103 (r5 s a 0 0 k)]) rfl (fun c0 Bor hc0=>?_)
 refine qB<|QB qD 2 [ps 0 (.opt 0 0),ps 6 (bv (qP s a c)),pb 0 103 (r5 s (qA s a) 0 0 k)] (zY [0] 17 (vU s a k c hs (by omega)) oz)<|qL (b:=(qP s a c)) rfl hc ?_
 have hl:=zM hc
 refine zD qD [] [pb 0 103 [(sv (st s)),(iv (((qA s a:Nat):Int)+1)),(iv 0),(iv 0),(iv k)]] (oi (((qA s a:Nat):Int)+1) (by omega) oz) ?_
 exact fun cx_ a_ hI_=>jz (H':=[some (103,(r5 s (qA s a+1) 0 0 k))]) (.inl rfl) (Wk.ren2 [pb 0 103 [(sv (st s)),(iv (((qA s a:Nat):Int)+1)),(iv 0),(iv 0),(iv k)]] 1 hc0 [0] rfl rfl (by kernel_rfl) (by kernel_rfl)) rfl (oc rfl (oz)) (fun cx_ a_ hI_=>wN (l':=[pb 0 103 [(sv (st s)),(iv (((qA s a:Nat):Int)+1)),(iv 0),(iv 0),(iv k)]]) (by kernel_rfl) cx_ a_ hI_) hI_
theorem qje (s:zX) (a:Nat) (k c:Int) (hs:s.length≤65536) (ha:a≤s.length) (hc:¬ qP s a c=true):PC Tryz.prog 46 [(.opt 0 0),(.av (.int .u8 c))] [some (103,(r5 s a 0 0 k))] (.tup []) [some (103,(yz s (qA s a) 2 (qA s a) k))]:=by
 refine zG Tryz.func46 rfl (by kernel_rfl) (Nat.le_of_ble_eq_true rfl) (by kernel_rfl) (l0:=[ps 0 (.opt 0 0),ps 1 (.av (.int .u8 c)),pb 0 103 (r5 s a 0 0 k)]) rfl (fun c0 Bor hc0=>?_)
 refine qB<|QB qD 2 [ps 0 (.opt 0 0),ps 6 (bv (qP s a c)),pb 0 103 (r5 s (qA s a) 0 0 k)] (zY [0] 17 (vU s a k c hs (by omega)) oz)<|qO (b:=(qP s a c)) rfl (Bool.eq_false_iff.2 hc)<|QB qD 1 [pb 0 103 (yz s (qA s a) 2 (qA s a) k)] (zY [0] 33 (yy s (qA s a) k 2) oz) ?_
 exact fun cx_ a_ hI_=>jz (H':=[some (103,(yz s (qA s a) 2 (qA s a) k))]) (.inl rfl) (Wk.ren2 [pb 0 103 (yz s (qA s a) 2 (qA s a) k)] 1 hc0 [0] rfl rfl (by kernel_rfl) (by kernel_rfl)) rfl (oc rfl (oz)) (fun cx_ a_ hI_=>wN (l':=[pb 0 103 (yz s (qA s a) 2 (qA s a) k)]) (by kernel_rfl) cx_ a_ hI_) hI_
theorem YY (s:zX) (a:Nat) (k c:Int) (e:Int) (he:¬ e=0):PC Tryz.prog 46 [(.opt 0 0),(.av (.int .u8 c))] [some (103,(yz s a e a k))] (.tup []) [some (103,(yz s a e a k))]:=by
 refine zG Tryz.func46 rfl (by kernel_rfl) (Nat.le_of_ble_eq_true rfl) (by kernel_rfl) (l0:=[ps 0 (.opt 0 0),ps 1 (.av (.int .u8 c)),pb 0 103 (yz s a e a k)]) rfl (fun c0 Bor hc0=>?_)
 refine qB<|zC qD 2 [.k1,.d,.n,.r] [ps 6 (bv false)] (zY [0] 17 (wF s a k c e he) oz)<|qO (b:=false) rfl rfl<|zC qD 1 [.d,.d,.r] [] (zY [0] 33 (jO s a k 2 e he) oz) ?_
 exact fun cx_ a_ hI_=>jz (H':=[some (103,(yz s a e a k))]) (.inl rfl) (Wk.ren2 [pb 0 103 (yz s a e a k)] 1 hc0 [0] rfl rfl (by kernel_rfl) (by kernel_rfl)) rfl (oc rfl (oz)) (fun cx_ a_ hI_=>wN (l':=[pb 0 103 (yz s a e a k)]) (by kernel_rfl) cx_ a_ hI_) hI_
theorem qwant_yesG (s:zX) (a:Nat) (k c:Int) (hs:s.length≤65536) (ha:a≤s.length) (hc:qP s a c=true):PC Tryz.prog 46 [.opt 0 0,.av (.int .u8 c)] [some (103,(r5 s (qA s a) 0 0 k))] (.tup []) [some (103,(r5 s (qA s a+1) 0 0 k))]:=by
 have:=ZL s (qA s a) k c hs (zR ha) (by rw [jX];exact hc)
 rwa [vG] at this
theorem qjj (c:Int):PC Tryz.prog 77 [.av (.int .u8 c)] [] (bv (YF c)) [] :=
 vW (jA Tryz.func77 (by kernel_rfl) (by kernel_rfl)) rfl rfl fun w=>ends_walk c w
theorem qone_pc (t:zX) (h:t.length≤9223372036854775807):PC Tryz.prog 143 [sv (st t)] [] (bv (Vy (st t))) [] :=
 vW (jA Tryz.func143 (by kernel_rfl) (by kernel_rfl)) rfl rfl fun w=>one_walk (st t) h w
theorem qword_pc (s:zX) (a:Nat) (k:Int) (hs:s.length≤65536) (ha:a≤s.length):PC Tryz.prog 42 [(.opt 0 0)] [some (103,(r5 s a 0 0 k))] (sv (st (qK s (qA s a)))) [some (103,(r5 s (qA s a) 0 0 k))]:=by
 have hgl:=zR ha
 refine zG Tryz.func42 rfl (by kernel_rfl) (Nat.le_of_ble_eq_true rfl) (by kernel_rfl) (l0:=[ps 0 (.opt 0 0),pb 0 103 (r5 s a 0 0 k)]) rfl (fun c0 Bor hc0=>?_)
 refine qB<|qH qD [.r] []<|qB<|zC qD 1 [.k1,.d,.n] [pb 0 103 (r5 s (qA s a) 0 0 k)] (zY [0] 17 (qhn s a k hs (by omega)) oz)<|qB<|qH qD [.k1,.n,.r] [ps 3 (nv (qA s a))]<|qB<|qX<|zy (α:={x:Nat // qA s a≤x∧x≤s.length∧qK s (qA s a)=(s.drop (qA s a)).take (x-(qA s a))++qK s x}) (fun x=>[ps 0 (.opt 0 0),ps 3 (nv x.1),pb 0 103 (r5 s (qA s a) 0 0 k)]) (fun x=>s.length-x.1) 1 ⟨qA s a,⟨Nat.le_refl _,zR ha,by rw [Nat.sub_self];rfl⟩⟩ (Wk.ren2 _ 1 hc0 [0] rfl rfl (by kernel_rfl) (by kernel_rfl)) ?_
 rintro ⟨n,⟨hn1,hn2,hw⟩⟩
 refine qB<|qB ?_
 by_cases h1:(n:Int)<(s.length:Int)
 ·refine zD qD (gy 8 6++[(14,.gd true (.call [] [(.av (.int .u8 (((s.getD n 0).toNat:Nat):Int)))] [] (bv (YF (((s.getD n 0).toNat:Nat):Int))) [])),(15,.gd true .no),(16,.yes true)]) [ps 0 (.opt 0 0),ps 3 (nv n),ps 26 (bv (!(YF (((s.getD n 0).toNat:Nat):Int)))),pb 0 103 (r5 s (qA s a) 0 0 k)] (on 6 (qT h1) (oc (by first|omega|(simp <;> omega):(0:Int)≤(n:Int)∧(n:Int)<(s.length:Int)) (oc (qT h1) (zO 113 (qjj (((s.getD n 0).toNat:Nat):Int)) (on 2 (qT h1) oz))))) ?_
  by_cases h2:(YF (((s.getD n 0).toNat:Nat):Int))=true
  ·refine qR (congrArg Bool.not h2)<|zI rfl rfl<|qB ?_
   have hz:=WM (s:=s) (n:=n) (.inr (by rw [← qie];exact h2))
   have hu:=WL hn1 hn2 hw hz
   refine wC qD [(9,.val (.av (.string (st (qK s (qA s a))))))] (VB [(0,0),(0,1),(0,2),(0,3),(0,0),(4,1),(4,2),(4,3),(0,0),(0,9),(0,10)]) [([58],[0]),([60],[58]),([62],[60]),([64],[1,62]),([66],[0]),([68],[66]),([70],[68]),([72],[1,70]),([74],[6]),([76],[64,72,74]),([4],[76])] [.d,.n,.d,.d,.r] [ps 2 (sv (st (qK s (qA s a))))] (oc (by first|omega|(simp <;> omega):(0:Int)≤(qA s a:Int)∧(qA s a:Int)≤(n:Int)∧(n:Int)≤(s.length:Int)) (oc (by rw [ZP,← hu];rfl:(st s).extract (((qA s a:Nat):Int):Int).toNat (((n:Nat):Int):Int).toNat=st (qK s (qA s a))) oz)) ?_
   exact qk hc0 [2] [0] (hbk:=by exact oc rfl (oz))
  refine qS (congrArg Bool.not (Bool.eq_false_iff.2 h2))<|qF<|qX<|qQ qD [] [.k1,.d,.n,.d,.r] [ps 3 (iv (((n:Nat):Int)+1))] (oi (((n:Nat):Int)+1) (by omega) oz)<|qZ ?_
  have hcs:sgn.contains (s.getD n 0)=false:=by rw [← qie];exact eq_false_of_ne_true h2
  exact qq ⟨n+1,⟨by omega,by show n+1≤s.length;omega,qfu hn1 (by omega) hw hcs⟩⟩ (Wk.trans (Wk.eq (show _=[ps 0 (.opt 0 0),ps 3 (nv (n+1)),pb 0 103 (r5 s (qA s a) 0 0 k)] from by rfl)) (Wk.ren2 _ 1 hc0 [0] rfl rfl (by kernel_rfl) (by kernel_rfl))) (show s.length-(n+1)<s.length-n from by show s.length-(n+1)<s.length-n;omega)
 refine zD qD (gn 8 8++[(16,.yes false)]) [ps 0 (.opt 0 0),ps 3 (nv n),ps 26 (bv false),pb 0 103 (r5 s (qA s a) 0 0 k)] (on 9 (qV h1) oz)<|qO (b:=false) rfl rfl<|zI rfl rfl<|qB ?_
 have hz:=WM (s:=s) (n:=n) (.inl (by omega))
 have hu:=WL hn1 hn2 hw hz
 refine wC qD [(9,.val (.av (.string (st (qK s (qA s a))))))] (VB [(0,0),(0,1),(0,2),(0,3),(0,0),(4,1),(4,2),(4,3),(0,0),(0,9),(0,10)]) [([58],[0]),([60],[58]),([62],[60]),([64],[1,62]),([66],[0]),([68],[66]),([70],[68]),([72],[1,70]),([74],[6]),([76],[64,72,74]),([4],[76])] [.d,.n,.d,.d,.r] [ps 2 (sv (st (qK s (qA s a))))] (oc (by first|omega|(simp <;> omega):(0:Int)≤(qA s a:Int)∧(qA s a:Int)≤(n:Int)∧(n:Int)≤(s.length:Int)) (oc (by rw [ZP,← hu];rfl:(st s).extract (((qA s a:Nat):Int):Int).toNat (((n:Nat):Int):Int).toNat=st (qK s (qA s a))) oz)) ?_
 exact qk hc0 [2] [0] (hbk:=by exact oc rfl (oz))
theorem qcd (s:zX) (a:Nat) (k:Int) (hs:s.length≤65536) (ha:a≤s.length) (e:Int) (he:¬ e=0):PC Tryz.prog 42 [(.opt 0 0)] [some (103,(yz s a e a k))] (sv (st (qK s a))) [some (103,(yz s a e a k))]:=by
 refine zG Tryz.func42 rfl (by kernel_rfl) (Nat.le_of_ble_eq_true rfl) (by kernel_rfl) (l0:=[ps 0 (.opt 0 0),pb 0 103 (yz s a e a k)]) rfl (fun c0 Bor hc0=>?_)
 refine qB<|qH qD [.r] []<|qB<|zC qD 1 [.r] [] (zY [0] 17 (qji s a k e he) oz)<|qB<|qH qD [.k1,.n,.r] [ps 3 (nv a)]<|qB<|qX<|zy (α:={x:Nat // a≤x∧x≤s.length∧qK s a=(s.drop a).take (x-a)++qK s x}) (fun x=>[ps 0 (.opt 0 0),ps 3 (nv x.1),pb 0 103 (yz s a e a k)]) (fun x=>s.length-x.1) 1 ⟨a,⟨Nat.le_refl _,ha,by rw [Nat.sub_self];rfl⟩⟩ (Wk.ren2 _ 1 hc0 [0] rfl rfl (by kernel_rfl) (by kernel_rfl)) ?_
 rintro ⟨n,⟨hn1,hn2,hw⟩⟩
 refine qB<|qB ?_
 by_cases h3:(n:Int)<(s.length:Int)
 ·refine zD qD (gy 8 6++[(14,.gd true (.call [] [(.av (.int .u8 (((s.getD n 0).toNat:Nat):Int)))] [] (bv (YF (((s.getD n 0).toNat:Nat):Int))) [])),(15,.gd true .no),(16,.yes true)]) [ps 0 (.opt 0 0),ps 3 (nv n),ps 26 (bv (!(YF (((s.getD n 0).toNat:Nat):Int)))),pb 0 103 (yz s a e a k)] (on 6 (qT h3) (oc (by first|omega|(simp <;> omega):(0:Int)≤(n:Int)∧(n:Int)<(s.length:Int)) (oc (qT h3) (zO 113 (qjj (((s.getD n 0).toNat:Nat):Int)) (on 2 (qT h3) oz))))) ?_
  by_cases h4:(YF (((s.getD n 0).toNat:Nat):Int))=true
  ·refine qR (congrArg Bool.not h4)<|zI rfl rfl<|qB ?_
   have hz:=WM (s:=s) (n:=n) (.inr (by rw [← qie];exact h4))
   have hu:=WL hn1 hn2 hw hz
   refine wC qD [(9,.val (.av (.string (st (qK s a)))))] (VB [(0,0),(0,1),(0,2),(0,3),(0,0),(4,1),(4,2),(4,3),(0,0),(0,9),(0,10)]) [([58],[0]),([60],[58]),([62],[60]),([64],[1,62]),([66],[0]),([68],[66]),([70],[68]),([72],[1,70]),([74],[6]),([76],[64,72,74]),([4],[76])] [.d,.n,.d,.d,.r] [ps 2 (sv (st (qK s a)))] (oc (by first|omega|(simp <;> omega):(0:Int)≤(a:Int)∧(a:Int)≤(n:Int)∧(n:Int)≤(s.length:Int)) (oc (by rw [ZP,← hu];rfl:(st s).extract (((a:Nat):Int):Int).toNat (((n:Nat):Int):Int).toNat=st (qK s a)) oz)) ?_
   exact qk hc0 [2] [0] (hbk:=by exact oc rfl (oz))
  refine qS (congrArg Bool.not (Bool.eq_false_iff.2 h4))<|qF<|qX<|qQ qD [] [.k1,.d,.n,.d,.r] [ps 3 (iv (((n:Nat):Int)+1))] (oi (((n:Nat):Int)+1) (by omega) oz)<|qZ ?_
  have hcs:sgn.contains (s.getD n 0)=false:=by rw [← qie];exact eq_false_of_ne_true h4
  exact qq ⟨n+1,⟨by omega,by show n+1≤s.length;omega,qfu hn1 (by omega) hw hcs⟩⟩ (Wk.trans (Wk.eq (show _=[ps 0 (.opt 0 0),ps 3 (nv (n+1)),pb 0 103 (yz s a e a k)] from by rfl)) (Wk.ren2 _ 1 hc0 [0] rfl rfl (by kernel_rfl) (by kernel_rfl))) (show s.length-(n+1)<s.length-n from by show s.length-(n+1)<s.length-n;omega)
 refine zD qD (gn 8 8++[(16,.yes false)]) [ps 0 (.opt 0 0),ps 3 (nv n),ps 26 (bv false),pb 0 103 (yz s a e a k)] (on 9 (qV h3) oz)<|qO (b:=false) rfl rfl<|zI rfl rfl<|qB ?_
 have hz:=WM (s:=s) (n:=n) (.inl (by omega))
 have hu:=WL hn1 hn2 hw hz
 refine wC qD [(9,.val (.av (.string (st (qK s a)))))] (VB [(0,0),(0,1),(0,2),(0,3),(0,0),(4,1),(4,2),(4,3),(0,0),(0,9),(0,10)]) [([58],[0]),([60],[58]),([62],[60]),([64],[1,62]),([66],[0]),([68],[66]),([70],[68]),([72],[1,70]),([74],[6]),([76],[64,72,74]),([4],[76])] [.d,.n,.d,.d,.r] [ps 2 (sv (st (qK s a)))] (oc (by first|omega|(simp <;> omega):(0:Int)≤(a:Int)∧(a:Int)≤(n:Int)∧(n:Int)≤(s.length:Int)) (oc (by rw [ZP,← hu];rfl:(st s).extract (((a:Nat):Int):Int).toNat (((n:Nat):Int):Int).toNat=st (qK s a)) oz)) ?_
 exact qk hc0 [2] [0] (hbk:=by exact oc rfl (oz))
theorem QG (s:zX) (a:Nat) (k:Int) (hs:s.length≤65536) (ha:a≤s.length):PC Tryz.prog 42 [.opt 0 0] [some (103,(r5 s a 0 0 k))] (sv (st (qC s a))) [some (103,(r5 s (qA s a) 0 0 k))]:=qword_pc s a k hs ha
theorem qword_pcFG (s:zX) (a:Nat) (k:Int) (hs:s.length≤65536) (ha:a≤s.length):PC Tryz.prog 42 [.opt 0 0] [some (103,(r5 s (qA s a) 0 0 k))] (sv (st (qC s a))) [some (103,(r5 s (qA s a) 0 0 k))]:=by
 have:=QG s (qA s a) k hs (zR ha)
 rwa [vG,QW] at this
theorem qde (l:List It) (ih:∀ (l':List It),SizeOf.sizeOf l'<SizeOf.sizeOf l→szL l'→l'.length≤140737488351232→PC Tryz.prog 48 [.ssl (zP l') 0 l'.length,.ssl (zP l') 0 l'.length] [] (bv true) []) (hs:szL l) (hl:l.length≤140737488351232):PC Tryz.prog 48 [(.ssl (zP l) 0 l.length),(.ssl (zP l) 0 l.length)] [] (bv true) []:=by
 refine zG Tryz.func48 rfl (by kernel_rfl) (Nat.le_of_ble_eq_true rfl) (by kernel_rfl) (l0:=[ps 0 (.ssl (zP l) 0 l.length),ps 1 (.ssl (zP l) 0 l.length)]) rfl (fun c0 Bor hc0=>?_)
 refine qB<|qH qD [.r] []<|qB<|qB<|qH qD [.k2,.n] [ps 13 (bv (!(decide (((l.length:Nat):Int)=(l.length:Int)))))] ?_
 have h1:(l.length:Int)=(l.length:Int):=rfl
 refine qR (bt h1)<|qF<|qB<|qB<|qH qD [.k2,.d,.n,.n] [ps 15 (nv l.length),ps 16 (iv 0)]<|qX<|zy (α:={x:Nat // x≤l.length}) (fun x=>[ps 0 (.ssl (zP l) 0 l.length),ps 1 (.ssl (zP l) 0 l.length),ps 15 (nv l.length),ps 16 (nv x.1)]) (fun x=>l.length-x.1) 0 ⟨0,Nat.zero_le _⟩ (Wk.ren2 _ 0 hc0 [] rfl rfl (by kernel_rfl) (by kernel_rfl)) ?_
 rintro ⟨i,hi⟩
 refine qB<|zD qD [] [ps 0 (.ssl (zP l) 0 l.length),ps 1 (.ssl (zP l) 0 l.length),ps 15 (nv l.length),ps 16 (nv i),ps 17 (bv (decide (((i:Nat):Int)<(l.length:Int))))] (oz)<|qB ?_
 by_cases h2:(i:Int)<(l.length:Int)
 ·refine qS (qT h2)<|qF<|qB<|qX<|qB<|qH qD [.k2,.n,.k2,.d] [ps 5 (nv i)]<|qB ?_
  have hz:=(qag (l.getD i zQ)).1 (sz_at hs (by omega))
  refine wC qD [(2,.nat (i*7)),(3,.cells [(iv (iK (l.getD i zQ))),(iv (iS (l.getD i zQ))),(.ssl (wA (iP (l.getD i zQ))) 0 ((iP (l.getD i zQ)).length)),(iv ((iB (l.getD i zQ)).1)),(iv ((iB (l.getD i zQ)).2)),(sv (st (iL (l.getD i zQ)))),(.ssl (zP (iC (l.getD i zQ))) 0 ((iC (l.getD i zQ)).length))]),(6,.nat (i*7)),(7,.cells [(iv (iK (l.getD i zQ))),(iv (iS (l.getD i zQ))),(.ssl (wA (iP (l.getD i zQ))) 0 ((iP (l.getD i zQ)).length)),(iv ((iB (l.getD i zQ)).1)),(iv ((iB (l.getD i zQ)).2)),(sv (st (iL (l.getD i zQ)))),(.ssl (zP (iC (l.getD i zQ))) 0 ((iC (l.getD i zQ)).length))])] (bfm [[],[],[(0,2)],[(0,3)],[],[],[(4,2)],[(4,3)],[],[],[(0,4),(8,2)],[(0,11)]]) [([38],[0]),([40],[10]),([42],[38,40]),([44],[42]),([46],[2]),([48],[10]),([50],[46,48]),([52],[50]),([12,177],[]),([14,193],[]),([177],[12,44,177]),([193],[14,52,193])] [.k2,.d,.n,.n,.k2,.n,.n] [ps 6 (.opt 88 0),ps 7 (.opt 96 0),pb 88 50 [(iv (iK (l.getD i zQ))),(iv (iS (l.getD i zQ))),(.ssl (wA (iP (l.getD i zQ))) 0 ((iP (l.getD i zQ)).length)),(iv ((iB (l.getD i zQ)).1)),(iv ((iB (l.getD i zQ)).2)),(sv (st (iL (l.getD i zQ)))),(.ssl (zP (iC (l.getD i zQ))) 0 ((iC (l.getD i zQ)).length))],pb 96 50 [(iv (iK (l.getD i zQ))),(iv (iS (l.getD i zQ))),(.ssl (wA (iP (l.getD i zQ))) 0 ((iP (l.getD i zQ)).length)),(iv ((iB (l.getD i zQ)).1)),(iv ((iB (l.getD i zQ)).2)),(sv (st (iL (l.getD i zQ)))),(.ssl (zP (iC (l.getD i zQ))) 0 ((iC (l.getD i zQ)).length))]] (oc (by omega:(0:Int)≤(i:Int)∧(i:Int)<(l.length:Int)) (oc (by omega:0+(((i:Nat):Int):Int).toNat*7=(i*7)) (oc (ics_at l i 0 7 (by omega) (by decide):(i*7)+7≤((zP l)).length∧(((zP l)).drop (i*7)).take 7=[(iv (iK (l.getD i zQ))),(iv (iS (l.getD i zQ))),(.ssl (wA (iP (l.getD i zQ))) 0 ((iP (l.getD i zQ)).length)),(iv ((iB (l.getD i zQ)).1)),(iv ((iB (l.getD i zQ)).2)),(sv (st (iL (l.getD i zQ)))),(.ssl (zP (iC (l.getD i zQ))) 0 ((iC (l.getD i zQ)).length))]) (oc (by omega:(0:Int)≤(i:Int)∧(i:Int)<(l.length:Int)) (oc (by omega:0+(((i:Nat):Int):Int).toNat*7=(i*7)) (oc (ics_at l i 0 7 (by omega) (by decide):(i*7)+7≤((zP l)).length∧(((zP l)).drop (i*7)).take 7=[(iv (iK (l.getD i zQ))),(iv (iS (l.getD i zQ))),(.ssl (wA (iP (l.getD i zQ))) 0 ((iP (l.getD i zQ)).length)),(iv ((iB (l.getD i zQ)).1)),(iv ((iB (l.getD i zQ)).2)),(sv (st (iL (l.getD i zQ)))),(.ssl (zP (iC (l.getD i zQ))) 0 ((iC (l.getD i zQ)).length))]) oz))))))<|qB<|qB ?_
  have h3:(iK (l.getD i zQ))=(iK (l.getD i zQ)):=rfl
  have h4:(iS (l.getD i zQ))=(iS (l.getD i zQ)):=rfl
  have h5:((decide (((iB (l.getD i zQ)).1)=((iB (l.getD i zQ)).1))) && (decide (((iB (l.getD i zQ)).2)=((iB (l.getD i zQ)).2))))=true:=(by simp)
  have h6:(iL (l.getD i zQ))=(iL (l.getD i zQ)):=rfl
  have h7:(((iP (l.getD i zQ)).length:Nat):Int)=(((iP (l.getD i zQ)).length:Nat):Int):=rfl
  refine qQ qD (gn 6 5++[(11,.yes false)]++gn 13 5++[(18,.yes false)]++gn 20 4++[(24,.gd false (.val (.av (.bool (!decide ((iL (l.getD i zQ))=(iL (l.getD i zQ)))))))),(25,.yes false)]++gn 27 7++[(34,.yes false)]++gn 36 4++[(40,.gd false (.call [] [(.ssl (zP (iC (l.getD i zQ))) 0 ((iC (l.getD i zQ)).length)),(.ssl (zP (iC (l.getD i zQ))) 0 ((iC (l.getD i zQ)).length))] [] (bv true) [])),(41,.gd false .no),(42,.yes false)]) [.k6,.n,.r] [ps 69 (bv false)] (on 6 (bt h3) (on 6 (bt h4) (oc (congrArg Bool.not h5:(!((decide (((iB (l.getD i zQ)).1)=((iB (l.getD i zQ)).1))) && (decide (((iB (l.getD i zQ)).2)=((iB (l.getD i zQ)).2)))))=false) (oc (congrArg Bool.not h5:(!((decide (((iB (l.getD i zQ)).1)=((iB (l.getD i zQ)).1))) && (decide (((iB (l.getD i zQ)).2)=((iB (l.getD i zQ)).2)))))=false) (oc (congrArg Bool.not h5:(!((decide (((iB (l.getD i zQ)).1)=((iB (l.getD i zQ)).1))) && (decide (((iB (l.getD i zQ)).2)=((iB (l.getD i zQ)).2)))))=false) (oc (congrArg Bool.not h5:(!((decide (((iB (l.getD i zQ)).1)=((iB (l.getD i zQ)).1))) && (decide (((iB (l.getD i zQ)).2)=((iB (l.getD i zQ)).2)))))=false) (oc (congrArg Bool.not h5:(!((decide (((iB (l.getD i zQ)).1)=((iB (l.getD i zQ)).1))) && (decide (((iB (l.getD i zQ)).2)=((iB (l.getD i zQ)).2)))))=false) (oc (yW _ _:(!((st (iL (l.getD i zQ))).toList == (st (iL (l.getD i zQ))).toList)) = !decide ((iL (l.getD i zQ))=(iL (l.getD i zQ)))) (oc (congrArg Bool.not h5:(!((decide (((iB (l.getD i zQ)).1)=((iB (l.getD i zQ)).1))) && (decide (((iB (l.getD i zQ)).2)=((iB (l.getD i zQ)).2)))))=false) (on 8 (bt h6) (on 5 (bt h7) (zO 440 (ih (iC (l.getD i zQ)) (Nat.lt_trans (kids_lt' _) (el_lt (by omega))) hz.2.2 hz.2.1:PC Tryz.prog 48 [(.ssl (zP (iC (l.getD i zQ))) 0 ((iC (l.getD i zQ)).length)),(.ssl (zP (iC (l.getD i zQ))) 0 ((iC (l.getD i zQ)).length))] [] (bv true) []) (on 2 (bt h7) oz)))))))))))))<|qO (b:=false) rfl rfl<|qF<|qB<|qH qD [.k6,.d,.n,.n,.r] [ps 72 (nv ((iP (l.getD i zQ)).length)),ps 73 (iv 0)]<|qX<|zy (α:={x:Nat // x≤(iP (l.getD i zQ)).length}) (fun x=>[ps 0 (.ssl (zP l) 0 l.length),ps 1 (.ssl (zP l) 0 l.length),ps 6 (.opt 0 0),ps 7 (.opt 1 0),ps 15 (nv l.length),ps 16 (nv i),ps 72 (nv ((iP (l.getD i zQ)).length)),ps 73 (nv x.1),pb 0 50 [(iv (iK (l.getD i zQ))),(iv (iS (l.getD i zQ))),(.ssl (wA (iP (l.getD i zQ))) 0 ((iP (l.getD i zQ)).length)),(iv ((iB (l.getD i zQ)).1)),(iv ((iB (l.getD i zQ)).2)),(sv (st (iL (l.getD i zQ)))),(.ssl (zP (iC (l.getD i zQ))) 0 ((iC (l.getD i zQ)).length))],pb 1 50 [(iv (iK (l.getD i zQ))),(iv (iS (l.getD i zQ))),(.ssl (wA (iP (l.getD i zQ))) 0 ((iP (l.getD i zQ)).length)),(iv ((iB (l.getD i zQ)).1)),(iv ((iB (l.getD i zQ)).2)),(sv (st (iL (l.getD i zQ)))),(.ssl (zP (iC (l.getD i zQ))) 0 ((iC (l.getD i zQ)).length))]]) (fun x=>(iP (l.getD i zQ)).length-x.1) 2 ⟨0,Nat.zero_le _⟩ (Wk.ren2 _ 0 hc0 [88,96] rfl rfl (by kernel_rfl) (by kernel_rfl)) ?_
  rintro ⟨j,hj⟩
  refine qB<|zD qD [] [ps 0 (.ssl (zP l) 0 l.length),ps 1 (.ssl (zP l) 0 l.length),ps 6 (.opt 0 0),ps 7 (.opt 1 0),ps 15 (nv l.length),ps 16 (nv i),ps 72 (nv ((iP (l.getD i zQ)).length)),ps 73 (nv j),ps 74 (bv (decide (((j:Nat):Int)<(((iP (l.getD i zQ)).length:Nat):Int)))),pb 0 50 [(iv (iK (l.getD i zQ))),(iv (iS (l.getD i zQ))),(.ssl (wA (iP (l.getD i zQ))) 0 ((iP (l.getD i zQ)).length)),(iv ((iB (l.getD i zQ)).1)),(iv ((iB (l.getD i zQ)).2)),(sv (st (iL (l.getD i zQ)))),(.ssl (zP (iC (l.getD i zQ))) 0 ((iC (l.getD i zQ)).length))],pb 1 50 [(iv (iK (l.getD i zQ))),(iv (iS (l.getD i zQ))),(.ssl (wA (iP (l.getD i zQ))) 0 ((iP (l.getD i zQ)).length)),(iv ((iB (l.getD i zQ)).1)),(iv ((iB (l.getD i zQ)).2)),(sv (st (iL (l.getD i zQ)))),(.ssl (zP (iC (l.getD i zQ))) 0 ((iC (l.getD i zQ)).length))]] (oz)<|qB ?_
  by_cases h8:(j:Int)<(((iP (l.getD i zQ)).length:Nat):Int)
  ·refine qS (qT h8)<|qF<|qB<|qX<|qB<|qH qD [.k4,.n,.k4,.d,.r] [ps 8 (nv j)]<|qB<|wC qD [(3,.nat (j*3)),(4,.cells [(iv (((iP (l.getD i zQ)).getD j dPt).1)),(iv (((iP (l.getD i zQ)).getD j dPt).2.1)),(iv (((iP (l.getD i zQ)).getD j dPt).2.2))]),(8,.nat (j*3)),(9,.cells [(iv (((iP (l.getD i zQ)).getD j dPt).1)),(iv (((iP (l.getD i zQ)).getD j dPt).2.1)),(iv (((iP (l.getD i zQ)).getD j dPt).2.2))])] (VB [(0,0),(0,1),(0,0),(0,3),(0,4),(0,0),(5,1),(0,0),(5,3),(5,4),(0,10)]) [([152],[12]),([154],[1,152]),([156],[16]),([158],[154,156]),([160],[158]),([162],[14]),([164],[3,162]),([166],[16]),([168],[164,166]),([170],[168]),([172],[160,170])] [.k4,.d,.k4,.n,.r] [ps 86 (bv (!((decide ((((iP (l.getD i zQ)).getD j dPt).1)=(((iP (l.getD i zQ)).getD j dPt).1))) && ((decide ((((iP (l.getD i zQ)).getD j dPt).2.1)=(((iP (l.getD i zQ)).getD j dPt).2.1))) && (decide ((((iP (l.getD i zQ)).getD j dPt).2.2)=(((iP (l.getD i zQ)).getD j dPt).2.2)))))))] (oc (by omega:(0:Int)≤(j:Int)∧(j:Int)<(((iP (l.getD i zQ)).length:Nat):Int)) (oc (by omega:0+(((j:Nat):Int):Int).toNat*3=(j*3)) (oc (jJ ptC 3 (fun _=>rfl) dPt (iP (l.getD i zQ)) j 0 3 (by omega) (by decide):(j*3)+3≤((wA (iP (l.getD i zQ)))).length∧(((wA (iP (l.getD i zQ)))).drop (j*3)).take 3=[(iv (((iP (l.getD i zQ)).getD j dPt).1)),(iv (((iP (l.getD i zQ)).getD j dPt).2.1)),(iv (((iP (l.getD i zQ)).getD j dPt).2.2))]) (oc (by omega:(0:Int)≤(j:Int)∧(j:Int)<(((iP (l.getD i zQ)).length:Nat):Int)) (oc (by omega:0+(((j:Nat):Int):Int).toNat*3=(j*3)) (oc (jJ ptC 3 (fun _=>rfl) dPt (iP (l.getD i zQ)) j 0 3 (by omega) (by decide):(j*3)+3≤((wA (iP (l.getD i zQ)))).length∧(((wA (iP (l.getD i zQ)))).drop (j*3)).take 3=[(iv (((iP (l.getD i zQ)).getD j dPt).1)),(iv (((iP (l.getD i zQ)).getD j dPt).2.1)),(iv (((iP (l.getD i zQ)).getD j dPt).2.2))]) oz)))))) ?_
   have h9:((decide ((((iP (l.getD i zQ)).getD j dPt).1)=(((iP (l.getD i zQ)).getD j dPt).1))) && ((decide ((((iP (l.getD i zQ)).getD j dPt).2.1)=(((iP (l.getD i zQ)).getD j dPt).2.1))) && (decide ((((iP (l.getD i zQ)).getD j dPt).2.2)=(((iP (l.getD i zQ)).getD j dPt).2.2)))))=true:=(by simp)
   refine qR (congrArg Bool.not h9)<|qF<|qZ<|qQ qD [] [.k7,.d,.n,.d,.r] [ps 73 (iv (((j:Nat):Int)+1))] (oi (((j:Nat):Int)+1) (by omega) oz) ?_
   exact qq ⟨j+1,by show j+1≤(iP (l.getD i zQ)).length;omega⟩ (Wk.trans (Wk.eq (show _=[ps 0 (.ssl (zP l) 0 l.length),ps 1 (.ssl (zP l) 0 l.length),ps 6 (.opt 0 0),ps 7 (.opt 1 0),ps 15 (nv l.length),ps 16 (nv i),ps 72 (nv ((iP (l.getD i zQ)).length)),ps 73 (nv (j+1)),pb 0 50 [(iv (iK (l.getD i zQ))),(iv (iS (l.getD i zQ))),(.ssl (wA (iP (l.getD i zQ))) 0 ((iP (l.getD i zQ)).length)),(iv ((iB (l.getD i zQ)).1)),(iv ((iB (l.getD i zQ)).2)),(sv (st (iL (l.getD i zQ)))),(.ssl (zP (iC (l.getD i zQ))) 0 ((iC (l.getD i zQ)).length))],pb 1 50 [(iv (iK (l.getD i zQ))),(iv (iS (l.getD i zQ))),(.ssl (wA (iP (l.getD i zQ))) 0 ((iP (l.getD i zQ)).length)),(iv ((iB (l.getD i zQ)).1)),(iv ((iB (l.getD i zQ)).2)),(sv (st (iL (l.getD i zQ)))),(.ssl (zP (iC (l.getD i zQ))) 0 ((iC (l.getD i zQ)).length))]] from by rfl)) (Wk.ren2 _ 0 hc0 [0,1] rfl rfl (by kernel_rfl) (by kernel_rfl))) (show (iP (l.getD i zQ)).length-(j+1)<(iP (l.getD i zQ)).length-j from by show (iP (l.getD i zQ)).length-(j+1)<(iP (l.getD i zQ)).length-j;omega)
  refine qR (qV h8)<|zI rfl rfl<|qZ<|qQ qD [] [.k2,.d,.d,.k1,.d,.n,.d,.d,.d,.d,.d] [ps 16 (iv (((i:Nat):Int)+1))] (oi (((i:Nat):Int)+1) (by omega) oz) ?_
  exact qq ⟨i+1,by show i+1≤l.length;omega⟩ (Wk.trans (Wk.eq (show _=[ps 0 (.ssl (zP l) 0 l.length),ps 1 (.ssl (zP l) 0 l.length),ps 15 (nv l.length),ps 16 (nv (i+1))] from by rfl)) (Wk.ren2 _ 0 hc0 [] rfl rfl (by kernel_rfl) (by kernel_rfl))) (show l.length-(i+1)<l.length-i from by show l.length-(i+1)<l.length-i;omega)
 refine qR (qV h2)<|zI rfl rfl<|qB<|zD qD [] [ps 4 (bv true)] (oz) ?_
 exact qk hc0 [4] []
theorem Vj:∀ (m:Nat) (l:List It),SizeOf.sizeOf l<m→szL l→l.length≤140737488351232→PC Tryz.prog 48 [.ssl (zP l) 0 l.length,.ssl (zP l) 0 l.length] [] (bv true) []
 | 0,_,h,_,_=>absurd h (Nat.not_lt_zero _)
 | m+1,l,h,hs,hl=>qde l (fun l' hl' hs' hb=>Vj m l' (by omega) hs' hb) hs hl
theorem qfm (l:List It) (hs:szL l) (hl:l.length≤140737488351232):PC Tryz.prog 48 [.ssl (zP l) 0 l.length,.ssl (zP l) 0 l.length] [] (bv true) []:=Vj _ l (Nat.lt_succ_self _) hs hl
theorem qeb (l:List Vo) (hs:szVs l) (hl:l.length≤140737488351232):PC Tryz.prog 17 [(.ssl (yD l) 0 l.length),(.ssl (yD l) 0 l.length)] [] (bv true) []:=by
 refine zG Tryz.func17 rfl (by kernel_rfl) (Nat.le_of_ble_eq_true rfl) (by kernel_rfl) (l0:=[ps 0 (.ssl (yD l) 0 l.length),ps 1 (.ssl (yD l) 0 l.length)]) rfl (fun c0 Bor hc0=>?_)
 refine qB<|qH qD [.r] []<|qB<|qB<|qH qD [.k2,.n] [ps 13 (bv (!(decide (((l.length:Nat):Int)=(l.length:Int)))))] ?_
 have h1:(l.length:Int)=(l.length:Int):=rfl
 refine qR (bt h1)<|qF<|qB<|qB<|qH qD [.k2,.d,.n,.n] [ps 15 (nv l.length),ps 16 (iv 0)]<|qX<|zy (α:={x:Nat // x≤l.length}) (fun x=>[ps 0 (.ssl (yD l) 0 l.length),ps 1 (.ssl (yD l) 0 l.length),ps 15 (nv l.length),ps 16 (nv x.1)]) (fun x=>l.length-x.1) 0 ⟨0,Nat.zero_le _⟩ (Wk.ren2 _ 0 hc0 [] rfl rfl (by kernel_rfl) (by kernel_rfl)) ?_
 rintro ⟨i,hi⟩
 refine qB<|zD qD [] [ps 0 (.ssl (yD l) 0 l.length),ps 1 (.ssl (yD l) 0 l.length),ps 15 (nv l.length),ps 16 (nv i),ps 17 (bv (decide (((i:Nat):Int)<(l.length:Int))))] (oz)<|qB ?_
 by_cases h2:(i:Int)<(l.length:Int)
 ·refine qS (qT h2)<|qF<|qB<|qX<|qB<|qH qD [.k2,.n,.k2,.d] [ps 5 (nv i)]<|qB<|qB ?_
  have hv:=hs.2 i (by omega)
  have hvl:=hv.1
  have h3:((l.getD i vS).1)=((l.getD i vS).1):=rfl
  refine wC qD ([(2,.nat (i*2)),(4,.val (sv (st ((l.getD i vS).1)))),(7,.nat (i*2)),(9,.val (sv (st ((l.getD i vS).1)))),(10,.val (.av (.bool (!decide (((l.getD i vS).1)=((l.getD i vS).1))))))]++gn 12 2++[(14,.gd false (.nat (i*2))),(15,.gd false .no),(16,.gd false (.val (.ssl (yU ((l.getD i vS).2)) 0 (((l.getD i vS).2).length))))]++gn 17 3++[(20,.gd false (.nat (i*2))),(21,.gd false .no),(22,.gd false (.val (.ssl (yU ((l.getD i vS).2)) 0 (((l.getD i vS).2).length))))]++gn 23 2++[(25,.yes false)]) (bfm [[],[],[(0,2)],[(0,3)],[(0,4)],[],[],[(5,2)],[(5,3)],[(5,4)],[(0,10)],[(0,11)],[(0,12)],[(0,12)],[(0,14)],[(0,15)],[(0,16)],[(0,17)],[(0,12)],[(0,12)],[(0,12),(18,2)],[(0,12),(18,3)],[(0,12),(18,4)],[(0,12),(18,5)],[(0,24)],[(0,25)]]) [([38],[0]),([40],[10]),([42],[38,40]),([44],[42]),([46],[44]),([48],[2]),([50],[10]),([52],[48,50]),([54],[52]),([56],[54]),([58],[46,56]),([60],[58]),([62],[0,60]),([64],[10,60]),([66],[60,62,64]),([68],[60,66]),([70],[60,68]),([72],[60,70]),([74],[2,60]),([76],[10,60]),([78],[60,74,76]),([80],[60,78]),([82],[60,80]),([84],[60,82]),([86],[60,72,84]),([88],[60,86])] [.k5,.n] [ps 44 (bv (!(decide (((((l.getD i vS).2).length:Nat):Int)=((((l.getD i vS).2).length:Nat):Int)))))] (oc (by omega:(0:Int)≤(i:Int)∧(i:Int)<(l.length:Int)) (oc (by omega:0+(((i:Nat):Int):Int).toNat*2=(i*2)) (oc (jJ voC 2 (fun _=>rfl) vS l i 0 1 (by omega) (by decide):(i*2)+1≤((yD l)).length∧(((yD l)).drop (i*2)).take 1=[(sv (st ((l.getD i vS).1)))]) (oc (by omega:(0:Int)≤(i:Int)∧(i:Int)<(l.length:Int)) (oc (by omega:0+(((i:Nat):Int):Int).toNat*2=(i*2)) (oc (jJ voC 2 (fun _=>rfl) vS l i 0 1 (by omega) (by decide):(i*2)+1≤((yD l)).length∧(((yD l)).drop (i*2)).take 1=[(sv (st ((l.getD i vS).1)))]) (oc (yW _ _:(!((st ((l.getD i vS).1)).toList == (st ((l.getD i vS).1)).toList)) = !decide (((l.getD i vS).1)=((l.getD i vS).1))) (on 3 (bt h3) (oc (by omega:(0:Int)≤(i:Int)∧(i:Int)<(l.length:Int)) (oc (by omega:0+(((i:Nat):Int):Int).toNat*2=(i*2)) (on 2 (bt h3) (oc (jJ voC 2 (fun _=>rfl) vS l i 1 1 (by omega) (by decide):(i*2+1)+1≤((yD l)).length∧(((yD l)).drop (i*2+1)).take 1=[(.ssl (yU ((l.getD i vS).2)) 0 (((l.getD i vS).2).length))]) (on 4 (bt h3) (oc (by omega:(0:Int)≤(i:Int)∧(i:Int)<(l.length:Int)) (oc (by omega:0+(((i:Nat):Int):Int).toNat*2=(i*2)) (on 2 (bt h3) (oc (jJ voC 2 (fun _=>rfl) vS l i 1 1 (by omega) (by decide):(i*2+1)+1≤((yD l)).length∧(((yD l)).drop (i*2+1)).take 1=[(.ssl (yU ((l.getD i vS).2)) 0 (((l.getD i vS).2).length))]) (on 3 (bt h3) oz)))))))))))))))))) ?_
  have h4:((((l.getD i vS).2).length:Nat):Int)=((((l.getD i vS).2).length:Nat):Int):=rfl
  refine qR (bt h4)<|qF<|qB<|qQ qD [(2,.nat (i*2)),(4,.val (.ssl (yU ((l.getD i vS).2)) 0 (((l.getD i vS).2).length)))] [.k5,.d,.n,.n] [ps 50 (nv (((l.getD i vS).2).length)),ps 51 (iv 0)] (oc (by omega:(0:Int)≤(i:Int)∧(i:Int)<(l.length:Int)) (oc (by omega:0+(((i:Nat):Int):Int).toNat*2=(i*2)) (oc (jJ voC 2 (fun _=>rfl) vS l i 1 1 (by omega) (by decide):(i*2+1)+1≤((yD l)).length∧(((yD l)).drop (i*2+1)).take 1=[(.ssl (yU ((l.getD i vS).2)) 0 (((l.getD i vS).2).length))]) oz))) ?_
  refine qX<|zy (α:={x:Nat // x≤(l.getD i vS).2.length}) (fun x=>[ps 0 (.ssl (yD l) 0 l.length),ps 1 (.ssl (yD l) 0 l.length),ps 5 (nv i),ps 15 (nv l.length),ps 16 (nv i),ps 50 (nv (((l.getD i vS).2).length)),ps 51 (nv x.1)]) (fun x=>(l.getD i vS).2.length-x.1) 0 ⟨0,Nat.zero_le _⟩ (Wk.ren2 _ 0 hc0 [] rfl rfl (by kernel_rfl) (by kernel_rfl)) ?_
  rintro ⟨j,hj⟩
  refine qB<|zD qD [] [ps 0 (.ssl (yD l) 0 l.length),ps 1 (.ssl (yD l) 0 l.length),ps 5 (nv i),ps 15 (nv l.length),ps 16 (nv i),ps 50 (nv (((l.getD i vS).2).length)),ps 51 (nv j),ps 52 (bv (decide (((j:Nat):Int)<((((l.getD i vS).2).length:Nat):Int))))] (oz)<|qB ?_
  by_cases h5:(j:Int)<((((l.getD i vS).2).length:Nat):Int)
  ·refine qS (qT h5)<|qF<|qB<|qX<|qB<|qH qD [.k3,.n,.k4,.d] [ps 6 (nv j)]<|qB ?_
   have hb:=hv.2 j (by omega)
   refine wC qD [(2,.nat (i*2)),(4,.val (.ssl (yU ((l.getD i vS).2)) 0 (((l.getD i vS).2).length))),(6,.nat (j*3)),(7,.cells [(iv ((((l.getD i vS).2).getD j ZG).1)),(iv ((((l.getD i vS).2).getD j ZG).2.1)),(.ssl (zP ((((l.getD i vS).2).getD j ZG).2.2)) 0 (((((l.getD i vS).2).getD j ZG).2.2).length))]),(10,.nat (i*2)),(12,.val (.ssl (yU ((l.getD i vS).2)) 0 (((l.getD i vS).2).length))),(14,.nat (j*3)),(15,.cells [(iv ((((l.getD i vS).2).getD j ZG).1)),(iv ((((l.getD i vS).2).getD j ZG).2.1)),(.ssl (zP ((((l.getD i vS).2).getD j ZG).2.2)) 0 (((((l.getD i vS).2).getD j ZG).2.2).length))])] (bfm [[],[],[(0,2)],[(0,3)],[(0,4)],[],[(0,6)],[(0,7)],[],[],[(8,2)],[(8,3)],[(8,4)],[],[(8,6)],[(8,7)],[],[],[(0,8),(16,2)],[(0,19)]]) [([108],[0]),([110],[10]),([112],[108,110]),([114],[112]),([116],[114]),([118],[12]),([120],[116,118]),([122],[120]),([124],[2]),([126],[10]),([128],[124,126]),([130],[128]),([132],[130]),([134],[12]),([136],[132,134]),([138],[136]),([14,305],[]),([16,321],[]),([305],[14,122,305]),([321],[16,138,321])] [.k3,.d,.n,.n,.k4,.n,.n] [ps 7 (.opt 152 0),ps 8 (.opt 160 0),pb 152 47 [(iv ((((l.getD i vS).2).getD j ZG).1)),(iv ((((l.getD i vS).2).getD j ZG).2.1)),(.ssl (zP ((((l.getD i vS).2).getD j ZG).2.2)) 0 (((((l.getD i vS).2).getD j ZG).2.2).length))],pb 160 47 [(iv ((((l.getD i vS).2).getD j ZG).1)),(iv ((((l.getD i vS).2).getD j ZG).2.1)),(.ssl (zP ((((l.getD i vS).2).getD j ZG).2.2)) 0 (((((l.getD i vS).2).getD j ZG).2.2).length))]] (oc (by omega:(0:Int)≤(i:Int)∧(i:Int)<(l.length:Int)) (oc (by omega:0+(((i:Nat):Int):Int).toNat*2=(i*2)) (oc (jJ voC 2 (fun _=>rfl) vS l i 1 1 (by omega) (by decide):(i*2+1)+1≤((yD l)).length∧(((yD l)).drop (i*2+1)).take 1=[(.ssl (yU ((l.getD i vS).2)) 0 (((l.getD i vS).2).length))]) (oc (by omega:(0:Int)≤(j:Int)∧(j:Int)<((((l.getD i vS).2).length:Nat):Int)) (oc (by omega:0+(((j:Nat):Int):Int).toNat*3=(j*3)) (oc (jJ brC 3 (fun _=>rfl) ZG ((l.getD i vS).2) j 0 3 (by omega) (by decide):(j*3)+3≤((yU ((l.getD i vS).2))).length∧(((yU ((l.getD i vS).2))).drop (j*3)).take 3=[(iv ((((l.getD i vS).2).getD j ZG).1)),(iv ((((l.getD i vS).2).getD j ZG).2.1)),(.ssl (zP ((((l.getD i vS).2).getD j ZG).2.2)) 0 (((((l.getD i vS).2).getD j ZG).2.2).length))]) (oc (by omega:(0:Int)≤(i:Int)∧(i:Int)<(l.length:Int)) (oc (by omega:0+(((i:Nat):Int):Int).toNat*2=(i*2)) (oc (jJ voC 2 (fun _=>rfl) vS l i 1 1 (by omega) (by decide):(i*2+1)+1≤((yD l)).length∧(((yD l)).drop (i*2+1)).take 1=[(.ssl (yU ((l.getD i vS).2)) 0 (((l.getD i vS).2).length))]) (oc (by omega:(0:Int)≤(j:Int)∧(j:Int)<((((l.getD i vS).2).length:Nat):Int)) (oc (by omega:0+(((j:Nat):Int):Int).toNat*3=(j*3)) (oc (jJ brC 3 (fun _=>rfl) ZG ((l.getD i vS).2) j 0 3 (by omega) (by decide):(j*3)+3≤((yU ((l.getD i vS).2))).length∧(((yU ((l.getD i vS).2))).drop (j*3)).take 3=[(iv ((((l.getD i vS).2).getD j ZG).1)),(iv ((((l.getD i vS).2).getD j ZG).2.1)),(.ssl (zP ((((l.getD i vS).2).getD j ZG).2.2)) 0 (((((l.getD i vS).2).getD j ZG).2.2).length))]) oz)))))))))))) ?_
   refine qB ?_
   have h6:((((l.getD i vS).2).getD j ZG).1)=((((l.getD i vS).2).getD j ZG).1):=rfl
   have h7:((((l.getD i vS).2).getD j ZG).2.1)=((((l.getD i vS).2).getD j ZG).2.1):=rfl
   refine qQ qD (gn 6 5++[(11,.yes false)]++gn 13 4++[(17,.gd false (.call [] [(.ssl (zP ((((l.getD i vS).2).getD j ZG).2.2)) 0 (((((l.getD i vS).2).getD j ZG).2.2).length)),(.ssl (zP ((((l.getD i vS).2).getD j ZG).2.2)) 0 (((((l.getD i vS).2).getD j ZG).2.2).length))] [] (bv true) [])),(18,.gd false .no),(19,.yes false)]) [.k3,.d,.d,.k4,.n,.d,.d] [ps 89 (bv false)] (on 6 (bt h6) (on 5 (bt h7) (zO 320 (qfm ((((l.getD i vS).2).getD j ZG).2.2) hb.2 hb.1) (on 2 (bt h7) oz))))<|qO (b:=false) rfl rfl<|qF<|qZ<|qQ qD [] [.k6,.d,.n,.d] [ps 51 (iv (((j:Nat):Int)+1))] (oi (((j:Nat):Int)+1) (by omega) oz) ?_
   exact qq ⟨j+1,by show j+1≤(l.getD i vS).2.length;omega⟩ (Wk.trans (Wk.eq (show _=[ps 0 (.ssl (yD l) 0 l.length),ps 1 (.ssl (yD l) 0 l.length),ps 5 (nv i),ps 15 (nv l.length),ps 16 (nv i),ps 50 (nv (((l.getD i vS).2).length)),ps 51 (nv (j+1))] from by rfl)) (Wk.ren2 _ 0 hc0 [] rfl rfl (by kernel_rfl) (by kernel_rfl))) (show (l.getD i vS).2.length-(j+1)<(l.getD i vS).2.length-j from by show (l.getD i vS).2.length-(j+1)<(l.getD i vS).2.length-j;omega)
  refine qR (qV h5)<|zI rfl rfl<|qZ<|qQ qD [] [.k2,.d,.k1,.d,.n,.d,.d,.d] [ps 16 (iv (((i:Nat):Int)+1))] (oi (((i:Nat):Int)+1) (by omega) oz) ?_
  exact qq ⟨i+1,by show i+1≤l.length;omega⟩ (Wk.trans (Wk.eq (show _=[ps 0 (.ssl (yD l) 0 l.length),ps 1 (.ssl (yD l) 0 l.length),ps 15 (nv l.length),ps 16 (nv (i+1))] from by rfl)) (Wk.ren2 _ 0 hc0 [] rfl rfl (by kernel_rfl) (by kernel_rfl))) (show l.length-(i+1)<l.length-i from by show l.length-(i+1)<l.length-i;omega)
 refine qR (qV h2)<|zI rfl rfl<|qB<|zD qD [] [ps 4 (bv true)] (oz) ?_
 exact qk hc0 [4] []
theorem chL_len {s:zX}:∀ (m:Nat) (ps:List Pt) (a:Nat),(Yx s m ps a).2.1.length≤ps.length+m
 | 0,ps,a=>Nat.zero_le _
 | m+1,ps,a=>by
  rw [Yx]
  split
  ·split
   ·show (ps++[_]).length≤_
    rw [List.length_append,List.length_singleton];omega
   ·have:=chL_len (s:=s) m (ps++[(qJ s a).2.1]) (qA s (qJ s a).2.2)
    rw [List.length_append,List.length_singleton] at this
    omega
  ·exact Nat.zero_le _
theorem Vz:szI zQ:=(qag _).2 ⟨Nat.zero_le _,Nat.zero_le _,by show szL [];rw [szL];trivial⟩
theorem qfx {k n:Int} {ps:List Pt} {b:Int × Int} {ly:zX} {ks:List It} (h1:ps.length≤4096) (h2:ks.length≤4096) (h3:szL ks):szI (.mk k n ps b ly ks) :=
 (qag _).2 ⟨by show ps.length≤_;omega,by show ks.length≤_;omega,h3⟩
theorem Qv:szL []:=by rw [szL];trivial
theorem qis {s:zX} {x:It} {a k:Nat} (h:szI x):szI (vI s x a k).2.1:=by
 unfold vI
 split
 ·split
  ·exact (qag (setL x _)).2 ((qag x).1 h)
  ·exact Vz
 ·exact h
theorem WO {s:zX} {x:It} {a k:Nat} (h:szI x):szI (zw s x a k).2.1:=by
 unfold zw
 split
 ·split
  ·exact qis ((qag (Qw x _)).2 ((qag x).1 h))
  ·exact Vz
 ·exact qis h
theorem qdw (s:zX):∀ (m k:Nat),k<m→k≤4095→(∀ (lv:Int) (a:Nat),szI (qN s lv a k).2.1) ∧
  (∀ (lv:Int) (l:List It) (a:Nat),szL l→l.length+k≤4095→szL (grL s lv l a k).2.1∧(grL s lv l a k).2.1.length≤4096)
 | 0,_,h,_=>absurd h (Nat.not_lt_zero _)
 | m+1,k,hk,hb=>by
  have hgr:0<k→∀ (lv:Int) (a:Nat),szL (yE s lv a (k-1)).2.1∧(yE s lv a (k-1)).2.1.length≤4096:=by
   intro h0 lv a
   rw [jN]
   split
   ·exact (qdw s m (k-1) (by omega) (by omega)).2 lv [] _ Qv (by show 0+(k-1)≤4095;omega)
   ·exact ⟨Qv,Nat.zero_le _⟩
  have hit:∀ (lv:Int) (a:Nat),szI (qN s lv a k).2.1:=by
   intro lv a
   rw [zT]
   split
   ·exact Vz
   rename_i c0
   split
   ·exact WO (qfx (Nat.zero_le _) (Nat.zero_le _) Qv)
   split
   ·exact WO (qfx (Nat.zero_le _) (Nat.zero_le _) Qv)
   split
   ·split
    ·split
     ·have h2:=hgr (by omega) lv (qA s (qA s a+2)+(qC s (qA s a+2)).length)
      exact WO (qfx (Nat.zero_le _) h2.2 h2.1)
     ·exact Vz
    ·exact Vz
   split
   ·split
    ·have h2:=hgr (by omega) lv (qA s a)
     exact WO (qfx (Nat.zero_le _) h2.2 h2.1)
    ·exact Vz
   split
   ·split
    ·have h2:=chL_len (s:=s) 16 [] (qA s a+1)
     exact WO (qfx (Nat.le_trans h2 (by decide)) (Nat.zero_le _) Qv)
    ·exact Vz
   split
   ·exact WO (qfx (by show 1≤4096;omega) (Nat.zero_le _) Qv)
   ·exact Vz
  refine ⟨hit,fun lv l a hl hc=>?_⟩
  rw [qcn]
  split
  ·split
   ·exact ⟨qax hl (hit _ _),by show (l++[_]).length≤4096;rw [List.length_append,List.length_singleton];omega⟩
   split
   ·rename_i c
    exact (qdw s m _ (by omega) (by omega)).2 lv _ _ (qax hl (hit _ _)) (by rw [List.length_append,List.length_singleton];omega)
   ·exact ⟨Qv,Nat.zero_le _⟩
  ·exact ⟨Qv,Nat.zero_le _⟩
theorem sz_itR (s:zX) (lv:Int) (a:Nat) {k:Nat} (h:k≤4095):szI (qN s lv a k).2.1:=(qdw s (k+1) k (Nat.lt_succ_self _) h).1 lv a
theorem sz_brL (s:zX):∀ (m k:Nat),k<m→∀ (l:List It) (a:Nat),szL l→l.length+k≤4095→szL (brL s l a k).2.1∧(brL s l a k).2.1.length≤4096
 | 0,_,h,_,_,_,_=>absurd h (Nat.not_lt_zero _)
 | m+1,k,hk,l,a,hl,hc=>by
  have hx:=sz_itR s 1 a (k:=k) (by omega)
  rw [YR]
  split
  ·split
   ·exact ⟨qax hl hx,by show (l++[_]).length≤4096;rw [List.length_append,List.length_singleton];omega⟩
   split
   ·exact sz_brL s m _ (by omega) _ _ (qax hl hx) (by rw [List.length_append,List.length_singleton];omega)
   ·exact ⟨Qv,Nat.zero_le _⟩
  ·exact ⟨Qv,Nat.zero_le _⟩
theorem qhd:szB ZG:=⟨Nat.zero_le _,Qv⟩
theorem sz_brR (s:zX) (a:Nat):szB (wR s a).2.1:=by
 unfold wR
 split
 ·split
  ·split
   ·split
    ·have h:=sz_brL s 4096 4095 (by decide) [] (qE s (qA s (qE s a).2.2+1)).2.2 Qv (by decide)
     exact ⟨Nat.le_trans h.2 (by decide),h.1⟩
    ·exact qhd
   ·exact qhd
  ·exact qhd
 ·exact qhd
theorem qeq {α:Type} {P:α→Prop} {l:List α} {x:α} (h:∀ y∈l,P y) (hx:P x):∀ y∈l++[x],P y:=fun y hy=>by
 rcases List.mem_append.1 hy with h'|h'
 ·exact h y h'
 ·rw [List.mem_singleton.1 h'];exact hx
theorem sz_vcL (s:zX):∀ (m:Nat) (l:List Br) (a:Nat) (z:Int),(∀ b∈l,szB b)→(∀ b∈(vcL s m l a z).2.1,szB b)∧(vcL s m l a z).2.1.length≤l.length+m
 | 0,l,a,z,h=>by
  rw [vcL]
  split
  ·exact ⟨fun b hb=>absurd hb List.not_mem_nil,Nat.zero_le _⟩
  ·exact ⟨h,Nat.le_refl _⟩
 | m+1,l,a,z,h=>by
  rw [vcL]
  split
  ·split
   ·have:=sz_vcL s m (l++[(wR s (qA s a+1)).2.1]) (wR s (qA s a+1)).2.2.1 (((wR s (qA s a+1)).2.2.2:Nat):Int) (qeq h (sz_brR s _))
    rw [List.length_append,List.length_singleton] at this
    exact ⟨this.1,by omega⟩
   ·exact ⟨fun b hb=>absurd hb List.not_mem_nil,Nat.zero_le _⟩
  ·exact ⟨h,by show l.length≤_;omega⟩
theorem qkm {α:Type} {l:List α} {d:α} {i:Nat} (h:i<l.length):l.getD i d∈l:=by
 rw [List.getD_eq_getElem?_getD,List.getElem?_eq_getElem h]
 exact List.getElem_mem h
theorem sz_dVo:szV vS:=⟨Nat.zero_le _,fun j h=>absurd h (Nat.not_lt_zero _)⟩
theorem sz_vcR (s:zX) (a:Nat) (z:Int):szV (jB s a z).2.1:=by
 unfold jB
 split
 ·split
  ·split
   ·have h:=sz_vcL s 1024 [] (qA s (qA s a+5)+(qC s (qA s a+5)).length) z (fun b hb=>absurd hb List.not_mem_nil)
    exact ⟨Nat.le_trans h.2 (by decide),fun j hj=>h.1 _ (qkm hj)⟩
   ·exact sz_dVo
  ·exact sz_dVo
 ·exact sz_dVo
theorem sz_rdL (s:zX):∀ (m:Nat) (l:List Vo) (a:Nat) (z:Int),(∀ b∈l,szV b)→(∀ b∈(rdL s m l a z).2.1,szV b)∧(rdL s m l a z).2.1.length≤l.length+m
 | 0,l,a,z,h=>by
  rw [rdL]
  split
  ·exact ⟨h,Nat.le_refl _⟩
  ·exact ⟨fun b hb=>absurd hb List.not_mem_nil,Nat.zero_le _⟩
 | m+1,l,a,z,h=>by
  rw [rdL]
  split
  ·exact ⟨h,by show l.length≤_;omega⟩
  split
  ·have:=sz_rdL s m (l++[(jB s (qA s a) z).2.1]) (jB s (qA s a) z).2.2.1 (jB s (qA s a) z).2.2.2 (qeq h (sz_vcR s _ _))
   rw [List.length_append,List.length_singleton] at this
   exact ⟨this.1,by omega⟩
  ·exact ⟨fun b hb=>absurd hb List.not_mem_nil,Nat.zero_le _⟩
theorem sz_read (s:zX):szVs (yX s).2.1∧(yX s).2.1.length≤64:=by
 unfold yX
 split
 ·exact ⟨⟨Nat.zero_le _,fun i h=>absurd h (Nat.not_lt_zero _)⟩,Nat.zero_le _⟩
 ·have h:=sz_rdL s 64 [] 0 0 (fun b hb=>absurd hb List.not_mem_nil)
  have h2:(rdL s 64 [] 0 0).2.1.length≤64:=Nat.le_trans h.2 (by decide)
  exact ⟨⟨by omega,fun i hi=>h.1 _ (qkm hi)⟩,h2⟩
end Go.Proofs.YtmlnilkbolcknaaGreatDoor.Pm
namespace Go.Proofs.YtmlnilkbolcknaaGreatDoor
open Go
section
end

structure Ext (w:World) where
 u:World
 h:RowKit.Below w.heap.size w u
instance Ext.some_ (w:World):Nonempty (Ext w):=⟨⟨w,RowKit.Below.refl _ _⟩⟩
theorem Ext.cells (w:World):∀ (d:Ext w) (b o:Nat),b<w.heap.size→d.u.cell? ⟨b,o,none⟩=w.cell? ⟨b,o,none⟩:=fun d b o h=>d.h.cell (p:=⟨b,o,none⟩) h

section
end
end Go.Proofs.YtmlnilkbolcknaaGreatDoor
namespace Go.Proofs.YtmlnilkbolcknaaGreatDoor.Pi
open Go.RowKit
def I64 (n:Int):Prop := -9223372036854775808≤n∧n≤9223372036854775807
set_option maxHeartbeats 1000000 in
theorem qju (l:Int) (w:World) :
  Calls Tryz.prog 123 #[.int .i64 l] w fun e w'=>e = .returned (.int .i64 (nat7 l))∧w=w':=by
 have h:l=0∨l=1∨l=2∨l=3∨l=4∨l=5∨(¬ l=0∧¬ l=1∧¬ l=2∧¬ l=3∧¬ l=4∧¬ l=5):=by omega
 rcases h with rfl|rfl|rfl|rfl|rfl|rfl|⟨h0,h1,h2,h3,h4,h5⟩
 all_goals
  go_enter Tryz.func123,Tryz.ntmps123
  go_wp2
  go_ret
  exact ⟨qdg (by unfold nat7;omega),rfl⟩

set_option maxHeartbeats 1000000 in
theorem right_any (l a o:Int) (w:World) :
  Calls Tryz.prog 89 #[.agg #[.int .i64 l,.int .i64 a,.int .i64 o]] w fun e w'=>e = .returned (.bool (rightB l a o))∧Below w.heap.size w w':=by
 by_cases h1:0≤l
 ·by_cases h2:l<7
  ·by_cases h3 : -3≤a
   ·by_cases h4:a≤3
    ·by_cases h5 : -12≤o
     ·go_enter Tryz.func89,Tryz.ntmps89
      go_wp2
      go_ret
      refine ⟨vT ?_,(by repeat (first|exact Below.refl _ _|assumption|refine vE ?_ _|refine Below.drew ?_|refine wB ?_ _|refine Below.setCell ?_ (by first|omega|(simp <;> omega)) _|refine vR (by assumption) ?_))⟩
      rw [Bool.eq_iff_iff,rightB_iff];simp;omega
     ·go_enter Tryz.func89,Tryz.ntmps89
      go_wp2
      go_ret
      refine ⟨vT ?_,(by repeat (first|exact Below.refl _ _|assumption|refine vE ?_ _|refine Below.drew ?_|refine wB ?_ _|refine Below.setCell ?_ (by first|omega|(simp <;> omega)) _|refine vR (by assumption) ?_))⟩
      rw [eq_comm,← Bool.not_eq_true,rightB_iff];omega
    ·go_enter Tryz.func89,Tryz.ntmps89
     go_wp2
     go_ret
     refine ⟨vT ?_,(by repeat (first|exact Below.refl _ _|assumption|refine vE ?_ _|refine Below.drew ?_|refine wB ?_ _|refine Below.setCell ?_ (by first|omega|(simp <;> omega)) _|refine vR (by assumption) ?_))⟩
     rw [eq_comm,← Bool.not_eq_true,rightB_iff];omega
   ·go_enter Tryz.func89,Tryz.ntmps89
    go_wp2
    go_ret
    refine ⟨vT ?_,(by repeat (first|exact Below.refl _ _|assumption|refine vE ?_ _|refine Below.drew ?_|refine wB ?_ _|refine Below.setCell ?_ (by first|omega|(simp <;> omega)) _|refine vR (by assumption) ?_))⟩
    rw [eq_comm,← Bool.not_eq_true,rightB_iff];omega
  ·go_enter Tryz.func89,Tryz.ntmps89
   go_wp2
   go_ret
   refine ⟨vT ?_,(by repeat (first|exact Below.refl _ _|assumption|refine vE ?_ _|refine Below.drew ?_|refine wB ?_ _|refine Below.setCell ?_ (by first|omega|(simp <;> omega)) _|refine vR (by assumption) ?_))⟩
   rw [eq_comm,← Bool.not_eq_true,rightB_iff];omega
 ·go_enter Tryz.func89,Tryz.ntmps89
  go_wp2
  go_ret
  refine ⟨vT ?_,(by repeat (first|exact Below.refl _ _|assumption|refine vE ?_ _|refine Below.drew ?_|refine wB ?_ _|refine Below.setCell ?_ (by first|omega|(simp <;> omega)) _|refine vR (by assumption) ?_))⟩
  rw [eq_comm,← Bool.not_eq_true,rightB_iff];omega

set_option maxRecDepth 100000
set_option maxHeartbeats 4000000
def R2 (r:Int × Int):Value:=.tuple #[.int .i64 r.1,.int .i64 r.2]
theorem ret_R2 {r:Int × Int} {a b:Int} (h:r=(a,b)):Ending.returned (.tuple #[.int .i64 a,.int .i64 b]) = .returned (R2 r):=by rw [h];rfl
theorem qdp:wrap64 9223372036854775808 = -9223372036854775808:=by unfold wrap64;decide

theorem within_any (s h:Int) (w:World) (hs:I64 s) (hh:I64 h) :
  Calls Tryz.prog 121 #[.agg #[.int .i64 s,.int .i64 h]] w fun e w'=>e = .returned (.bool (withinB s h))∧Below w.heap.size w w':=by
 unfold I64 at hs hh
 have hw:=qdp
 have cs:s = -9223372036854775808∨(-9223372036854775808<s∧s < -200)∨(-200≤s∧s≤200)∨200<s:=by omega
 have ch:h = -9223372036854775808∨(-9223372036854775808<h∧h < -4096)∨(-4096≤h∧h≤4096)∨4096<h:=by omega
 rcases cs with rfl|⟨c1,c2⟩|⟨c1,c2⟩|c1 <;> rcases ch with rfl|⟨d1,d2⟩|⟨d1,d2⟩|d1
 all_goals
  go_enter Tryz.func121,Tryz.ntmps121
  go_wp2
  all_goals
   go_ret
   refine ⟨vT ?_,(by repeat (first|exact Below.refl _ _|assumption|refine vE ?_ _|refine Below.drew ?_|refine wB ?_ _|refine Below.setCell ?_ (by first|omega|(simp <;> omega)) _|refine vR (by assumption) ?_))⟩
   rw [Bool.eq_iff_iff,withinB_iff]
   simp
   try omega


theorem tq (n k:Int) (hk:0<k):k*n.tdiv k+n.tmod k=n ∧ -k<n.tmod k∧n.tmod k<k:=by
 have h1:=Int.natAbs_tmod n k
 have h2:=Nat.mod_lt n.natAbs (show 0<k.natAbs by omega)
 exact ⟨Int.mul_tdiv_add_tmod n k,by omega,by omega⟩

set_option maxHeartbeats 1000000 in
theorem floor_any (n:Int) (w:World) (h1 : -1000≤n) (h2:n≤1000) :
  Calls Tryz.prog 122 #[.int .i64 n,.int .i64 7] w fun e w'=>e = .returned (R2 (n / 7,n % 7))∧∃ k,w'=w.drewN k:=by
 have t:=tq n 7 (by omega)
 have e1:IntKind.i64.wrap (n.tdiv 7)=n.tdiv 7:=IntWalk.i64_in _ (by omega)
 by_cases hc:n.tmod 7<0
 ·have HR:=Lib.hid (show n.tdiv 7-1=n / 7∧n.tmod 7+7=n % 7 by omega)
  have q1 : -1000≤n.tdiv 7∧n.tdiv 7≤1000:=by omega
  have q2 : -7≤n.tmod 7:=by omega
  clear t
  go_enter Tryz.func122,Tryz.ntmps122
  go_wp2
  go_quiet (fail)
  go_wp2
  go_ret2
  exact ⟨ret_R2 (by rw [HR.out.1,HR.out.2]),nq,rfl⟩
 ·have HR:=Lib.hid (show n.tdiv 7=n / 7∧n.tmod 7=n % 7 by omega)
  have hc':0≤n.tmod 7:=by omega
  clear t
  go_enter Tryz.func122,Tryz.ntmps122
  go_wp2
  go_quiet (fail)
  go_wp2
  go_ret2
  exact ⟨ret_R2 (by rw [HR.out.1,HR.out.2]),nq,rfl⟩

end Go.Proofs.YtmlnilkbolcknaaGreatDoor.Pi
set_option maxRecDepth 100000
set_option maxHeartbeats 4000000
namespace Go.Proofs.YtmlnilkbolcknaaGreatDoor.Pi
open Go.RowKit
theorem qii (n:Int) (w:World) (h1 : -9223372036854775808<n) (h2:n≤9223372036854775807) :
  Calls Tryz.prog 55 #[.int .i64 n] w fun e w'=>e = .returned (.int .i64 (n.natAbs:Int))∧w=w':=by
 go_enter Tryz.func55,Tryz.ntmps55
 go_wp2
 all_goals
  go_ret
  exact ⟨qdg (by omega),rfl⟩
theorem abs_least (w:World) :
  Calls Tryz.prog 55 #[.int .i64 (-9223372036854775808)] w fun e w'=>e = .returned (.int .i64 (-9223372036854775808))∧w=w':=by
 have hw:=qdp
 go_enter Tryz.func55,Tryz.ntmps55
 go_wp2
 go_ret
 exact ⟨qdg hw,rfl⟩

theorem qfn (l a o:Int) (w:World) (ha:I64 a) :
  Calls Tryz.prog 49 #[.agg #[.int .i64 l,.int .i64 a,.int .i64 o]] w fun e w'=>e = .returned (.bool (rightB l a o))∧Below w.heap.size w w':=by
 unfold I64 at ha
 have cl:l<0∨6<l∨(0≤l∧l≤6):=by omega
 have ca:a = -9223372036854775808∨(-9223372036854775808<a∧3<(a.natAbs:Int))∨(-3≤a∧(a.natAbs:Int)≤3):=by omega
 have co:o < -12∨12<o∨(-12≤o∧o≤12):=by omega
 rcases cl with c1|c1|⟨c1,c2⟩
 ·go_enter Tryz.func49,Tryz.ntmps49
  go_wp2
  go_ret
  refine ⟨vT ?_,(by repeat (first|exact Below.refl _ _|assumption|refine vE ?_ _|refine Below.drew ?_|refine wB ?_ _|refine Below.setCell ?_ (by first|omega|(simp <;> omega)) _|refine vR (by assumption) ?_))⟩
  rw [eq_comm,← Bool.not_eq_true,rightB_iff];omega
 ·go_enter Tryz.func49,Tryz.ntmps49
  go_wp2
  go_ret
  refine ⟨vT ?_,(by repeat (first|exact Below.refl _ _|assumption|refine vE ?_ _|refine Below.drew ?_|refine wB ?_ _|refine Below.setCell ?_ (by first|omega|(simp <;> omega)) _|refine vR (by assumption) ?_))⟩
  rw [eq_comm,← Bool.not_eq_true,rightB_iff];omega
 ·rcases ca with rfl|⟨d1,d2⟩|⟨d1,d2⟩
  ·rcases co with k1|k1|⟨k1,k2⟩
   all_goals
    go_enter Tryz.func49,Tryz.ntmps49
    go_wp2_with (go_at_call 55;refine (abs_least _).mono ?_;rintro e w1 ⟨rfl,rfl⟩)
    go_ret
    refine ⟨vT ?_,(by repeat (first|exact Below.refl _ _|assumption|refine vE ?_ _|refine Below.drew ?_|refine wB ?_ _|refine Below.setCell ?_ (by first|omega|(simp <;> omega)) _|refine vR (by assumption) ?_))⟩
    rw [eq_comm,← Bool.not_eq_true,rightB_iff];omega
  ·go_enter Tryz.func49,Tryz.ntmps49
   go_wp2_with (go_at_call 55;refine (qii a _ (by omega) (by omega)).mono ?_;rintro e w1 ⟨rfl,rfl⟩)
   go_ret
   refine ⟨vT ?_,(by repeat (first|exact Below.refl _ _|assumption|refine vE ?_ _|refine Below.drew ?_|refine wB ?_ _|refine Below.setCell ?_ (by first|omega|(simp <;> omega)) _|refine vR (by assumption) ?_))⟩
   rw [eq_comm,← Bool.not_eq_true,rightB_iff];omega
  ·rcases co with k1|k1|⟨k1,k2⟩
   all_goals
    go_enter Tryz.func49,Tryz.ntmps49
    go_wp2_with (go_at_call 55;refine (qii a _ (by omega) (by omega)).mono ?_;rintro e w1 ⟨rfl,rfl⟩)
    go_ret
    refine ⟨vT ?_,(by repeat (first|exact Below.refl _ _|assumption|refine vE ?_ _|refine Below.drew ?_|refine wB ?_ _|refine Below.setCell ?_ (by first|omega|(simp <;> omega)) _|refine vR (by assumption) ?_))⟩
    rw [Bool.eq_iff_iff,rightB_iff]
    simp
    try omega

theorem up_any (l:Int) (w:World) :
  Calls Tryz.prog 114 #[.int .i64 l] w fun e w'=>e = .returned (.int .i64 (up l))∧w=w':=by
 by_cases h2:l=2
 ·subst h2
  go_enter Tryz.func114,Tryz.ntmps114
  go_wp2
  go_ret
  exact ⟨rfl,rfl⟩
 ·by_cases h6:l=6
  ·subst h6
   go_enter Tryz.func114,Tryz.ntmps114
   go_wp2
   go_ret
   exact ⟨rfl,rfl⟩
  ·have HU:=Lib.hid (show up l=2 by unfold up;rw [if_neg (by omega)])
   replace h2:(l == 2)=false:=by simpa using h2
   replace h6:(l == 6)=false:=by simpa using h6
   go_enter Tryz.func114,Tryz.ntmps114
   go_wp2
   go_ret
   exact ⟨qdg HU.out.symm,rfl⟩

set_option maxHeartbeats 2000000 in
theorem white_pos (n:Int) (w:World) (h0:0≤n) (h1:n≤1000) :
  Calls Tryz.prog 81 #[.int .i64 n] w fun e w'=>e = .returned (.int .i64 (white n))∧w=w':=by
 go_enter Tryz.func81,Tryz.ntmps81
 go_wp2
 go_loop [0,3,4] (fun x m l=>∃ t:Int,0≤t∧t≤n∧x = .int .i64 (n-t)∧m = .int .i64 (white t)∧l = .int .i64 (t % 7)) (fun x _ _=>(intOf x).toNat)
 case atStart=>exact ⟨0,by omega,h0,by go_num,by go_num,by go_num⟩
 case round =>
  obtain ⟨t,ht0,ht1,rfl,rfl,rfl⟩:=hrel
  have hb:=white_bd t (by omega)
  have hu:=qil (t % 7)
  have hl:0≤t % 7∧t % 7≤6:=by omega
  have HS:=Lib.hid (qdr t)
  have HL:=Lib.hid (show (t % 7+1) % 7=(t+1) % 7 by omega)
  by_cases hc:t<n
  ·have hc':0<n-t:=by omega
   go_wp2_with (go_at_call 114;refine (up_any (t % 7) _).mono ?_;rintro e w1 ⟨rfl,rfl⟩)
   go_round
   case rel=>exact ⟨t+1,by omega,by omega,by go_num,by rw [HS.out],by rw [HL.out]⟩
   case measure=>(simp [intOf] <;> omega)
  ·obtain rfl:t=n:=by omega
   have hz:t-t=0:=by omega
   go_wp2
   refine wp_loop_rounds 1 ?_
   rw [rounds_succ]
   go_wp2
   go_ret
   exact ⟨rfl,rfl⟩

set_option maxHeartbeats 2000000 in
theorem white_neg (n:Int) (w:World) (h0:n<0) (h1 : -1000≤n) :
  Calls Tryz.prog 81 #[.int .i64 n] w fun e w'=>e = .returned (.int .i64 (white n))∧w=w':=by
 go_enter Tryz.func81,Tryz.ntmps81
 go_wp2
 refine wp_loop_rounds 1 ?_
 rw [rounds_succ]
 go_wp2
 go_loop [0,3,4] (fun x m l=>∃ t:Int,t≤0∧n≤t∧x = .int .i64 (n-t)∧m = .int .i64 (white t)∧l = .int .i64 (t % 7)) (fun x _ _=>(-(intOf x)).toNat)
 case atStart=>exact ⟨0,by omega,by omega,by go_num,by go_num,by go_num⟩
 case round =>
  obtain ⟨t,ht0,ht1,rfl,rfl,rfl⟩:=hrel
  have hb:=white_bd t (by omega)
  have hu:=qil ((t-1) % 7)
  have hl:0≤t % 7∧t % 7≤6:=by omega
  have HS:=Lib.hid (white_pred t)
  have hL:(t % 7+6) % 7=(t-1) % 7:=by omega
  by_cases hc:n<t
  ·have hc':n-t<0:=by omega
   go_wp2_with (go_at_call 114;refine (up_any ((t-1) % 7) _).mono ?_;rintro e w1 ⟨rfl,rfl⟩)
   go_round
   case rel=>exact ⟨t-1,by omega,by omega,by go_num,by rw [HS.out],rfl⟩
   case measure=>(simp [intOf] <;> omega)
  ·obtain rfl:t=n:=by omega
   have hz:t-t=0:=by omega
   go_wp2
   go_ret
   exact ⟨rfl,rfl⟩

theorem white_any (n:Int) (w:World) (h0 : -1000≤n) (h1:n≤1000) :
  Calls Tryz.prog 81 #[.int .i64 n] w fun e w'=>e = .returned (.int .i64 (white n))∧w=w':=by
 by_cases h:0≤n
 ·exact white_pos n w h h1
 ·exact white_neg n w (by omega) h0

theorem qed (s h:Int) (w:World) :
  Calls Tryz.prog 50 #[.agg #[.int .i64 s,.int .i64 h]] w fun e w'=>e = .returned (.bool (withinB s h))∧Below w.heap.size w w':=by
 have cs:s < -200∨200<s∨(-200≤s∧s≤200):=by omega
 have ch:h < -4096∨4096<h∨(-4096≤h∧h≤4096):=by omega
 rcases cs with c1|c1|⟨c1,c2⟩ <;> rcases ch with d1|d1|⟨d1,d2⟩
 all_goals
  go_enter Tryz.func50,Tryz.ntmps50
  go_wp2
  go_ret
  refine ⟨vT ?_,(by repeat (first|exact Below.refl _ _|assumption|refine vE ?_ _|refine Below.drew ?_|refine wB ?_ _|refine Below.setCell ?_ (by first|omega|(simp <;> omega)) _|refine vR (by assumption) ?_))⟩
  rw [Bool.eq_iff_iff,withinB_iff]
  simp
  try omega

end Go.Proofs.YtmlnilkbolcknaaGreatDoor.Pi
namespace Go.Proofs.YtmlnilkbolcknaaGreatDoor.Pm
open Go Go.Proofs.YtmlnilkbolcknaaGreatDoor.Pi
abbrev pitP (l a o:Int):PV:=.agg [iv l,iv a,iv o]
abbrev invP (s h:Int):PV:=.agg [iv s,iv h]
theorem ZS (l:Int):PC Tryz.prog 123 [iv l] [] (iv (Pi.nat7 l)) [] :=
 vW (jA Tryz.func123 (by kernel_rfl) (by kernel_rfl)) rfl rfl fun w=>(qju l w).mono fun _ w' ⟨e1,e2⟩=>⟨e1,e2▸RowKit.Below.refl _ _⟩
theorem qge (l a o:Int):PC Tryz.prog 89 [pitP l a o] [] (bv (rightB l a o)) [] :=
 vW (jA Tryz.func89 (by kernel_rfl) (by kernel_rfl)) rfl rfl fun w=>right_any l a o w
theorem pwithin_pc (s h:Int) (i1:Pi.I64 s) (i2:Pi.I64 h):PC Tryz.prog 121 [invP s h] [] (bv (withinB s h)) [] :=
 vW (jA Tryz.func121 (by kernel_rfl) (by kernel_rfl)) rfl rfl fun w=>within_any s h w i1 i2
theorem YZ (n:Int) (h1 : -1000≤n) (h2:n≤1000):PC Tryz.prog 122 [iv n,iv 7] [] (.tup [iv (n / 7),iv (n % 7)]) [] :=
 vW (jA Tryz.func122 (by kernel_rfl) (by kernel_rfl)) rfl rfl fun w=>(floor_any n w h1 h2).mono fun _ w' ⟨e1,k,e2⟩=>⟨e1,by rw [e2];exact ⟨rfl,rfl,rfl,Nat.le_refl _,fun _ _=>rfl⟩⟩
theorem qaa (l a o:Int) (ha:Pi.I64 a):PC Tryz.prog 49 [pitP l a o] [] (bv (rightB l a o)) [] :=
 vW (jA Tryz.func49 (by kernel_rfl) (by kernel_rfl)) rfl rfl fun w=>qfn l a o w ha
theorem qee (s h:Int):PC Tryz.prog 50 [invP s h] [] (bv (withinB s h)) [] :=
 vW (jA Tryz.func50 (by kernel_rfl) (by kernel_rfl)) rfl rfl fun w=>qed s h w
set_option maxRecDepth 100000
set_option maxHeartbeats 4000000
theorem sign_pc (r:Int):PC Tryz.prog 182 [(.av (.int .i32 r))] [] (.tup [(iv ((zZ r).1)),(bv ((zZ r).2))]) []:=by
 refine zG Tryz.func182 rfl (by kernel_rfl) (Nat.le_of_ble_eq_true rfl) (by kernel_rfl) (l0:=[ps 0 (.av (.int .i32 r))]) rfl (fun c0 Bor hc0=>?_)
 refine qB<|qH qD [.r] []<|qB<|qB<|zD qD [] [ps 4 (.av (.int .i32 r))] (oz)<|qX<|qB<|qB<|qH qD [.k1,.n] [ps 5 (bv (decide (r=9839)))] ?_
 by_cases h1:r=9839
 ·refine qS (qT h1)<|qF<|qS (qT h1)<|qB<|zD qD [] [ps 2 (iv 1),ps 3 (bv true)] (oz) ?_
  rw [show zZ r=(1,true) from by unfold zZ;simp [*]]
  exact qk hc0 [2,3] []
 refine qR (qV h1)<|qH qD [.k1,.d,.n] [ps 5 (bv (decide (r=35)))] ?_
 by_cases h2:r=35
 ·refine qS (qT h2)<|qB<|zD qD [] [ps 2 (iv 1),ps 3 (bv true)] (oz) ?_
  rw [show zZ r=(1,true) from by unfold zZ;simp [*]]
  exact qk hc0 [2,3] []
 refine qR (qV h2)<|qB<|qB<|qH qD [.k1,.d,.n] [ps 8 (bv (decide (r=119082)))] ?_
 by_cases h3:r=119082
 ·refine qS (qT h3)<|qF<|qS (qT h3)<|qB<|zD qD [] [ps 2 (iv 2),ps 3 (bv true)] (oz) ?_
  rw [show zZ r=(2,true) from by unfold zZ;simp [*]]
  exact qk hc0 [2,3] []
 refine qR (qV h3)<|qH qD [.k1,.d,.n] [ps 8 (bv (decide (r=120)))] ?_
 by_cases h4:r=120
 ·refine qS (qT h4)<|qB<|zD qD [] [ps 2 (iv 2),ps 3 (bv true)] (oz) ?_
  rw [show zZ r=(2,true) from by unfold zZ;simp [*]]
  exact qk hc0 [2,3] []
 refine qR (qV h4)<|qB<|qB<|qH qD [.k1,.d,.n] [ps 11 (bv (decide (r=9837)))] ?_
 by_cases h5:r=9837
 ·refine qS (qT h5)<|qF<|qS (qT h5)<|qB<|zD qD [] [ps 2 (iv (-1)),ps 3 (bv true)] (oz) ?_
  rw [show zZ r=(-1,true) from by unfold zZ;simp [*]]
  exact qk hc0 [2,3] []
 refine qR (qV h5)<|qH qD [.k1,.d,.n] [ps 11 (bv (decide (r=98)))] ?_
 by_cases h6:r=98
 ·refine qS (qT h6)<|qB<|zD qD [] [ps 2 (iv (-1)),ps 3 (bv true)] (oz) ?_
  rw [show zZ r=(-1,true) from by unfold zZ;simp [*]]
  exact qk hc0 [2,3] []
 refine qR (qV h6)<|qB<|zD qD [] [ps 14 (bv (decide (r=119083)))] (oz) ?_
 by_cases h7:r=119083
 ·refine qS (qT h7)<|qB<|zD qD [] [ps 2 (iv (-2)),ps 3 (bv true)] (oz) ?_
  rw [show zZ r=(-2,true) from by unfold zZ;simp [*]]
  exact qk hc0 [2,3] []
 refine qR (qV h7)<|qF<|qZ<|qB<|zD qD [] [ps 2 (iv 0),ps 3 (bv false)] (oz) ?_
 rw [show zZ r=(0,false) from by unfold zZ;simp [*]]
 exact qk hc0 [2,3] []
theorem qcl (s:List UInt8) (hs:s.length≤9223372036854775807):PC Tryz.prog 164 [(sv (st s))] [] (.tup [(iv ((qI s).1)),(bv ((qI s).2))]) []:=by
 refine zG Tryz.func164 rfl (by kernel_rfl) (Nat.le_of_ble_eq_true rfl) (by kernel_rfl) (l0:=[ps 0 (sv (st s))]) rfl (fun c0 Bor hc0=>?_)
 refine qB<|qH qD [.r] []<|qB<|yC qD 1 [.k1,.n] [ps 4 (bv (Lib.hasPrefix s ([45]:TX)))] (zO 24 (qbn s ([45]:TX)) oz)<|qB<|qB<|qH qD [.k2,.n] [ps 9 (bv (Lib.hasPrefix s ([45]:TX)))] ?_
 by_cases h1:(Lib.hasPrefix s ([45]:TX))=true
 ·refine qL (b:=(Lib.hasPrefix s ([45]:TX))) rfl h1 ?_
  have hp1:=pre_len h1
  refine qQ qD [(1,.val (.av (.string (st (s.drop 1)))))] [.d,.n,.k1,.d] [ps 0 (sv (st (s.drop 1)))] (oc (by first|omega|(simp <;> omega):(0:Int)≤(1:Int)∧(1:Int)≤(s.length:Int)∧(s.length:Int)≤(s.length:Int)) (oc (ww _ _ _ rfl:(st s).extract ((1:Int):Int).toNat (((s.length:Nat):Int):Int).toNat=st (s.drop 1)) oz))<|qB<|qB ?_
  by_cases h2:(s.drop 1)=([]:TX)
  ·refine qQ qD ([(1,.val (.av (.bool (decide ((s.drop 1)=([]:TX))))))]++gy 3 3++[(6,.yes true)]++gy 8 4++[(18,.gd true .no)]++gy 21 3) [.k2,.n] [ps 36 (bv true)] (oc (qv _ _:((st (s.drop 1)).toList == (st ([]:TX)).toList)=decide ((s.drop 1)=([]:TX))) (on 4 (qT h2) (on 8 tt oz)))<|qL (b:=true) rfl rfl<|qB<|zD qD [] [ps 2 (iv 0),ps 3 (bv false)] (oz) ?_
   rw [jQ (s:=s) (by rw [Zz h1];exact .inl h2)]
   exact qk hc0 [2,3] []
  by_cases h3:4<(((s.drop 1).length:Nat):Int)
  ·refine qQ qD ([(1,.val (.av (.bool (decide ((s.drop 1)=([]:TX))))))]++gn 3 3++[(6,.yes false)]++gy 8 4++[(18,.gd true .no),(19,.yes true)]++gy 21 3) [.k2,.n] [ps 36 (bv true)] (oc (qv _ _:((st (s.drop 1)).toList == (st ([]:TX)).toList)=decide ((s.drop 1)=([]:TX))) (on 4 (qV h2) (on 6 (qT h3) (on 3 tt oz))))<|qL (b:=true) rfl rfl<|qB<|zD qD [] [ps 2 (iv 0),ps 3 (bv false)] (oz) ?_
   rw [jQ (s:=s) (by rw [Zz h1];exact .inr (.inl (by omega)))]
   exact qk hc0 [2,3] []
  by_cases h4:((((s.drop 1).getD 0 0).toNat:Nat):Int)=48
  ·by_cases h5:1<(((s.drop 1).length:Nat):Int)
   ·refine qQ qD ([(1,.val (.av (.bool (decide ((s.drop 1)=([]:TX))))))]++gn 3 3++[(6,.yes false)]++gn 8 4++gy 12 5++[(17,.gd true (.yes true)),(18,.gd false (.yes true)),(19,.yes false)]++gy 21 3) [.k2,.n] [ps 36 (bv true)] (oc (qv _ _:((st (s.drop 1)).toList == (st ([]:TX)).toList)=decide ((s.drop 1)=([]:TX))) (on 4 (qV h2) (on 2 (qV h3) (oc (by have:=List.length_pos_iff.2 h2;omega:(0:Int)≤0∧0<(((s.drop 1).length:Nat):Int)) (on 2 (qV h3) (on 4 (qT h4) (oc (qT h5) (oc (qT h4) (oc (qT h5) (oc (qV h3) (oc (qT h4) (oc (qV h3) (on 3 tt oz)))))))))))))<|qL (b:=true) rfl rfl<|qB<|zD qD [] [ps 2 (iv 0),ps 3 (bv false)] (oz) ?_
    rw [jQ (s:=s) (by rw [Zz h1];exact .inr (.inr (.inl ⟨by omega,.inl (by omega)⟩)))]
    exact qk hc0 [2,3] []
   refine qQ qD ([(1,.val (.av (.bool (decide ((s.drop 1)=([]:TX))))))]++gn 3 3++[(6,.yes false)]++gn 8 4++gy 12 4++[(16,.gd false .no),(17,.gd true (.yes false)),(18,.gd false (.yes true)),(19,.yes false)]++gy 21 3++[(24,.yes true)]) [.k2,.n] [ps 36 (bv true)] (oc (qv _ _:((st (s.drop 1)).toList == (st ([]:TX)).toList)=decide ((s.drop 1)=([]:TX))) (on 4 (qV h2) (on 2 (qV h3) (oc (by have:=List.length_pos_iff.2 h2;omega:(0:Int)≤0∧0<(((s.drop 1).length:Nat):Int)) (on 2 (qV h3) (on 4 (qT h4) (oc (qV h5) (oc (qT h4) (oc (qV h5) (oc (qV h3) (oc (qT h4) (oc (qV h3) (on 4 (h1:(Lib.hasPrefix s ([45]:TX))=true) oz)))))))))))))<|qL (b:=true) rfl rfl<|qB<|zD qD [] [ps 2 (iv 0),ps 3 (bv false)] (oz) ?_
   rw [jQ (s:=s) (by rw [Zz h1];exact .inr (.inr (.inl ⟨by omega,.inr h1⟩)))]
   exact qk hc0 [2,3] []
  refine qQ qD ([(1,.val (.av (.bool (decide ((s.drop 1)=([]:TX))))))]++gn 3 3++[(6,.yes false)]++gn 8 8++[(17,.gd false .no),(18,.gd false (.yes false)),(19,.yes false),(21,.gd false .no),(22,.gd false (.call [] [(sv (st (s.drop 1))),(sv (st digs))] [] (sv (st (Lib.trimS (s.drop 1) digs))) [])),(23,.gd false (.val (.av (.bool (!decide ((Lib.trimS (s.drop 1) digs)=([]:TX)))))))]) [.k2,.n] [ps 36 (bv (!(decide ((Lib.trimS (s.drop 1) digs)=([]:TX)))))] (oc (qv _ _:((st (s.drop 1)).toList == (st ([]:TX)).toList)=decide ((s.drop 1)=([]:TX))) (on 4 (qV h2) (on 2 (qV h3) (oc (by have:=List.length_pos_iff.2 h2;omega:(0:Int)≤0∧0<(((s.drop 1).length:Nat):Int)) (on 2 (qV h3) (on 5 (qV h4) (oc (qV h3) (oc (qV h4) (oc (qV h3) (on 2 ff (zO 248 (yR (s.drop 1) digs (by rw [List.length_drop];omega) (by decide) QN) (oc ff (oc (yW _ _:(!((st (Lib.trimS (s.drop 1) digs)).toList == (st ([]:TX)).toList)) = !decide ((Lib.trimS (s.drop 1) digs)=([]:TX))) oz))))))))))))) ?_
  by_cases h6:(Lib.trimS (s.drop 1) digs)=([]:TX)
  ·refine qR (bt h6)<|qF<|qB ?_
   have hv:=qdl (ZM (m:=Lib.hasPrefix s [45]) (t:=(s.drop 1)) h2 h3 (.inl h4) h6)
   refine yC qD 1 [.d,.k1,.n,.d] [ps 5 (iv (yG (s.drop 1)))] (zO 280 (qbw (s.drop 1) _ (by omega) hv.1:PC Tryz.prog 137 [(sv (st (s.drop 1)))] [] (.tup [(iv (yG (s.drop 1))),(.av .nilIface)]) []) oz)<|qB<|qB<|qH qD [.d,.k1,.n] [ps 42 (bv (Lib.hasPrefix s ([45]:TX)))]<|qL (b:=(Lib.hasPrefix s ([45]:TX))) rfl h1<|zD qD [] [ps 5 (iv (0-(yG (s.drop 1))))] (oi (0-(yG (s.drop 1))) (by omega) oz)<|qB<|zD qD [] [ps 2 (iv (0-(yG (s.drop 1)))),ps 3 (bv true)] (oz) ?_
   rw [qjt (s:=s) (ZM (m:=Lib.hasPrefix s [45]) (t:=(s.drop 1)) h2 h3 (.inl h4) h6) h1]
   exact qk hc0 [2,3] []
  refine qS (bf h6)<|qB<|zD qD [] [ps 2 (iv 0),ps 3 (bv false)] (oz) ?_
  rw [jQ (s:=s) (by rw [Zz h1];exact .inr (.inr (.inr h6)))]
  exact qk hc0 [2,3] []
 refine qO (b:=(Lib.hasPrefix s ([45]:TX))) rfl (Bool.eq_false_iff.2 h1)<|qF<|qB<|qB ?_
 by_cases h7:s=([]:TX)
 ·refine qQ qD ([(1,.val (.av (.bool (decide (s=([]:TX))))))]++gy 3 3++[(6,.yes true)]++gy 8 4++[(18,.gd true .no)]++gy 21 3) [.k2,.d,.n] [ps 36 (bv true)] (oc (qv _ _:((st s).toList == (st ([]:TX)).toList)=decide (s=([]:TX))) (on 4 (qT h7) (on 8 tt oz)))<|qL (b:=true) rfl rfl<|qB<|zD qD [] [ps 2 (iv 0),ps 3 (bv false)] (oz) ?_
  rw [jQ (s:=s) (by rw [jT h1];exact .inl h7)]
  exact qk hc0 [2,3] []
 by_cases h8:4<(s.length:Int)
 ·refine qQ qD ([(1,.val (.av (.bool (decide (s=([]:TX))))))]++gn 3 3++[(6,.yes false)]++gy 8 4++[(18,.gd true .no),(19,.yes true)]++gy 21 3) [.k2,.d,.n] [ps 36 (bv true)] (oc (qv _ _:((st s).toList == (st ([]:TX)).toList)=decide (s=([]:TX))) (on 4 (qV h7) (on 6 (qT h8) (on 3 tt oz))))<|qL (b:=true) rfl rfl<|qB<|zD qD [] [ps 2 (iv 0),ps 3 (bv false)] (oz) ?_
  rw [jQ (s:=s) (by rw [jT h1];exact .inr (.inl (by omega)))]
  exact qk hc0 [2,3] []
 by_cases h9:(((s.getD 0 0).toNat:Nat):Int)=48
 ·by_cases h10:1<(s.length:Int)
  ·refine qQ qD ([(1,.val (.av (.bool (decide (s=([]:TX))))))]++gn 3 3++[(6,.yes false)]++gn 8 4++gy 12 5++[(17,.gd true (.yes true)),(18,.gd false (.yes true)),(19,.yes false)]++gy 21 3) [.k2,.d,.n] [ps 36 (bv true)] (oc (qv _ _:((st s).toList == (st ([]:TX)).toList)=decide (s=([]:TX))) (on 4 (qV h7) (on 2 (qV h8) (oc (by have:=List.length_pos_iff.2 h7;omega:(0:Int)≤0∧0<(s.length:Int)) (on 2 (qV h8) (on 4 (qT h9) (oc (qT h10) (oc (qT h9) (oc (qT h10) (oc (qV h8) (oc (qT h9) (oc (qV h8) (on 3 tt oz)))))))))))))<|qL (b:=true) rfl rfl<|qB<|zD qD [] [ps 2 (iv 0),ps 3 (bv false)] (oz) ?_
   rw [jQ (s:=s) (by rw [jT h1];exact .inr (.inr (.inl ⟨by omega,.inl (by omega)⟩)))]
   exact qk hc0 [2,3] []
  refine qQ qD ([(1,.val (.av (.bool (decide (s=([]:TX))))))]++gn 3 3++[(6,.yes false)]++gn 8 4++gy 12 4++[(16,.gd false .no),(17,.gd true (.yes false)),(18,.gd false (.yes true)),(19,.yes false),(21,.gd false .no),(22,.gd false (.call [] [(sv (st s)),(sv (st digs))] [] (sv (st (Lib.trimS s digs))) [])),(23,.gd false (.val (.av (.bool (!decide ((Lib.trimS s digs)=([]:TX))))))),(24,.yes false)]) [.k2,.d,.n] [ps 36 (bv (!(decide ((Lib.trimS s digs)=([]:TX)))))] (oc (qv _ _:((st s).toList == (st ([]:TX)).toList)=decide (s=([]:TX))) (on 4 (qV h7) (on 2 (qV h8) (oc (by have:=List.length_pos_iff.2 h7;omega:(0:Int)≤0∧0<(s.length:Int)) (on 2 (qV h8) (on 4 (qT h9) (oc (qV h10) (oc (qT h9) (oc (qV h10) (oc (qV h8) (oc (qT h9) (oc (qV h8) (oc (Bool.eq_false_iff.2 h1:(Lib.hasPrefix s ([45]:TX))=false) (oc (Bool.eq_false_iff.2 h1:(Lib.hasPrefix s ([45]:TX))=false) (zO 224 (yR s digs hs (by decide) QN) (oc (Bool.eq_false_iff.2 h1:(Lib.hasPrefix s ([45]:TX))=false) (oc (yW _ _:(!((st (Lib.trimS s digs)).toList == (st ([]:TX)).toList)) = !decide ((Lib.trimS s digs)=([]:TX))) (oc (Bool.eq_false_iff.2 h1:(Lib.hasPrefix s ([45]:TX))=false) oz)))))))))))))))))) ?_
  by_cases h11:(Lib.trimS s digs)=([]:TX)
  ·refine qR (bt h11)<|qF<|qB ?_
   have hv:=qdl (ZM (m:=Lib.hasPrefix s [45]) (t:=s) h7 h8 (.inr ⟨h10,h1⟩) h11)
   refine yC qD 1 [.d,.k1,.n,.d] [ps 5 (iv (yG s))] (zO 256 (qbw s _ (by omega) hv.1:PC Tryz.prog 137 [(sv (st s))] [] (.tup [(iv (yG s)),(.av .nilIface)]) []) oz)<|qB<|qB<|qH qD [.d,.k1,.n] [ps 42 (bv (Lib.hasPrefix s ([45]:TX)))]<|qO (b:=(Lib.hasPrefix s ([45]:TX))) rfl (Bool.eq_false_iff.2 h1)<|qF<|qB<|zD qD [] [ps 2 (iv (yG s)),ps 3 (bv true)] (oz) ?_
   rw [qen (s:=s) (ZM (m:=Lib.hasPrefix s [45]) (t:=s) h7 h8 (.inr ⟨h10,h1⟩) h11) h1]
   exact qk hc0 [2,3] []
  refine qS (bf h11)<|qB<|zD qD [] [ps 2 (iv 0),ps 3 (bv false)] (oz) ?_
  rw [jQ (s:=s) (by rw [jT h1];exact .inr (.inr (.inr h11)))]
  exact qk hc0 [2,3] []
 refine qQ qD ([(1,.val (.av (.bool (decide (s=([]:TX))))))]++gn 3 3++[(6,.yes false)]++gn 8 8++[(17,.gd false .no),(18,.gd false (.yes false)),(19,.yes false),(21,.gd false .no),(22,.gd false (.call [] [(sv (st s)),(sv (st digs))] [] (sv (st (Lib.trimS s digs))) [])),(23,.gd false (.val (.av (.bool (!decide ((Lib.trimS s digs)=([]:TX)))))))]) [.k2,.d,.n] [ps 36 (bv (!(decide ((Lib.trimS s digs)=([]:TX)))))] (oc (qv _ _:((st s).toList == (st ([]:TX)).toList)=decide (s=([]:TX))) (on 4 (qV h7) (on 2 (qV h8) (oc (by have:=List.length_pos_iff.2 h7;omega:(0:Int)≤0∧0<(s.length:Int)) (on 2 (qV h8) (on 5 (qV h9) (oc (qV h8) (oc (qV h9) (oc (qV h8) (on 2 ff (zO 224 (yR s digs hs (by decide) QN) (oc ff (oc (yW _ _:(!((st (Lib.trimS s digs)).toList == (st ([]:TX)).toList)) = !decide ((Lib.trimS s digs)=([]:TX))) oz))))))))))))) ?_
 by_cases h12:(Lib.trimS s digs)=([]:TX)
 ·refine qR (bt h12)<|qF<|qB ?_
  have hv:=qdl (ZM (m:=Lib.hasPrefix s [45]) (t:=s) h7 h8 (.inl h9) h12)
  refine yC qD 1 [.d,.k1,.n,.d] [ps 5 (iv (yG s))] (zO 256 (qbw s _ (by omega) hv.1:PC Tryz.prog 137 [(sv (st s))] [] (.tup [(iv (yG s)),(.av .nilIface)]) []) oz)<|qB<|qB<|qH qD [.d,.k1,.n] [ps 42 (bv (Lib.hasPrefix s ([45]:TX)))]<|qO (b:=(Lib.hasPrefix s ([45]:TX))) rfl (Bool.eq_false_iff.2 h1)<|qF<|qB<|zD qD [] [ps 2 (iv (yG s)),ps 3 (bv true)] (oz) ?_
  rw [qen (s:=s) (ZM (m:=Lib.hasPrefix s [45]) (t:=s) h7 h8 (.inl h9) h12) h1]
  exact qk hc0 [2,3] []
 refine qS (bf h12)<|qB<|zD qD [] [ps 2 (iv 0),ps 3 (bv false)] (oz) ?_
 rw [jQ (s:=s) (by rw [jT h1];exact .inr (.inr (.inr h12)))]
 exact qk hc0 [2,3] []
theorem jR (n:Int) (h1 : -9223372036854775808<n) (h2:n≤9223372036854775807):PC Tryz.prog 55 [iv n] [] (iv (n.natAbs:Int)) [] :=
 vW (jA Tryz.func55 (by kernel_rfl) (by kernel_rfl)) rfl rfl fun w=>(qii n w h1 h2).mono fun _ w' ⟨e1,e2⟩=>⟨e1,e2▸RowKit.Below.refl _ _⟩
theorem YU (n:Int) (h0 : -1000≤n) (h1:n≤1000):PC Tryz.prog 81 [iv n] [] (iv (white n)) [] :=
 vW (jA Tryz.func81 (by kernel_rfl) (by kernel_rfl)) rfl rfl fun w=>(white_any n w h0 h1).mono fun _ w' ⟨e1,e2⟩=>⟨e1,e2▸RowKit.Below.refl _ _⟩
theorem qdb (n:Int) (h0 : -9223372036854775807≤n) (h1:n≤9223372036854775807) (ih:∀ m:Int,0≤m→m≤9223372036854775807→(n<0∨m<n)→PC Tryz.prog 33 [iv m] [] (sv (st (Lib.itoa m))) []):PC Tryz.prog 33 [(iv n)] [] (sv (st (Lib.itoa n))) []:=by
 refine zG Tryz.func33 rfl (by kernel_rfl) (Nat.le_of_ble_eq_true rfl) (by kernel_rfl) (l0:=[ps 0 (iv n)]) rfl (fun c0 Bor hc0=>?_)
 refine qB<|qH qD [.r] []<|qB<|qB<|qH qD [.k1,.n] [ps 4 (bv (decide (n<0)))] ?_
 by_cases h1:n<0
 ·refine qS (qT h1)<|qB ?_
  have hl1:=Lib.itoa_length_le (0-n) (by omega) (by omega)
  refine zD qD [(2,.call [] [(iv (0-n))] [] (sv (st (Lib.itoa (0-n)))) []),(3,.val (.av (.string (st (([45]:TX)++(Lib.itoa (0-n)))))))] [ps 2 (sv (st (([45]:TX)++(Lib.itoa (0-n)))))] (oi (0-n) (by omega) (zO 40 (ih (0-n) (by omega) (by omega) (.inl (by omega))) (oc (by first|omega|(simp only [List.length_append,List.length_cons,List.length_nil];omega):((([45]:TX).length+(Lib.itoa (0-n)).length:Nat):Int)≤9223372036854775807) (oc (qy _ _:st ([45]:TX)++st (Lib.itoa (0-n))=st (([45]:TX)++(Lib.itoa (0-n)))) oz)))) ?_
  rw [← itoa_min h1]
  exact qk hc0 [2] []
 refine qR (qV h1)<|qF<|qB<|qB<|zD qD [] [ps 0 (iv n),ps 10 (bv (decide (n<10)))] (oz) ?_
 by_cases h2:n<10
 ·refine qS (qT h2)<|qB<|zD qD [(4,.val (.av (.string (st [UInt8.ofNat (48+n).toNat]))))] [ps 2 (sv (st [UInt8.ofNat (48+n).toNat]))] (oi (48+n) (by omega) (oc (by simp only [InK];omega:InK .u8 (48+n)) (oc (⟨Nat.le_refl 1,Nat.le_refl 1,bytes_one (by omega) (by omega)⟩:0<1∧0+1≤([(.av (.int .u8 (48+n)))]:List PV).length∧(([(.av (.int .u8 (48+n)))]:List PV).drop 0).take 1=YG (st [UInt8.ofNat (48+n).toNat])) oz))) ?_
  rw [itoa_dig (by omega) h2]
  exact qk hc0 [2] []
 refine qR (qV h2)<|qF<|qB ?_
 have hq:=quo_bd h2
 have hl1:=Lib.itoa_length_le (n.tdiv 10) (by omega) (by omega)
 have hl2:=Lib.itoa_length_le (n.tmod 10) (by omega) (by omega)
 refine zD qD [(2,.call [] [(iv ((n).tdiv 10))] [] (sv (st (Lib.itoa ((n).tdiv 10)))) []),(5,.call [] [(iv ((n).tmod 10))] [] (sv (st (Lib.itoa ((n).tmod 10)))) []),(6,.val (.av (.string (st ((Lib.itoa ((n).tdiv 10))++(Lib.itoa ((n).tmod 10)))))))] [ps 2 (sv (st ((Lib.itoa ((n).tdiv 10))++(Lib.itoa ((n).tmod 10)))))] (oc (by decide:10≠(0:Int)) (oi ((n).tdiv 10) (by omega) (zO 56 (ih ((n).tdiv 10) (by omega) (by omega) (.inr (by omega))) (oc (by decide:10≠(0:Int)) (zO 80 (ih ((n).tmod 10) (by omega) (by omega) (.inr (by omega))) (oc (by first|omega|(simp <;> omega):(((Lib.itoa ((n).tdiv 10)).length+(Lib.itoa ((n).tmod 10)).length:Nat):Int)≤9223372036854775807) (oc (qy _ _:st (Lib.itoa ((n).tdiv 10))++st (Lib.itoa ((n).tmod 10))=st ((Lib.itoa ((n).tdiv 10))++(Lib.itoa ((n).tmod 10)))) oz))))))) ?_
 rw [← itoa_app h2]
 exact qk hc0 [2] []
theorem qfc:∀ (u:Nat),∀ n:Int,0≤n→n≤9223372036854775807→n.toNat<u→PC Tryz.prog 33 [iv n] [] (sv (st (Lib.itoa n))) []
 | 0,n,_,_,h=>by omega
 | u+1,n,h0,h1,h=>qdb n (by omega) h1 fun m a b c=>qfc u m a b (by omega)
theorem zV (n:Int) (h0 : -9223372036854775807≤n) (h1:n≤9223372036854775807):PC Tryz.prog 33 [iv n] [] (sv (st (Lib.itoa n))) [] :=
 qdb n h0 h1 fun m a b _=>qfc (m.toNat+1) m a b (by omega)
theorem letter_pc (k:Nat) (hk:k<7):PC Tryz.prog 96 [(nv k)] [] (sv (st ((letB.drop k).take 1))) []:=by
 refine zG Tryz.func96 rfl (by kernel_rfl) (Nat.le_of_ble_eq_true rfl) (by kernel_rfl) (l0:=[ps 0 (nv k)]) rfl (fun c0 Bor hc0=>?_)
 refine qB<|qH qD [.r] []<|qB ?_
 by_cases h1:k=0
 ·refine zD qD [(2,.nat 0)] [ps 2 (sv (st ([67]:TX)))] (oc (by omega:(0:Int)≤(k:Int)∧(k:Int)<((7:Nat):Int)) (oc (by omega:0+(((k:Nat):Int):Int).toNat*1=0) oz)) ?_
  rw [show (letB.drop k).take 1=_ from congrArg (fun z=>(letB.drop z).take 1) h1]
  exact qk hc0 [2] []
 by_cases h2:k=1
 ·refine zD qD [(2,.nat 1)] [ps 2 (sv (st ([68]:TX)))] (oc (by omega:(0:Int)≤(k:Int)∧(k:Int)<((7:Nat):Int)) (oc (by omega:0+(((k:Nat):Int):Int).toNat*1=1) oz)) ?_
  rw [show (letB.drop k).take 1=_ from congrArg (fun z=>(letB.drop z).take 1) h2]
  exact qk hc0 [2] []
 by_cases h3:k=2
 ·refine zD qD [(2,.nat 2)] [ps 2 (sv (st ([69]:TX)))] (oc (by omega:(0:Int)≤(k:Int)∧(k:Int)<((7:Nat):Int)) (oc (by omega:0+(((k:Nat):Int):Int).toNat*1=2) oz)) ?_
  rw [show (letB.drop k).take 1=_ from congrArg (fun z=>(letB.drop z).take 1) h3]
  exact qk hc0 [2] []
 by_cases h4:k=3
 ·refine zD qD [(2,.nat 3)] [ps 2 (sv (st ([70]:TX)))] (oc (by omega:(0:Int)≤(k:Int)∧(k:Int)<((7:Nat):Int)) (oc (by omega:0+(((k:Nat):Int):Int).toNat*1=3) oz)) ?_
  rw [show (letB.drop k).take 1=_ from congrArg (fun z=>(letB.drop z).take 1) h4]
  exact qk hc0 [2] []
 by_cases h5:k=4
 ·refine zD qD [(2,.nat 4)] [ps 2 (sv (st ([71]:TX)))] (oc (by omega:(0:Int)≤(k:Int)∧(k:Int)<((7:Nat):Int)) (oc (by omega:0+(((k:Nat):Int):Int).toNat*1=4) oz)) ?_
  rw [show (letB.drop k).take 1=_ from congrArg (fun z=>(letB.drop z).take 1) h5]
  exact qk hc0 [2] []
 by_cases h6:k=5
 ·refine zD qD [(2,.nat 5)] [ps 2 (sv (st ([65]:TX)))] (oc (by omega:(0:Int)≤(k:Int)∧(k:Int)<((7:Nat):Int)) (oc (by omega:0+(((k:Nat):Int):Int).toNat*1=5) oz)) ?_
  rw [show (letB.drop k).take 1=_ from congrArg (fun z=>(letB.drop z).take 1) h6]
  exact qk hc0 [2] []
 by_cases h7:k=6
 ·refine zD qD [(2,.nat 6)] [ps 2 (sv (st ([66]:TX)))] (oc (by omega:(0:Int)≤(k:Int)∧(k:Int)<((7:Nat):Int)) (oc (by omega:0+(((k:Nat):Int):Int).toNat*1=6) oz)) ?_
  rw [show (letB.drop k).take 1=_ from congrArg (fun z=>(letB.drop z).take 1) h7]
  exact qk hc0 [2] []
 ·exfalso;omega
theorem wY (s:List UInt8) (n:Nat) (t:List UInt8) (hs:s.length≤140737488355328) (hn:n≤140737488355328) (hl:t.length≤100) (ht:t≠[]):PC Tryz.prog 110 [(sv (st s)),(nv n),(sv (st t))] [] (bv (Lib.hasPrefix (s.drop n) t)) []:=by
 refine zG Tryz.func110 rfl (by kernel_rfl) (Nat.le_of_ble_eq_true rfl) (by kernel_rfl) (l0:=[ps 0 (sv (st s)),ps 1 (nv n),ps 2 (sv (st t))]) rfl (fun c0 Bor hc0=>?_)
 refine qB<|qH qD [.r] []<|qB ?_
 by_cases h1:(((n:Nat):Int)+(t.length:Int))≤(s.length:Int)
 ·refine zD qD (gy 8 6++[(14,.gd true (.val (.av (.string (st ((s.drop n).take t.length)))))),(15,.gd true .no),(16,.gd true (.val (.av (.bool (decide (((s.drop n).take t.length)=t)))))),(17,.yes true)]) [ps 6 (bv (decide (((s.drop n).take t.length)=t)))] (oi (((n:Nat):Int)+(t.length:Int)) (by omega) (on 6 (qT h1) (oi (((n:Nat):Int)+(t.length:Int)) (by omega) (oc (qT h1) (oc (by first|omega|(simp <;> omega):(0:Int)≤(n:Int)∧(n:Int)≤(((n:Nat):Int)+(t.length:Int))∧(((n:Nat):Int)+(t.length:Int))≤(s.length:Int)) (oc (by rw [ZP];congr 2;omega:(st s).extract (((n:Nat):Int):Int).toNat (((n:Int)+(t.length:Int)):Int).toNat=st ((s.drop n).take t.length)) (on 2 (qT h1) (oc (qv _ _:((st ((s.drop n).take t.length)).toList == (st t).toList)=decide (((s.drop n).take t.length)=t)) (oc (qT h1) oz)))))))))<|qj (Wk.eq (show _=[ps 6 (bv (Lib.hasPrefix (s.drop n) t))] from by rw [show decide (((s.drop n).take t.length)=t)=Lib.hasPrefix (s.drop n) t from by rw [Bool.eq_iff_iff,decide_eq_true_iff,← qah ht];exact ⟨fun c=>⟨by omega,c⟩,fun c=>c.2⟩])) ?_
  exact qk hc0 [6] []
 refine zD qD (gn 8 9++[(17,.yes false)]) [ps 6 (bv false)] (oi (((n:Nat):Int)+(t.length:Int)) (by omega) (on 10 (qV h1) oz)) ?_
 rw [qhf (s:=s) (t:=t) (n:=n) ht (by omega)]
 exact qk hc0 [6] []
theorem yS (c:UInt8) (n:Int) (h0:0≤n) (h1:n≤1000):PC Tryz.prog 97 [(sv (st [c])),(iv n)] [] (sv (st (Lib.repeatL [c] n.toNat))) []:=by
 refine zG Tryz.func97 rfl (by kernel_rfl) (Nat.le_of_ble_eq_true rfl) (by kernel_rfl) (l0:=[ps 0 (sv (st [c])),ps 1 (iv n)]) rfl (fun c0 Bor hc0=>?_)
 refine qB<|qH qD [.r] []<|qB<|qH qD [.k2,.n] [ps 5 se]<|qB<|qB<|qH qD [.k3,.n] [ps 6 (iv 0)]<|qX<|zy (α:={x:Nat // (x:Int)≤n}) (fun x=>[ps 0 (sv (st [c])),ps 1 (iv n),ps 5 (sv (st (Lib.repeatL [c] x.1))),ps 6 (nv x.1)]) (fun x=>n.toNat-x.1) 0 ⟨0,by show ((0:Nat):Int)≤n;omega⟩ (Wk.ren2 _ 0 hc0 [] rfl rfl (by kernel_rfl) (by kernel_rfl)) ?_
 rintro ⟨k,hk⟩
 refine qB<|qB<|zD qD [] [ps 0 (sv (st [c])),ps 1 (iv n),ps 5 (sv (st (Lib.repeatL [c] k))),ps 6 (nv k),ps 9 (bv (decide (((k:Nat):Int)<n)))] (oz) ?_
 by_cases h1:(k:Int)<n
 ·refine qS (qT h1)<|qF<|qB<|qX ?_
  have hl:=yH c k
  refine qQ qD [(2,.val (.av (.string (st ((Lib.repeatL [c] k)++[c])))))] [.k2,.d,.n,.k1,.d] [ps 5 (sv (st ((Lib.repeatL [c] k)++[c])))] (oc (by first|omega|(simp <;> omega):(((Lib.repeatL [c] k).length+[c].length:Nat):Int)≤9223372036854775807) (oc (qy _ _:st (Lib.repeatL [c] k)++st [c]=st ((Lib.repeatL [c] k)++[c])) oz))<|qZ<|qQ qD [] [.k3,.d,.n] [ps 6 (iv (((k:Nat):Int)+1))] (oi (((k:Nat):Int)+1) (by omega) oz) ?_
  exact qq ⟨k+1,by show ((k+1:Nat):Int)≤n;omega⟩ (Wk.trans (Wk.eq (show _=[ps 0 (sv (st [c])),ps 1 (iv n),ps 5 (sv (st (Lib.repeatL [c] (k+1)))),ps 6 (nv (k+1))] from by rw [← qjb];rfl)) (Wk.ren2 _ 0 hc0 [] rfl rfl (by kernel_rfl) (by kernel_rfl))) (show n.toNat-(k+1)<n.toNat-k from by show n.toNat-(k+1)<n.toNat-k;omega)
 refine qR (qV h1)<|zI rfl rfl<|qB<|zD qD [] [ps 4 (sv (st (Lib.repeatL [c] k)))] (oz) ?_
 rw [show n.toNat=k from by omega]
 exact qk hc0 [4] []
theorem wq (s:List UInt8) (hs:s.length≤140737488355328):PC Tryz.prog 111 [(sv (st s))] [] (.tup [(iv ((qI s).1)),(bv ((qI s).2))]) []:=by
 refine zG Tryz.func111 rfl (by kernel_rfl) (Nat.le_of_ble_eq_true rfl) (by kernel_rfl) (l0:=[ps 0 (sv (st s))]) rfl (fun c0 Bor hc0=>?_)
 refine qB<|qH qD [.r] []<|qB<|qH qD [.k1,.n] [ps 4 (iv 0)]<|qB<|qB ?_
 by_cases h1:0<(s.length:Int)
 ·refine qQ qD (gy 4 3++[(7,.yes true)]) [.k2,.n] [ps 14 (bv (decide ((((s.getD 0 0).toNat:Nat):Int)=45)))] (on 2 (qT h1) (oc (by first|omega|(simp <;> omega):(0:Int)≤0∧0<(s.length:Int)) (on 2 (qT h1) oz))) ?_
  by_cases h2:(((s.getD 0 0).toNat:Nat):Int)=45
  ·refine qS (qT h2)<|zD qD [] [ps 0 (sv (st s)),ps 4 (iv 1)] (oz)<|qB<|qH qD [.k2,.n] [ps 5 (iv 0)]<|qB<|qB ?_
   have hi:((1:Nat)=1∧Lib.hasPrefix s [45]=true)∨((1:Nat)=0∧Lib.hasPrefix s [45]=false):=.inl ⟨rfl,(by rw [qjv (by omega)];exact qT h2)⟩
   refine qH qD [.k3,.n] [ps 6 (iv 1)]<|qX<|zy (α:={x:Nat × Int // 1≤x.1∧x.1≤s.length∧(∀ b∈(s.take x.1).drop 1,b∈digs)∧x.2=WE 0 ((s.take x.1).drop 1)}) (fun x=>[ps 0 (sv (st s)),ps 4 (iv 1),ps 5 (iv x.1.2),ps 6 (nv x.1.1)]) (fun x=>s.length-x.1.1) 0 ⟨(1,0),⟨Nat.le_refl _,by show 1≤s.length;omega,by show ∀ b∈(s.take 1).drop 1,b∈digs;rw [List.drop_eq_nil_of_le (show (s.take 1).length≤1 from by rw [List.length_take];omega)];simp,by show 0=WE 0 ((s.take 1).drop 1);rw [List.drop_eq_nil_of_le (show (s.take 1).length≤1 from by rw [List.length_take];omega)];rfl⟩⟩ (Wk.ren2 _ 0 hc0 [] rfl rfl (by kernel_rfl) (by kernel_rfl)) ?_
   rintro ⟨⟨k,n⟩,⟨hk1,hk2,hd,hn⟩⟩
   dsimp only at hk1 hk2 hd hn
   refine qB<|qB<|zD qD [] [ps 0 (sv (st s)),ps 4 (iv 1),ps 5 (iv n),ps 6 (nv k),ps 19 (bv (decide (((k:Nat):Int)<(s.length:Int))))] (oz) ?_
   by_cases h3:(k:Int)<(s.length:Int)
   ·refine qS (qT h3)<|qF<|qB<|qX<|qB<|qB ?_
    by_cases h4:(((s.getD k 0).toNat:Nat):Int)<48
    ·refine qQ qD (gy 5 4++[(9,.yes true)]) [.k4,.d,.n] [ps 31 (bv true)] (oc (by first|omega|(simp <;> omega):(0:Int)≤(k:Int)∧(k:Int)<(s.length:Int)) (on 5 (qT h4) oz))<|qL (b:=true) rfl rfl<|qB<|zD qD [] [ps 2 (iv 0),ps 3 (bv false)] (oz) ?_
     rw [jU (s:=s) (i:=1) (k:=k) hi hk1 (by omega) (qeo (.inl h4))]
     exact yk fun cx_ a_ hI_=>zB (rt hc0 [ps 2 (iv 0),ps 3 (bv false)] [] hI_)
    refine qQ qD (gn 5 4++[(9,.yes false)]) [.k4,.d,.n] [ps 31 (bv (decide (57<(((s.getD k 0).toNat:Nat):Int))))] (oc (by first|omega|(simp <;> omega):(0:Int)≤(k:Int)∧(k:Int)<(s.length:Int)) (on 3 (qV h4) (oc (by first|omega|(simp <;> omega):(0:Int)≤(k:Int)∧(k:Int)<(s.length:Int)) (on 2 (qV h4) oz)))) ?_
    by_cases h5:57<(((s.getD k 0).toNat:Nat):Int)
    ·refine qS (qT h5)<|qB<|zD qD [] [ps 2 (iv 0),ps 3 (bv false)] (oz) ?_
     rw [jU (s:=s) (i:=1) (k:=k) hi hk1 (by omega) (qeo (.inr h5))]
     exact yk fun cx_ a_ hI_=>zB (rt hc0 [ps 2 (iv 0),ps 3 (bv false)] [] hI_)
    refine qR (qV h5)<|qF<|qQ qD [(1,.wrap),(5,.wrap),(6,.wrap),(7,.wrap)] [.k2,.d,.n,.k1,.d] [ps 5 (iv (IntKind.wrap .i64 ((IntKind.wrap .i64 (10*n))+(IntKind.wrap .i64 (IntKind.wrap .u8 ((((s.getD k 0).toNat:Nat):Int)-48))))))] (oc (by first|omega|(simp <;> omega):(0:Int)≤(k:Int)∧(k:Int)<(s.length:Int)) oz)<|qZ<|qQ qD [] [.k3,.d,.n] [ps 6 (iv (((k:Nat):Int)+1))] (oi (((k:Nat):Int)+1) (by omega) oz) ?_
    have hts:=vw (s:=s) hk1 (by omega)
    exact qq ⟨(k+1,Zq n (s.getD k 0)),⟨by show 1≤k+1;omega,by show k+1≤s.length;omega,by show ∀ b∈(s.take (k+1)).drop 1,b∈digs;rw [hts];intro b hb;rcases List.mem_append.1 hb with hb|hb;exact hd b hb;rw [List.mem_singleton.1 hb];exact isdig h4 h5,by show Zq n (s.getD k 0)=WE 0 ((s.take (k+1)).drop 1);rw [hts,Wj,← hn]⟩⟩ (Wk.trans (Wk.eq (show _=[ps 0 (sv (st s)),ps 4 (iv 1),ps 5 (iv (Zq n (s.getD k 0))),ps 6 (nv (k+1))] from by rfl)) (Wk.ren2 _ 0 hc0 [] rfl rfl (by kernel_rfl) (by kernel_rfl))) (show s.length-(k+1)<s.length-k from by show s.length-(k+1)<s.length-k;omega)
   refine qR (qV h3)<|zI rfl rfl<|qB<|qB ?_
   have hk3:k=s.length:=by omega
   rw [hk3,List.take_length] at hd hn
   by_cases h6:(((s.length:Nat):Int)-1)<1
   ·refine qQ qD (gy 6 5++[(11,.yes true)]++gy 13 5++[(27,.gd true .no)]) [.d,.k2,.d,.d,.n] [ps 68 (bv true)] (oi (((s.length:Nat):Int)-1) (by omega) (on 6 (qT h6) (on 6 tt oz)))<|qL (b:=true) rfl rfl<|qB<|zD qD [] [ps 2 (iv 0),ps 3 (bv false)] (oz) ?_
    rw [wJ (s:=s) (i:=1) hi (.inl (by omega))]
    exact qk hc0 [2,3] []
   by_cases h7:4<(((s.length:Nat):Int)-1)
   ·refine qQ qD (gn 6 5++[(11,.yes false)]++gy 13 5++[(27,.gd true .no),(28,.yes true)]) [.d,.k2,.d,.d,.n] [ps 68 (bv true)] (oi (((s.length:Nat):Int)-1) (by omega) (on 4 (qV h6) (oi (((s.length:Nat):Int)-1) (by omega) (on 2 (qV h6) (on 7 (qT h7) oz)))))<|qL (b:=true) rfl rfl<|qB<|zD qD [] [ps 2 (iv 0),ps 3 (bv false)] (oz) ?_
    rw [wJ (s:=s) (i:=1) hi (.inr (.inl (by omega)))]
    exact qk hc0 [2,3] []
   by_cases h8:(((s.getD 1 0).toNat:Nat):Int)=48
   ·by_cases h9:1<(((s.length:Nat):Int)-1)
    ·refine qQ qD (gn 6 5++[(11,.yes false)]++gn 13 5++gy 18 8++[(26,.gd true (.yes true)),(27,.gd false (.yes true)),(28,.yes false)]) [.d,.k2,.d,.d,.n] [ps 68 (bv true)] (oi (((s.length:Nat):Int)-1) (by omega) (on 4 (qV h6) (oi (((s.length:Nat):Int)-1) (by omega) (on 2 (qV h6) (on 3 (qV h7) (oc (by first|omega|(simp <;> omega):(0:Int)≤1∧1<(s.length:Int)) (on 2 (qV h7) (on 4 (qT h8) (oi (((s.length:Nat):Int)-1) (by omega) (on 2 (qT h8) (on 2 (qT h9) (oc (qT h8) (oc (qT h9) (oc (qV h7) (oc (qT h8) (oc (qV h7) oz))))))))))))))))<|qL (b:=true) rfl rfl<|qB<|zD qD [] [ps 2 (iv 0),ps 3 (bv false)] (oz) ?_
     rw [wJ (s:=s) (i:=1) hi (.inr (.inr ⟨h8,by omega⟩))]
     exact qk hc0 [2,3] []
    refine qQ qD (gn 6 5++[(11,.yes false)]++gn 13 5++gy 18 6++gn 24 2++[(26,.gd true (.yes false)),(27,.gd false (.yes true)),(28,.yes false)]) [.d,.k2,.d,.d,.n] [ps 68 (bv true)] (oi (((s.length:Nat):Int)-1) (by omega) (on 4 (qV h6) (oi (((s.length:Nat):Int)-1) (by omega) (on 2 (qV h6) (on 3 (qV h7) (oc (by first|omega|(simp <;> omega):(0:Int)≤1∧1<(s.length:Int)) (on 2 (qV h7) (on 4 (qT h8) (oi (((s.length:Nat):Int)-1) (by omega) (on 2 (qT h8) (on 2 (qV h9) (oc (qT h8) (oc (qV h9) (oc (qV h7) (oc (qT h8) (oc (qV h7) oz))))))))))))))))<|qL (b:=true) rfl rfl<|qB<|zD qD [] [ps 2 (iv 0),ps 3 (bv false)] (oz) ?_
    rw [wJ (s:=s) (i:=1) hi (.inr (.inr ⟨h8,by omega⟩))]
    exact qk hc0 [2,3] []
   refine qQ qD (gn 6 5++[(11,.yes false)]++gn 13 11++[(26,.gd false .no),(27,.gd false (.yes false)),(28,.yes false)]) [.d,.k2,.d,.d,.n] [ps 68 (bv false)] (oi (((s.length:Nat):Int)-1) (by omega) (on 4 (qV h6) (oi (((s.length:Nat):Int)-1) (by omega) (on 2 (qV h6) (on 3 (qV h7) (oc (by first|omega|(simp <;> omega):(0:Int)≤1∧1<(s.length:Int)) (on 2 (qV h7) (on 7 (qV h8) (oc (qV h7) (oc (qV h8) (oc (qV h7) oz)))))))))))<|qO (b:=false) rfl rfl<|qF<|qB<|qB<|zD qD [] [ps 5 (iv n),ps 70 (bv true)] (oz)<|qL (b:=true) rfl rfl ?_
   have hb:=num_bd2 (i:=1) hn hd (by omega) (by omega)
   refine zD qD [] [ps 5 (iv (0-n))] (oi (0-n) (by omega) oz)<|qB<|zD qD [] [ps 2 (iv (0-n)),ps 3 (bv true)] (oz) ?_
   rw [YX (s:=s) (i:=1) hi hn hd (by omega) (by omega) (fun c=>h8 c.1),if_pos rfl]
   exact qk hc0 [2,3] []
  refine qR (qV h2)<|qF<|qB<|qH qD [.k2,.n,.d] [ps 5 (iv 0)]<|qB<|qB ?_
  have hi:((0:Nat)=1∧Lib.hasPrefix s [45]=true)∨((0:Nat)=0∧Lib.hasPrefix s [45]=false):=.inr ⟨rfl,(by rw [qjv (by omega)];exact qV h2)⟩
  refine qH qD [.k3,.n] [ps 6 (iv 0)]<|qX<|zy (α:={x:Nat × Int // 0≤x.1∧x.1≤s.length∧(∀ b∈(s.take x.1).drop 0,b∈digs)∧x.2=WE 0 ((s.take x.1).drop 0)}) (fun x=>[ps 0 (sv (st s)),ps 4 (iv 0),ps 5 (iv x.1.2),ps 6 (nv x.1.1)]) (fun x=>s.length-x.1.1) 0 ⟨(0,0),⟨Nat.le_refl _,by show 0≤s.length;omega,by show ∀ b∈(s.take 0).drop 0,b∈digs;rw [List.drop_eq_nil_of_le (show (s.take 0).length≤0 from by rw [List.length_take];omega)];simp,by show 0=WE 0 ((s.take 0).drop 0);rw [List.drop_eq_nil_of_le (show (s.take 0).length≤0 from by rw [List.length_take];omega)];rfl⟩⟩ (Wk.ren2 _ 0 hc0 [] rfl rfl (by kernel_rfl) (by kernel_rfl)) ?_
  rintro ⟨⟨k,n⟩,⟨hk1,hk2,hd,hn⟩⟩
  dsimp only at hk1 hk2 hd hn
  refine qB<|qB<|zD qD [] [ps 0 (sv (st s)),ps 4 (iv 0),ps 5 (iv n),ps 6 (nv k),ps 19 (bv (decide (((k:Nat):Int)<(s.length:Int))))] (oz) ?_
  by_cases h10:(k:Int)<(s.length:Int)
  ·refine qS (qT h10)<|qF<|qB<|qX<|qB<|qB ?_
   by_cases h11:(((s.getD k 0).toNat:Nat):Int)<48
   ·refine qQ qD (gy 5 4++[(9,.yes true)]) [.k4,.d,.n] [ps 31 (bv true)] (oc (by first|omega|(simp <;> omega):(0:Int)≤(k:Int)∧(k:Int)<(s.length:Int)) (on 5 (qT h11) oz))<|qL (b:=true) rfl rfl<|qB<|zD qD [] [ps 2 (iv 0),ps 3 (bv false)] (oz) ?_
    rw [jU (s:=s) (i:=0) (k:=k) hi hk1 (by omega) (qeo (.inl h11))]
    exact yk fun cx_ a_ hI_=>zB (rt hc0 [ps 2 (iv 0),ps 3 (bv false)] [] hI_)
   refine qQ qD (gn 5 4++[(9,.yes false)]) [.k4,.d,.n] [ps 31 (bv (decide (57<(((s.getD k 0).toNat:Nat):Int))))] (oc (by first|omega|(simp <;> omega):(0:Int)≤(k:Int)∧(k:Int)<(s.length:Int)) (on 3 (qV h11) (oc (by first|omega|(simp <;> omega):(0:Int)≤(k:Int)∧(k:Int)<(s.length:Int)) (on 2 (qV h11) oz)))) ?_
   by_cases h12:57<(((s.getD k 0).toNat:Nat):Int)
   ·refine qS (qT h12)<|qB<|zD qD [] [ps 2 (iv 0),ps 3 (bv false)] (oz) ?_
    rw [jU (s:=s) (i:=0) (k:=k) hi hk1 (by omega) (qeo (.inr h12))]
    exact yk fun cx_ a_ hI_=>zB (rt hc0 [ps 2 (iv 0),ps 3 (bv false)] [] hI_)
   refine qR (qV h12)<|qF<|qQ qD [(1,.wrap),(5,.wrap),(6,.wrap),(7,.wrap)] [.k2,.d,.n,.k1,.d] [ps 5 (iv (IntKind.wrap .i64 ((IntKind.wrap .i64 (10*n))+(IntKind.wrap .i64 (IntKind.wrap .u8 ((((s.getD k 0).toNat:Nat):Int)-48))))))] (oc (by first|omega|(simp <;> omega):(0:Int)≤(k:Int)∧(k:Int)<(s.length:Int)) oz)<|qZ<|qQ qD [] [.k3,.d,.n] [ps 6 (iv (((k:Nat):Int)+1))] (oi (((k:Nat):Int)+1) (by omega) oz) ?_
   have hts:=vw (s:=s) hk1 (by omega)
   exact qq ⟨(k+1,Zq n (s.getD k 0)),⟨by show 0≤k+1;omega,by show k+1≤s.length;omega,by show ∀ b∈(s.take (k+1)).drop 0,b∈digs;rw [hts];intro b hb;rcases List.mem_append.1 hb with hb|hb;exact hd b hb;rw [List.mem_singleton.1 hb];exact isdig h11 h12,by show Zq n (s.getD k 0)=WE 0 ((s.take (k+1)).drop 0);rw [hts,Wj,← hn]⟩⟩ (Wk.trans (Wk.eq (show _=[ps 0 (sv (st s)),ps 4 (iv 0),ps 5 (iv (Zq n (s.getD k 0))),ps 6 (nv (k+1))] from by rfl)) (Wk.ren2 _ 0 hc0 [] rfl rfl (by kernel_rfl) (by kernel_rfl))) (show s.length-(k+1)<s.length-k from by show s.length-(k+1)<s.length-k;omega)
  refine qR (qV h10)<|zI rfl rfl<|qB<|qB ?_
  have hk3:k=s.length:=by omega
  rw [hk3,List.take_length] at hd hn
  by_cases h13:(((s.length:Nat):Int)-0)<1
  ·refine qQ qD (gy 6 5++[(11,.yes true)]++gy 13 5++[(27,.gd true .no)]) [.d,.k2,.d,.d,.n] [ps 68 (bv true)] (oi (((s.length:Nat):Int)-0) (by omega) (on 6 (qT h13) (on 6 tt oz)))<|qL (b:=true) rfl rfl<|qB<|zD qD [] [ps 2 (iv 0),ps 3 (bv false)] (oz) ?_
   rw [wJ (s:=s) (i:=0) hi (.inl (by omega))]
   exact qk hc0 [2,3] []
  by_cases h14:4<(((s.length:Nat):Int)-0)
  ·refine qQ qD (gn 6 5++[(11,.yes false)]++gy 13 5++[(27,.gd true .no),(28,.yes true)]) [.d,.k2,.d,.d,.n] [ps 68 (bv true)] (oi (((s.length:Nat):Int)-0) (by omega) (on 4 (qV h13) (oi (((s.length:Nat):Int)-0) (by omega) (on 2 (qV h13) (on 7 (qT h14) oz)))))<|qL (b:=true) rfl rfl<|qB<|zD qD [] [ps 2 (iv 0),ps 3 (bv false)] (oz) ?_
   rw [wJ (s:=s) (i:=0) hi (.inr (.inl (by omega)))]
   exact qk hc0 [2,3] []
  by_cases h15:(((s.getD 0 0).toNat:Nat):Int)=48
  ·by_cases h16:1<(((s.length:Nat):Int)-0)
   ·refine qQ qD (gn 6 5++[(11,.yes false)]++gn 13 5++gy 18 8++[(26,.gd true (.yes true)),(27,.gd false (.yes true)),(28,.yes false)]) [.d,.k2,.d,.d,.n] [ps 68 (bv true)] (oi (((s.length:Nat):Int)-0) (by omega) (on 4 (qV h13) (oi (((s.length:Nat):Int)-0) (by omega) (on 2 (qV h13) (on 3 (qV h14) (oc (by first|omega|(simp <;> omega):(0:Int)≤0∧0<(s.length:Int)) (on 2 (qV h14) (on 4 (qT h15) (oi (((s.length:Nat):Int)-0) (by omega) (on 2 (qT h15) (on 2 (qT h16) (oc (qT h15) (oc (qT h16) (oc (qV h14) (oc (qT h15) (oc (qV h14) oz))))))))))))))))<|qL (b:=true) rfl rfl<|qB<|zD qD [] [ps 2 (iv 0),ps 3 (bv false)] (oz) ?_
    rw [wJ (s:=s) (i:=0) hi (.inr (.inr ⟨h15,by omega⟩))]
    exact qk hc0 [2,3] []
   refine qQ qD (gn 6 5++[(11,.yes false)]++gn 13 5++gy 18 6++gn 24 2++[(26,.gd true (.yes false)),(27,.gd false (.yes true)),(28,.yes false)]) [.d,.k2,.d,.d,.n] [ps 68 (bv false)] (oi (((s.length:Nat):Int)-0) (by omega) (on 4 (qV h13) (oi (((s.length:Nat):Int)-0) (by omega) (on 2 (qV h13) (on 3 (qV h14) (oc (by first|omega|(simp <;> omega):(0:Int)≤0∧0<(s.length:Int)) (on 2 (qV h14) (on 4 (qT h15) (oi (((s.length:Nat):Int)-0) (by omega) (on 2 (qT h15) (on 2 (qV h16) (oc (qT h15) (oc (qV h16) (oc (qV h14) (oc (qT h15) (oc (qV h14) oz))))))))))))))))<|qO (b:=false) rfl rfl<|qF<|qB<|qB<|zD qD [] [ps 5 (iv n),ps 70 (bv false)] (oz)<|qO (b:=false) rfl rfl<|qF<|qB<|zD qD [] [ps 2 (iv n),ps 3 (bv true)] (oz) ?_
   rw [YX (s:=s) (i:=0) hi hn hd (by omega) (by omega) (fun c=>by omega),if_neg (by decide)]
   exact qk hc0 [2,3] []
  refine qQ qD (gn 6 5++[(11,.yes false)]++gn 13 11++[(26,.gd false .no),(27,.gd false (.yes false)),(28,.yes false)]) [.d,.k2,.d,.d,.n] [ps 68 (bv false)] (oi (((s.length:Nat):Int)-0) (by omega) (on 4 (qV h13) (oi (((s.length:Nat):Int)-0) (by omega) (on 2 (qV h13) (on 3 (qV h14) (oc (by first|omega|(simp <;> omega):(0:Int)≤0∧0<(s.length:Int)) (on 2 (qV h14) (on 7 (qV h15) (oc (qV h14) (oc (qV h15) (oc (qV h14) oz)))))))))))<|qO (b:=false) rfl rfl<|qF<|qB<|qB<|zD qD [] [ps 5 (iv n),ps 70 (bv false)] (oz)<|qO (b:=false) rfl rfl<|qF<|qB<|zD qD [] [ps 2 (iv n),ps 3 (bv true)] (oz) ?_
  rw [YX (s:=s) (i:=0) hi hn hd (by omega) (by omega) (fun c=>h15 c.1),if_neg (by decide)]
  exact qk hc0 [2,3] []
 refine qQ qD (gn 4 3++[(7,.yes false)]) [.k2,.n] [ps 14 (bv false)] (on 4 (qV h1) oz)<|qO (b:=false) rfl rfl<|qF<|qB<|qH qD [.k2,.n,.d] [ps 5 (iv 0)]<|qB<|qB ?_
 have hi:((0:Nat)=1∧Lib.hasPrefix s [45]=true)∨((0:Nat)=0∧Lib.hasPrefix s [45]=false):=.inr ⟨rfl,(by rw [show s=[] from List.eq_nil_of_length_eq_zero (by omega)];rfl)⟩
 refine qH qD [.k3,.n] [ps 6 (iv 0)]<|qX<|zy (α:={x:Nat × Int // 0≤x.1∧x.1≤s.length∧(∀ b∈(s.take x.1).drop 0,b∈digs)∧x.2=WE 0 ((s.take x.1).drop 0)}) (fun x=>[ps 0 (sv (st s)),ps 4 (iv 0),ps 5 (iv x.1.2),ps 6 (nv x.1.1)]) (fun x=>s.length-x.1.1) 0 ⟨(0,0),⟨Nat.le_refl _,by show 0≤s.length;omega,by show ∀ b∈(s.take 0).drop 0,b∈digs;rw [List.drop_eq_nil_of_le (show (s.take 0).length≤0 from by rw [List.length_take];omega)];simp,by show 0=WE 0 ((s.take 0).drop 0);rw [List.drop_eq_nil_of_le (show (s.take 0).length≤0 from by rw [List.length_take];omega)];rfl⟩⟩ (Wk.ren2 _ 0 hc0 [] rfl rfl (by kernel_rfl) (by kernel_rfl)) ?_
 rintro ⟨⟨k,n⟩,⟨hk1,hk2,hd,hn⟩⟩
 dsimp only at hk1 hk2 hd hn
 refine qB<|qB<|zD qD [] [ps 0 (sv (st s)),ps 4 (iv 0),ps 5 (iv n),ps 6 (nv k),ps 19 (bv (decide (((k:Nat):Int)<(s.length:Int))))] (oz) ?_
 by_cases h17:(k:Int)<(s.length:Int)
 ·refine qS (qT h17)<|qF<|qB<|qX<|qB<|qB ?_
  by_cases h18:(((s.getD k 0).toNat:Nat):Int)<48
  ·refine qQ qD (gy 5 4++[(9,.yes true)]) [.k4,.d,.n] [ps 31 (bv true)] (oc (by first|omega|(simp <;> omega):(0:Int)≤(k:Int)∧(k:Int)<(s.length:Int)) (on 5 (qT h18) oz))<|qL (b:=true) rfl rfl<|qB<|zD qD [] [ps 2 (iv 0),ps 3 (bv false)] (oz) ?_
   rw [jU (s:=s) (i:=0) (k:=k) hi hk1 (by omega) (qeo (.inl h18))]
   exact yk fun cx_ a_ hI_=>zB (rt hc0 [ps 2 (iv 0),ps 3 (bv false)] [] hI_)
  refine qQ qD (gn 5 4++[(9,.yes false)]) [.k4,.d,.n] [ps 31 (bv (decide (57<(((s.getD k 0).toNat:Nat):Int))))] (oc (by first|omega|(simp <;> omega):(0:Int)≤(k:Int)∧(k:Int)<(s.length:Int)) (on 3 (qV h18) (oc (by first|omega|(simp <;> omega):(0:Int)≤(k:Int)∧(k:Int)<(s.length:Int)) (on 2 (qV h18) oz)))) ?_
  by_cases h19:57<(((s.getD k 0).toNat:Nat):Int)
  ·refine qS (qT h19)<|qB<|zD qD [] [ps 2 (iv 0),ps 3 (bv false)] (oz) ?_
   rw [jU (s:=s) (i:=0) (k:=k) hi hk1 (by omega) (qeo (.inr h19))]
   exact yk fun cx_ a_ hI_=>zB (rt hc0 [ps 2 (iv 0),ps 3 (bv false)] [] hI_)
  refine qR (qV h19)<|qF<|qQ qD [(1,.wrap),(5,.wrap),(6,.wrap),(7,.wrap)] [.k2,.d,.n,.k1,.d] [ps 5 (iv (IntKind.wrap .i64 ((IntKind.wrap .i64 (10*n))+(IntKind.wrap .i64 (IntKind.wrap .u8 ((((s.getD k 0).toNat:Nat):Int)-48))))))] (oc (by first|omega|(simp <;> omega):(0:Int)≤(k:Int)∧(k:Int)<(s.length:Int)) oz)<|qZ<|qQ qD [] [.k3,.d,.n] [ps 6 (iv (((k:Nat):Int)+1))] (oi (((k:Nat):Int)+1) (by omega) oz) ?_
  have hts:=vw (s:=s) hk1 (by omega)
  exact qq ⟨(k+1,Zq n (s.getD k 0)),⟨by show 0≤k+1;omega,by show k+1≤s.length;omega,by show ∀ b∈(s.take (k+1)).drop 0,b∈digs;rw [hts];intro b hb;rcases List.mem_append.1 hb with hb|hb;exact hd b hb;rw [List.mem_singleton.1 hb];exact isdig h18 h19,by show Zq n (s.getD k 0)=WE 0 ((s.take (k+1)).drop 0);rw [hts,Wj,← hn]⟩⟩ (Wk.trans (Wk.eq (show _=[ps 0 (sv (st s)),ps 4 (iv 0),ps 5 (iv (Zq n (s.getD k 0))),ps 6 (nv (k+1))] from by rfl)) (Wk.ren2 _ 0 hc0 [] rfl rfl (by kernel_rfl) (by kernel_rfl))) (show s.length-(k+1)<s.length-k from by show s.length-(k+1)<s.length-k;omega)
 refine qR (qV h17)<|zI rfl rfl<|qB<|qB ?_
 have hk3:k=s.length:=by omega
 rw [hk3,List.take_length] at hd hn
 by_cases h20:(((s.length:Nat):Int)-0)<1
 ·refine qQ qD (gy 6 5++[(11,.yes true)]++gy 13 5++[(27,.gd true .no)]) [.d,.k2,.d,.d,.n] [ps 68 (bv true)] (oi (((s.length:Nat):Int)-0) (by omega) (on 6 (qT h20) (on 6 tt oz)))<|qL (b:=true) rfl rfl<|qB<|zD qD [] [ps 2 (iv 0),ps 3 (bv false)] (oz) ?_
  rw [wJ (s:=s) (i:=0) hi (.inl (by omega))]
  exact qk hc0 [2,3] []
 by_cases h21:4<(((s.length:Nat):Int)-0)
 ·refine qQ qD (gn 6 5++[(11,.yes false)]++gy 13 5++[(27,.gd true .no),(28,.yes true)]) [.d,.k2,.d,.d,.n] [ps 68 (bv true)] (oi (((s.length:Nat):Int)-0) (by omega) (on 4 (qV h20) (oi (((s.length:Nat):Int)-0) (by omega) (on 2 (qV h20) (on 7 (qT h21) oz)))))<|qL (b:=true) rfl rfl<|qB<|zD qD [] [ps 2 (iv 0),ps 3 (bv false)] (oz) ?_
  rw [wJ (s:=s) (i:=0) hi (.inr (.inl (by omega)))]
  exact qk hc0 [2,3] []
 by_cases h22:(((s.getD 0 0).toNat:Nat):Int)=48
 ·by_cases h23:1<(((s.length:Nat):Int)-0)
  ·refine qQ qD (gn 6 5++[(11,.yes false)]++gn 13 5++gy 18 8++[(26,.gd true (.yes true)),(27,.gd false (.yes true)),(28,.yes false)]) [.d,.k2,.d,.d,.n] [ps 68 (bv true)] (oi (((s.length:Nat):Int)-0) (by omega) (on 4 (qV h20) (oi (((s.length:Nat):Int)-0) (by omega) (on 2 (qV h20) (on 3 (qV h21) (oc (by first|omega|(simp <;> omega):(0:Int)≤0∧0<(s.length:Int)) (on 2 (qV h21) (on 4 (qT h22) (oi (((s.length:Nat):Int)-0) (by omega) (on 2 (qT h22) (on 2 (qT h23) (oc (qT h22) (oc (qT h23) (oc (qV h21) (oc (qT h22) (oc (qV h21) oz))))))))))))))))<|qL (b:=true) rfl rfl<|qB<|zD qD [] [ps 2 (iv 0),ps 3 (bv false)] (oz) ?_
   rw [wJ (s:=s) (i:=0) hi (.inr (.inr ⟨h22,by omega⟩))]
   exact qk hc0 [2,3] []
  refine qQ qD (gn 6 5++[(11,.yes false)]++gn 13 5++gy 18 6++gn 24 2++[(26,.gd true (.yes false)),(27,.gd false (.yes true)),(28,.yes false)]) [.d,.k2,.d,.d,.n] [ps 68 (bv false)] (oi (((s.length:Nat):Int)-0) (by omega) (on 4 (qV h20) (oi (((s.length:Nat):Int)-0) (by omega) (on 2 (qV h20) (on 3 (qV h21) (oc (by first|omega|(simp <;> omega):(0:Int)≤0∧0<(s.length:Int)) (on 2 (qV h21) (on 4 (qT h22) (oi (((s.length:Nat):Int)-0) (by omega) (on 2 (qT h22) (on 2 (qV h23) (oc (qT h22) (oc (qV h23) (oc (qV h21) (oc (qT h22) (oc (qV h21) oz))))))))))))))))<|qO (b:=false) rfl rfl<|qF<|qB<|qB<|zD qD [] [ps 5 (iv n),ps 70 (bv false)] (oz)<|qO (b:=false) rfl rfl<|qF<|qB<|zD qD [] [ps 2 (iv n),ps 3 (bv true)] (oz) ?_
  rw [YX (s:=s) (i:=0) hi hn hd (by omega) (by omega) (fun c=>by omega),if_neg (by decide)]
  exact qk hc0 [2,3] []
 refine qQ qD (gn 6 5++[(11,.yes false)]++gn 13 11++[(26,.gd false .no),(27,.gd false (.yes false)),(28,.yes false)]) [.d,.k2,.d,.d,.n] [ps 68 (bv false)] (oi (((s.length:Nat):Int)-0) (by omega) (on 4 (qV h20) (oi (((s.length:Nat):Int)-0) (by omega) (on 2 (qV h20) (on 3 (qV h21) (oc (by first|omega|(simp <;> omega):(0:Int)≤0∧0<(s.length:Int)) (on 2 (qV h21) (on 7 (qV h22) (oc (qV h21) (oc (qV h22) (oc (qV h21) oz)))))))))))<|qO (b:=false) rfl rfl<|qF<|qB<|qB<|zD qD [] [ps 5 (iv n),ps 70 (bv false)] (oz)<|qO (b:=false) rfl rfl<|qF<|qB<|zD qD [] [ps 2 (iv n),ps 3 (bv true)] (oz) ?_
 rw [YX (s:=s) (i:=0) hi hn hd (by omega) (by omega) (fun c=>h22 c.1),if_neg (by decide)]
 exact qk hc0 [2,3] []
theorem qab (s h:Int) (ih:∀ x y:Int,0≤x→¬ (x=0∧y<0)→(s<0∨(s=0∧h<0))→PC Tryz.prog 64 [.agg [iv x,iv y]] [] (.tup [sv (st ((qG x y).1)),iv ((qG x y).2)]) []):PC Tryz.prog 64 [(.agg [(iv s),(iv h)])] [] (.tup [(sv (st ((qG s h).1))),(iv ((qG s h).2))]) []:=by
 refine zG Tryz.func64 rfl (by kernel_rfl) (Nat.le_of_ble_eq_true rfl) (by kernel_rfl) (l0:=[ps 0 (.agg [(iv s),(iv h)])]) rfl (fun c0 Bor hc0=>?_)
 refine qB<|zD qD [] [ps 1 (.opt 0 0),pb 0 41 [(iv s),(iv h)]] (oz)<|qB<|qB<|yC qD 1 [.k1,.n,.r] [ps 11 (bv (!(Pi.withinB s h)))] (zO 32 (qee s h) oz) ?_
 by_cases h1:(Pi.withinB s h)=true
 ·refine qR (congrArg Bool.not h1)<|qF<|qB<|qB ?_
  have hw:=Pi.withinB_iff.1 h1
  have hsh:=name_short (0-s) (0-h)
  by_cases h2:s<0
  ·refine qQ qD (gy 4 4++[(11,.gd true .no),(12,.yes true)]) [.k1,.d,.n,.r] [ps 24 (bv true)] (on 6 (qT h2) oz)<|qL (b:=true) rfl rfl<|qB<|zD qD [(7,.call [] [(.agg [(iv (0-s)),(iv (0-h))])] [] (.tup [(sv (st ((qG (0-s) (0-h)).1))),(iv ((qG (0-s) (0-h)).2))]) [])] [ps 4 (sv (st ((qG (0-s) (0-h)).1))),ps 5 (iv ((qG (0-s) (0-h)).2))] (oi (0-s) (by omega) (oi (0-h) (by omega) (zO 208 (ih (0-s) (0-h) (by omega) (by omega) (by omega)) oz)))<|qB<|qB<|qH qD [.k2,.n] [ps 37 (bv (!(decide (((qG (0-s) (0-h)).2)=0))))] ?_
   by_cases h3:((qG (0-s) (0-h)).2)=0
   ·refine qR (bt h3)<|qF<|qB<|zD qD [(1,.val (.av (.string (st (([45]:TX)++((qG (0-s) (0-h)).1))))))] [ps 2 (sv (st (([45]:TX)++((qG (0-s) (0-h)).1)))),ps 3 (iv 0)] (oc (by first|omega|(simp only [List.length_append,List.length_cons,List.length_nil];omega):((([45]:TX).length+((qG (0-s) (0-h)).1).length:Nat):Int)≤9223372036854775807) (oc (qy _ _:st ([45]:TX)++st ((qG (0-s) (0-h)).1)=st (([45]:TX)++((qG (0-s) (0-h)).1))) oz)) ?_
    rw [qct (s:=s) (h:=h) h1 (by omega) h3]
    exact qk hc0 [2,3] []
   refine qS (bf h3)<|qB<|zD qD [] [ps 2 se,ps 3 (iv ((qG (0-s) (0-h)).2))] (oz) ?_
   rw [qcu (s:=s) (h:=h) h1 (by omega) h3]
   exact qk hc0 [2,3] []
  by_cases h4:s=0
  ·refine qQ qD (gn 4 4++gy 8 3++[(11,.gd false (.yes true)),(12,.yes false)]) [.k1,.d,.n,.r] [ps 24 (bv (decide (h<0)))] (on 4 (qV h2) (on 3 (qT h4) (oc (qV h2) (oc (qT h4) (oc (qV h2) oz))))) ?_
   by_cases h5:h<0
   ·refine qS (qT h5)<|qB<|zD qD [(7,.call [] [(.agg [(iv (0-s)),(iv (0-h))])] [] (.tup [(sv (st ((qG (0-s) (0-h)).1))),(iv ((qG (0-s) (0-h)).2))]) [])] [ps 4 (sv (st ((qG (0-s) (0-h)).1))),ps 5 (iv ((qG (0-s) (0-h)).2))] (oi (0-s) (by omega) (oi (0-h) (by omega) (zO 208 (ih (0-s) (0-h) (by omega) (by omega) (by omega)) oz)))<|qB<|qB<|qH qD [.k2,.n] [ps 37 (bv (!(decide (((qG (0-s) (0-h)).2)=0))))] ?_
    by_cases h6:((qG (0-s) (0-h)).2)=0
    ·refine qR (bt h6)<|qF<|qB<|zD qD [(1,.val (.av (.string (st (([45]:TX)++((qG (0-s) (0-h)).1))))))] [ps 2 (sv (st (([45]:TX)++((qG (0-s) (0-h)).1)))),ps 3 (iv 0)] (oc (by first|omega|(simp only [List.length_append,List.length_cons,List.length_nil];omega):((([45]:TX).length+((qG (0-s) (0-h)).1).length:Nat):Int)≤9223372036854775807) (oc (qy _ _:st ([45]:TX)++st ((qG (0-s) (0-h)).1)=st (([45]:TX)++((qG (0-s) (0-h)).1))) oz)) ?_
     rw [qct (s:=s) (h:=h) h1 (by omega) h6]
     exact qk hc0 [2,3] []
    refine qS (bf h6)<|qB<|zD qD [] [ps 2 se,ps 3 (iv ((qG (0-s) (0-h)).2))] (oz) ?_
    rw [qcu (s:=s) (h:=h) h1 (by omega) h6]
    exact qk hc0 [2,3] []
   refine qR (qV h5)<|qF<|qB ?_
   obtain ⟨m,hm⟩:∃ m,m=vP s h:=⟨_,rfl⟩
   have hmb : -9000≤m∧m≤9000:=by rw [hm];unfold vP;have:=Pi.nat7_range (s % 7);omega
   have hwb:=Pi.white_bd s (by omega)
   refine wC qD [(4,.call [] [(iv s)] [] (iv (Pi.white s)) [])] [[],[0],[],[2],[2,3],[0,1,2,3,4],[0,1,2,3,4,5]] [([82],[2]),([84],[1,82]),([86],[2]),([88],[1,86]),([90],[88]),([92],[84,90]),([12],[92])] [.k1,.n,.d,.r] [ps 6 (iv (h-(Pi.white s)))] (zO 184 (YU s (by omega) (by omega)) (oi (h-(Pi.white s)) (by omega) oz))<|qB<|qj (Wk.eq (show _=[ps 1 (.opt 0 0),ps 6 (iv m),pb 0 41 [(iv s),(iv h)]] from by rw [show h-Pi.white s=m from by rw [hm,qep]])) ?_
   refine qQ qD [] [.k2,.n,.r] [ps 7 (iv ((s).tmod 7))] (oc (by decide:7≠(0:Int)) oz)<|qB<|qj (Wk.eq (show _=[ps 1 (.opt 0 0),ps 6 (iv m),ps 7 (iv (s % 7)),pb 0 41 [(iv s),(iv h)]] from by rw [Int.tmod_eq_emod_of_nonneg (show 0≤s from by omega)])) ?_
   refine qH qD [.k3,.n,.r] [ps 8 se]<|qB<|qB ?_
   by_cases h7:(s % 7)=0
   ·refine qQ qD (gy 3 2++[(5,.yes true)]++gy 7 2) [.k2,.d,.k1,.n,.r] [ps 59 (bv true)] (on 3 (qT h7) (on 2 tt oz))<|qL (b:=true) rfl rfl<|qB<|qH qD [.k3,.d,.n,.r] [ps 61 (bv (decide (m=0)))] ?_
    by_cases h8:m=0
    ·refine qS (qT h8)<|qH qD [.k1,.d,.d,.n,.d,.r] [ps 8 (sv (st ([80]:TX)))]<|qB<|qB<|qQ qD [(1,.val (.av (.bool (decide (([80]:TX)=([]:TX))))))] [.k2,.n,.r] [ps 102 (bv (decide (([80]:TX)=([]:TX))))] (oc (qv _ _:((st ([80]:TX)).toList == (st ([]:TX)).toList)=decide (([80]:TX)=([]:TX))) oz) ?_
     have h9:¬ (([80]:TX)=([]:TX)):=(by decide)
     refine qR (qV h9)<|qF<|qB ?_
     have hl2:=zW (o:=s+1) (by omega) (by omega)
     refine zD qD [(4,.call [] [(iv (s+1))] [] (sv (st (Lib.itoa (s+1)))) []),(5,.val (.av (.string (st (([80]:TX)++(Lib.itoa (s+1)))))))] [ps 2 (sv (st (([80]:TX)++(Lib.itoa (s+1))))),ps 3 (iv 0)] (oi (s+1) (by omega) (zO 400 (zV (s+1) (by omega) (by omega)) (oc (by first|omega|(simp <;> omega):((([80]:TX).length+(Lib.itoa (s+1)).length:Nat):Int)≤9223372036854775807) (oc (qy _ _:st ([80]:TX)++st (Lib.itoa (s+1))=st (([80]:TX)++(Lib.itoa (s+1)))) oz)))) ?_
     rw [zk (s:=s) (h:=h) (q:=([80]:TX)) h1 (by omega) (by rw [← hm];exact (YK (by omega) (zS (s:=s) (by omega)))) (by decide)]
     exact qk hc0 [2,3] []
    refine qR (qV h8)<|qB ?_
    by_cases h10:0<m
    ·refine qQ qD (gy 3 2++[(5,.yes true)]) [.k3,.d,.n,.r] [ps 67 (bv (decide (m≤6)))] (on 3 (qT h10) oz) ?_
     by_cases h11:m≤6
     ·refine qS (qT h11)<|yC qD 1 [.k1,.d,.d,.n,.d,.r] [ps 8 (sv (st (Lib.repeatL [65] m.toNat)))] (zO 400 (yS 65 m (by omega) (by omega)) oz)<|qB<|qB<|qQ qD [(1,.val (.av (.bool (decide ((Lib.repeatL [65] m.toNat)=([]:TX))))))] [.k2,.n,.r] [ps 102 (bv (decide ((Lib.repeatL [65] m.toNat)=([]:TX))))] (oc (qv _ _:((st (Lib.repeatL [65] m.toNat)).toList == (st ([]:TX)).toList)=decide ((Lib.repeatL [65] m.toNat)=([]:TX))) oz) ?_
      have h12:¬ ((Lib.repeatL [65] m.toNat)=([]:TX)):=(vv (by omega))
      refine qR (qV h12)<|qF<|qB ?_
      have hlr:=yH 65 m.toNat
      have hl2:=zW (o:=s+1) (by omega) (by omega)
      refine zD qD [(4,.call [] [(iv (s+1))] [] (sv (st (Lib.itoa (s+1)))) []),(5,.val (.av (.string (st ((Lib.repeatL [65] m.toNat)++(Lib.itoa (s+1)))))))] [ps 2 (sv (st ((Lib.repeatL [65] m.toNat)++(Lib.itoa (s+1))))),ps 3 (iv 0)] (oi (s+1) (by omega) (zO 464 (zV (s+1) (by omega) (by omega)) (oc (by first|omega|(simp <;> omega):(((Lib.repeatL [65] m.toNat).length+(Lib.itoa (s+1)).length:Nat):Int)≤9223372036854775807) (oc (qy _ _:st (Lib.repeatL [65] m.toNat)++st (Lib.itoa (s+1))=st ((Lib.repeatL [65] m.toNat)++(Lib.itoa (s+1)))) oz)))) ?_
      rw [zk (s:=s) (h:=h) (q:=(Lib.repeatL [65] m.toNat)) h1 (by omega) (by rw [← hm];exact (q_up (by omega) (by omega))) (by omega)]
      exact qk hc0 [2,3] []
     refine qR (qV h11)<|qB ?_
     by_cases h13:m<0
     ·refine qQ qD (gy 3 2++[(5,.yes true)]) [.k3,.d,.n,.r] [ps 75 (bv (decide ((-6)≤m)))] (on 3 (qT h13) oz) ?_
      by_cases h14:(-6)≤m
      ·refine qS (qT h14)<|qQ qD [(2,.call [] [(sv (st ([100]:TX))),(iv (0-m))] [] (sv (st (Lib.repeatL [100] (0-m).toNat))) [])] [.k1,.d,.d,.n,.d,.r] [ps 8 (sv (st (Lib.repeatL [100] (0-m).toNat)))] (oi (0-m) (by omega) (zO 456 (yS 100 (0-m) (by omega) (by omega)) oz))<|qB<|qB<|qQ qD [(1,.val (.av (.bool (decide ((Lib.repeatL [100] (0-m).toNat)=([]:TX))))))] [.k2,.n,.r] [ps 102 (bv (decide ((Lib.repeatL [100] (0-m).toNat)=([]:TX))))] (oc (qv _ _:((st (Lib.repeatL [100] (0-m).toNat)).toList == (st ([]:TX)).toList)=decide ((Lib.repeatL [100] (0-m).toNat)=([]:TX))) oz) ?_
       have h15:¬ ((Lib.repeatL [100] (0-m).toNat)=([]:TX)):=(vv (by omega))
       refine qR (qV h15)<|qF<|qB ?_
       have hlr:=yH 100 (0-m).toNat
       have hl2:=zW (o:=s+1) (by omega) (by omega)
       refine zD qD [(4,.call [] [(iv (s+1))] [] (sv (st (Lib.itoa (s+1)))) []),(5,.val (.av (.string (st ((Lib.repeatL [100] (0-m).toNat)++(Lib.itoa (s+1)))))))] [ps 2 (sv (st ((Lib.repeatL [100] (0-m).toNat)++(Lib.itoa (s+1))))),ps 3 (iv 0)] (oi (s+1) (by omega) (zO 520 (zV (s+1) (by omega) (by omega)) (oc (by first|omega|(simp only [List.length_append,List.length_cons,List.length_nil];omega):(((Lib.repeatL [100] (0-m).toNat).length+(Lib.itoa (s+1)).length:Nat):Int)≤9223372036854775807) (oc (qy _ _:st (Lib.repeatL [100] (0-m).toNat)++st (Lib.itoa (s+1))=st ((Lib.repeatL [100] (0-m).toNat)++(Lib.itoa (s+1)))) oz)))) ?_
       rw [zk (s:=s) (h:=h) (q:=(Lib.repeatL [100] (0-m).toNat)) h1 (by omega) (by rw [← hm];exact (q_dn (by omega) (by omega) (zS (s:=s) (by omega)))) (by omega)]
       exact qk hc0 [2,3] []
      refine qR (qV h14)<|qF<|qB<|qB<|qQ qD [(1,.val (.av (.bool (decide (([]:TX)=([]:TX))))))] [.k1,.d,.k1,.d,.n,.r] [ps 102 (bv (decide (([]:TX)=([]:TX))))] (oc (qv _ _:((st ([]:TX)).toList == (st ([]:TX)).toList)=decide (([]:TX)=([]:TX))) oz) ?_
      have h16:([]:TX)=([]:TX):=rfl
      refine qS (qT h16)<|qB<|zD qD [] [ps 2 se,ps 3 (iv 3)] (oz) ?_
      rw [zq (s:=s) (h:=h) h1 (by omega) (by rw [← hm];have hp:=zS (s:=s) (by omega);first|exact .inl (by omega)|exact .inr (.inl ⟨hp,by omega⟩))]
      exact qk hc0 [2,3] []
     refine qQ qD (gn 3 2++[(5,.yes false)]) [.k3,.d,.n,.r] [ps 75 (bv false)] (on 3 (qV h13) oz)<|qO (b:=false) rfl rfl<|qF<|qB<|qB<|qQ qD [(1,.val (.av (.bool (decide (([]:TX)=([]:TX))))))] [.k1,.d,.k1,.d,.n,.r] [ps 102 (bv (decide (([]:TX)=([]:TX))))] (oc (qv _ _:((st ([]:TX)).toList == (st ([]:TX)).toList)=decide (([]:TX)=([]:TX))) oz) ?_
     have h17:([]:TX)=([]:TX):=rfl
     refine qS (qT h17)<|qB<|zD qD [] [ps 2 se,ps 3 (iv 3)] (oz) ?_
     rw [zq (s:=s) (h:=h) h1 (by omega) (by rw [← hm];have hp:=zS (s:=s) (by omega);first|exact .inl (by omega)|exact .inr (.inl ⟨hp,by omega⟩))]
     exact qk hc0 [2,3] []
    refine qQ qD (gn 3 2++[(5,.yes false)]) [.k3,.d,.n,.r] [ps 67 (bv false)] (on 3 (qV h10) oz)<|qO (b:=false) rfl rfl<|qB ?_
    by_cases h18:m<0
    ·refine qQ qD (gy 3 2++[(5,.yes true)]) [.k3,.d,.n,.r] [ps 75 (bv (decide ((-6)≤m)))] (on 3 (qT h18) oz) ?_
     by_cases h19:(-6)≤m
     ·refine qS (qT h19)<|qQ qD [(2,.call [] [(sv (st ([100]:TX))),(iv (0-m))] [] (sv (st (Lib.repeatL [100] (0-m).toNat))) [])] [.k1,.d,.d,.n,.d,.r] [ps 8 (sv (st (Lib.repeatL [100] (0-m).toNat)))] (oi (0-m) (by omega) (zO 456 (yS 100 (0-m) (by omega) (by omega)) oz))<|qB<|qB<|qQ qD [(1,.val (.av (.bool (decide ((Lib.repeatL [100] (0-m).toNat)=([]:TX))))))] [.k2,.n,.r] [ps 102 (bv (decide ((Lib.repeatL [100] (0-m).toNat)=([]:TX))))] (oc (qv _ _:((st (Lib.repeatL [100] (0-m).toNat)).toList == (st ([]:TX)).toList)=decide ((Lib.repeatL [100] (0-m).toNat)=([]:TX))) oz) ?_
      have h20:¬ ((Lib.repeatL [100] (0-m).toNat)=([]:TX)):=(vv (by omega))
      refine qR (qV h20)<|qF<|qB ?_
      have hlr:=yH 100 (0-m).toNat
      have hl2:=zW (o:=s+1) (by omega) (by omega)
      refine zD qD [(4,.call [] [(iv (s+1))] [] (sv (st (Lib.itoa (s+1)))) []),(5,.val (.av (.string (st ((Lib.repeatL [100] (0-m).toNat)++(Lib.itoa (s+1)))))))] [ps 2 (sv (st ((Lib.repeatL [100] (0-m).toNat)++(Lib.itoa (s+1))))),ps 3 (iv 0)] (oi (s+1) (by omega) (zO 520 (zV (s+1) (by omega) (by omega)) (oc (by first|omega|(simp only [List.length_append,List.length_cons,List.length_nil];omega):(((Lib.repeatL [100] (0-m).toNat).length+(Lib.itoa (s+1)).length:Nat):Int)≤9223372036854775807) (oc (qy _ _:st (Lib.repeatL [100] (0-m).toNat)++st (Lib.itoa (s+1))=st ((Lib.repeatL [100] (0-m).toNat)++(Lib.itoa (s+1)))) oz)))) ?_
      rw [zk (s:=s) (h:=h) (q:=(Lib.repeatL [100] (0-m).toNat)) h1 (by omega) (by rw [← hm];exact (q_dn (by omega) (by omega) (zS (s:=s) (by omega)))) (by omega)]
      exact qk hc0 [2,3] []
     refine qR (qV h19)<|qF<|qB<|qB<|qQ qD [(1,.val (.av (.bool (decide (([]:TX)=([]:TX))))))] [.k1,.d,.k1,.d,.n,.r] [ps 102 (bv (decide (([]:TX)=([]:TX))))] (oc (qv _ _:((st ([]:TX)).toList == (st ([]:TX)).toList)=decide (([]:TX)=([]:TX))) oz) ?_
     have h21:([]:TX)=([]:TX):=rfl
     refine qS (qT h21)<|qB<|zD qD [] [ps 2 se,ps 3 (iv 3)] (oz) ?_
     rw [zq (s:=s) (h:=h) h1 (by omega) (by rw [← hm];have hp:=zS (s:=s) (by omega);first|exact .inl (by omega)|exact .inr (.inl ⟨hp,by omega⟩))]
     exact qk hc0 [2,3] []
    refine qQ qD (gn 3 2++[(5,.yes false)]) [.k3,.d,.n,.r] [ps 75 (bv false)] (on 3 (qV h18) oz)<|qO (b:=false) rfl rfl<|qF<|qB<|qB<|qQ qD [(1,.val (.av (.bool (decide (([]:TX)=([]:TX))))))] [.k1,.d,.k1,.d,.n,.r] [ps 102 (bv (decide (([]:TX)=([]:TX))))] (oc (qv _ _:((st ([]:TX)).toList == (st ([]:TX)).toList)=decide (([]:TX)=([]:TX))) oz) ?_
    have h22:([]:TX)=([]:TX):=rfl
    refine qS (qT h22)<|qB<|zD qD [] [ps 2 se,ps 3 (iv 3)] (oz) ?_
    rw [zq (s:=s) (h:=h) h1 (by omega) (by rw [← hm];have hp:=zS (s:=s) (by omega);first|exact .inl (by omega)|exact .inr (.inl ⟨hp,by omega⟩))]
    exact qk hc0 [2,3] []
   by_cases h23:(s % 7)=3
   ·refine qQ qD (gn 3 2++[(5,.yes false)]++gy 7 2++[(9,.yes true)]) [.k2,.d,.k1,.n,.r] [ps 59 (bv true)] (on 3 (qV h7) (on 3 (qT h23) oz))<|qL (b:=true) rfl rfl<|qB<|qH qD [.k3,.d,.n,.r] [ps 61 (bv (decide (m=0)))] ?_
    by_cases h24:m=0
    ·refine qS (qT h24)<|qH qD [.k1,.d,.d,.n,.d,.r] [ps 8 (sv (st ([80]:TX)))]<|qB<|qB<|qQ qD [(1,.val (.av (.bool (decide (([80]:TX)=([]:TX))))))] [.k2,.n,.r] [ps 102 (bv (decide (([80]:TX)=([]:TX))))] (oc (qv _ _:((st ([80]:TX)).toList == (st ([]:TX)).toList)=decide (([80]:TX)=([]:TX))) oz) ?_
     have h25:¬ (([80]:TX)=([]:TX)):=(by decide)
     refine qR (qV h25)<|qF<|qB ?_
     have hl2:=zW (o:=s+1) (by omega) (by omega)
     refine zD qD [(4,.call [] [(iv (s+1))] [] (sv (st (Lib.itoa (s+1)))) []),(5,.val (.av (.string (st (([80]:TX)++(Lib.itoa (s+1)))))))] [ps 2 (sv (st (([80]:TX)++(Lib.itoa (s+1))))),ps 3 (iv 0)] (oi (s+1) (by omega) (zO 400 (zV (s+1) (by omega) (by omega)) (oc (by first|omega|(simp <;> omega):((([80]:TX).length+(Lib.itoa (s+1)).length:Nat):Int)≤9223372036854775807) (oc (qy _ _:st ([80]:TX)++st (Lib.itoa (s+1))=st (([80]:TX)++(Lib.itoa (s+1)))) oz)))) ?_
     rw [zk (s:=s) (h:=h) (q:=([80]:TX)) h1 (by omega) (by rw [← hm];exact (YK (by omega) (zS (s:=s) (by omega)))) (by decide)]
     exact qk hc0 [2,3] []
    refine qR (qV h24)<|qB ?_
    by_cases h26:0<m
    ·refine qQ qD (gy 3 2++[(5,.yes true)]) [.k3,.d,.n,.r] [ps 67 (bv (decide (m≤6)))] (on 3 (qT h26) oz) ?_
     by_cases h27:m≤6
     ·refine qS (qT h27)<|yC qD 1 [.k1,.d,.d,.n,.d,.r] [ps 8 (sv (st (Lib.repeatL [65] m.toNat)))] (zO 400 (yS 65 m (by omega) (by omega)) oz)<|qB<|qB<|qQ qD [(1,.val (.av (.bool (decide ((Lib.repeatL [65] m.toNat)=([]:TX))))))] [.k2,.n,.r] [ps 102 (bv (decide ((Lib.repeatL [65] m.toNat)=([]:TX))))] (oc (qv _ _:((st (Lib.repeatL [65] m.toNat)).toList == (st ([]:TX)).toList)=decide ((Lib.repeatL [65] m.toNat)=([]:TX))) oz) ?_
      have h28:¬ ((Lib.repeatL [65] m.toNat)=([]:TX)):=(vv (by omega))
      refine qR (qV h28)<|qF<|qB ?_
      have hlr:=yH 65 m.toNat
      have hl2:=zW (o:=s+1) (by omega) (by omega)
      refine zD qD [(4,.call [] [(iv (s+1))] [] (sv (st (Lib.itoa (s+1)))) []),(5,.val (.av (.string (st ((Lib.repeatL [65] m.toNat)++(Lib.itoa (s+1)))))))] [ps 2 (sv (st ((Lib.repeatL [65] m.toNat)++(Lib.itoa (s+1))))),ps 3 (iv 0)] (oi (s+1) (by omega) (zO 464 (zV (s+1) (by omega) (by omega)) (oc (by first|omega|(simp <;> omega):(((Lib.repeatL [65] m.toNat).length+(Lib.itoa (s+1)).length:Nat):Int)≤9223372036854775807) (oc (qy _ _:st (Lib.repeatL [65] m.toNat)++st (Lib.itoa (s+1))=st ((Lib.repeatL [65] m.toNat)++(Lib.itoa (s+1)))) oz)))) ?_
      rw [zk (s:=s) (h:=h) (q:=(Lib.repeatL [65] m.toNat)) h1 (by omega) (by rw [← hm];exact (q_up (by omega) (by omega))) (by omega)]
      exact qk hc0 [2,3] []
     refine qR (qV h27)<|qB ?_
     by_cases h29:m<0
     ·refine qQ qD (gy 3 2++[(5,.yes true)]) [.k3,.d,.n,.r] [ps 75 (bv (decide ((-6)≤m)))] (on 3 (qT h29) oz) ?_
      by_cases h30:(-6)≤m
      ·refine qS (qT h30)<|qQ qD [(2,.call [] [(sv (st ([100]:TX))),(iv (0-m))] [] (sv (st (Lib.repeatL [100] (0-m).toNat))) [])] [.k1,.d,.d,.n,.d,.r] [ps 8 (sv (st (Lib.repeatL [100] (0-m).toNat)))] (oi (0-m) (by omega) (zO 456 (yS 100 (0-m) (by omega) (by omega)) oz))<|qB<|qB<|qQ qD [(1,.val (.av (.bool (decide ((Lib.repeatL [100] (0-m).toNat)=([]:TX))))))] [.k2,.n,.r] [ps 102 (bv (decide ((Lib.repeatL [100] (0-m).toNat)=([]:TX))))] (oc (qv _ _:((st (Lib.repeatL [100] (0-m).toNat)).toList == (st ([]:TX)).toList)=decide ((Lib.repeatL [100] (0-m).toNat)=([]:TX))) oz) ?_
       have h31:¬ ((Lib.repeatL [100] (0-m).toNat)=([]:TX)):=(vv (by omega))
       refine qR (qV h31)<|qF<|qB ?_
       have hlr:=yH 100 (0-m).toNat
       have hl2:=zW (o:=s+1) (by omega) (by omega)
       refine zD qD [(4,.call [] [(iv (s+1))] [] (sv (st (Lib.itoa (s+1)))) []),(5,.val (.av (.string (st ((Lib.repeatL [100] (0-m).toNat)++(Lib.itoa (s+1)))))))] [ps 2 (sv (st ((Lib.repeatL [100] (0-m).toNat)++(Lib.itoa (s+1))))),ps 3 (iv 0)] (oi (s+1) (by omega) (zO 520 (zV (s+1) (by omega) (by omega)) (oc (by first|omega|(simp only [List.length_append,List.length_cons,List.length_nil];omega):(((Lib.repeatL [100] (0-m).toNat).length+(Lib.itoa (s+1)).length:Nat):Int)≤9223372036854775807) (oc (qy _ _:st (Lib.repeatL [100] (0-m).toNat)++st (Lib.itoa (s+1))=st ((Lib.repeatL [100] (0-m).toNat)++(Lib.itoa (s+1)))) oz)))) ?_
       rw [zk (s:=s) (h:=h) (q:=(Lib.repeatL [100] (0-m).toNat)) h1 (by omega) (by rw [← hm];exact (q_dn (by omega) (by omega) (zS (s:=s) (by omega)))) (by omega)]
       exact qk hc0 [2,3] []
      refine qR (qV h30)<|qF<|qB<|qB<|qQ qD [(1,.val (.av (.bool (decide (([]:TX)=([]:TX))))))] [.k1,.d,.k1,.d,.n,.r] [ps 102 (bv (decide (([]:TX)=([]:TX))))] (oc (qv _ _:((st ([]:TX)).toList == (st ([]:TX)).toList)=decide (([]:TX)=([]:TX))) oz) ?_
      have h32:([]:TX)=([]:TX):=rfl
      refine qS (qT h32)<|qB<|zD qD [] [ps 2 se,ps 3 (iv 3)] (oz) ?_
      rw [zq (s:=s) (h:=h) h1 (by omega) (by rw [← hm];have hp:=zS (s:=s) (by omega);first|exact .inl (by omega)|exact .inr (.inl ⟨hp,by omega⟩))]
      exact qk hc0 [2,3] []
     refine qQ qD (gn 3 2++[(5,.yes false)]) [.k3,.d,.n,.r] [ps 75 (bv false)] (on 3 (qV h29) oz)<|qO (b:=false) rfl rfl<|qF<|qB<|qB<|qQ qD [(1,.val (.av (.bool (decide (([]:TX)=([]:TX))))))] [.k1,.d,.k1,.d,.n,.r] [ps 102 (bv (decide (([]:TX)=([]:TX))))] (oc (qv _ _:((st ([]:TX)).toList == (st ([]:TX)).toList)=decide (([]:TX)=([]:TX))) oz) ?_
     have h33:([]:TX)=([]:TX):=rfl
     refine qS (qT h33)<|qB<|zD qD [] [ps 2 se,ps 3 (iv 3)] (oz) ?_
     rw [zq (s:=s) (h:=h) h1 (by omega) (by rw [← hm];have hp:=zS (s:=s) (by omega);first|exact .inl (by omega)|exact .inr (.inl ⟨hp,by omega⟩))]
     exact qk hc0 [2,3] []
    refine qQ qD (gn 3 2++[(5,.yes false)]) [.k3,.d,.n,.r] [ps 67 (bv false)] (on 3 (qV h26) oz)<|qO (b:=false) rfl rfl<|qB ?_
    by_cases h34:m<0
    ·refine qQ qD (gy 3 2++[(5,.yes true)]) [.k3,.d,.n,.r] [ps 75 (bv (decide ((-6)≤m)))] (on 3 (qT h34) oz) ?_
     by_cases h35:(-6)≤m
     ·refine qS (qT h35)<|qQ qD [(2,.call [] [(sv (st ([100]:TX))),(iv (0-m))] [] (sv (st (Lib.repeatL [100] (0-m).toNat))) [])] [.k1,.d,.d,.n,.d,.r] [ps 8 (sv (st (Lib.repeatL [100] (0-m).toNat)))] (oi (0-m) (by omega) (zO 456 (yS 100 (0-m) (by omega) (by omega)) oz))<|qB<|qB<|qQ qD [(1,.val (.av (.bool (decide ((Lib.repeatL [100] (0-m).toNat)=([]:TX))))))] [.k2,.n,.r] [ps 102 (bv (decide ((Lib.repeatL [100] (0-m).toNat)=([]:TX))))] (oc (qv _ _:((st (Lib.repeatL [100] (0-m).toNat)).toList == (st ([]:TX)).toList)=decide ((Lib.repeatL [100] (0-m).toNat)=([]:TX))) oz) ?_
      have h36:¬ ((Lib.repeatL [100] (0-m).toNat)=([]:TX)):=(vv (by omega))
      refine qR (qV h36)<|qF<|qB ?_
      have hlr:=yH 100 (0-m).toNat
      have hl2:=zW (o:=s+1) (by omega) (by omega)
      refine zD qD [(4,.call [] [(iv (s+1))] [] (sv (st (Lib.itoa (s+1)))) []),(5,.val (.av (.string (st ((Lib.repeatL [100] (0-m).toNat)++(Lib.itoa (s+1)))))))] [ps 2 (sv (st ((Lib.repeatL [100] (0-m).toNat)++(Lib.itoa (s+1))))),ps 3 (iv 0)] (oi (s+1) (by omega) (zO 520 (zV (s+1) (by omega) (by omega)) (oc (by first|omega|(simp only [List.length_append,List.length_cons,List.length_nil];omega):(((Lib.repeatL [100] (0-m).toNat).length+(Lib.itoa (s+1)).length:Nat):Int)≤9223372036854775807) (oc (qy _ _:st (Lib.repeatL [100] (0-m).toNat)++st (Lib.itoa (s+1))=st ((Lib.repeatL [100] (0-m).toNat)++(Lib.itoa (s+1)))) oz)))) ?_
      rw [zk (s:=s) (h:=h) (q:=(Lib.repeatL [100] (0-m).toNat)) h1 (by omega) (by rw [← hm];exact (q_dn (by omega) (by omega) (zS (s:=s) (by omega)))) (by omega)]
      exact qk hc0 [2,3] []
     refine qR (qV h35)<|qF<|qB<|qB<|qQ qD [(1,.val (.av (.bool (decide (([]:TX)=([]:TX))))))] [.k1,.d,.k1,.d,.n,.r] [ps 102 (bv (decide (([]:TX)=([]:TX))))] (oc (qv _ _:((st ([]:TX)).toList == (st ([]:TX)).toList)=decide (([]:TX)=([]:TX))) oz) ?_
     have h37:([]:TX)=([]:TX):=rfl
     refine qS (qT h37)<|qB<|zD qD [] [ps 2 se,ps 3 (iv 3)] (oz) ?_
     rw [zq (s:=s) (h:=h) h1 (by omega) (by rw [← hm];have hp:=zS (s:=s) (by omega);first|exact .inl (by omega)|exact .inr (.inl ⟨hp,by omega⟩))]
     exact qk hc0 [2,3] []
    refine qQ qD (gn 3 2++[(5,.yes false)]) [.k3,.d,.n,.r] [ps 75 (bv false)] (on 3 (qV h34) oz)<|qO (b:=false) rfl rfl<|qF<|qB<|qB<|qQ qD [(1,.val (.av (.bool (decide (([]:TX)=([]:TX))))))] [.k1,.d,.k1,.d,.n,.r] [ps 102 (bv (decide (([]:TX)=([]:TX))))] (oc (qv _ _:((st ([]:TX)).toList == (st ([]:TX)).toList)=decide (([]:TX)=([]:TX))) oz) ?_
    have h38:([]:TX)=([]:TX):=rfl
    refine qS (qT h38)<|qB<|zD qD [] [ps 2 se,ps 3 (iv 3)] (oz) ?_
    rw [zq (s:=s) (h:=h) h1 (by omega) (by rw [← hm];have hp:=zS (s:=s) (by omega);first|exact .inl (by omega)|exact .inr (.inl ⟨hp,by omega⟩))]
    exact qk hc0 [2,3] []
   refine qQ qD (gn 3 2++[(5,.yes false)]++gn 7 2++[(9,.yes false)]) [.k2,.d,.k1,.n,.r] [ps 59 (bv (decide ((s % 7)=4)))] (on 3 (qV h7) (on 3 (qV h23) oz)) ?_
   by_cases h39:(s % 7)=4
   ·refine qS (qT h39)<|qB<|qH qD [.k3,.d,.n,.r] [ps 61 (bv (decide (m=0)))] ?_
    by_cases h40:m=0
    ·refine qS (qT h40)<|qH qD [.k1,.d,.d,.n,.d,.r] [ps 8 (sv (st ([80]:TX)))]<|qB<|qB<|qQ qD [(1,.val (.av (.bool (decide (([80]:TX)=([]:TX))))))] [.k2,.n,.r] [ps 102 (bv (decide (([80]:TX)=([]:TX))))] (oc (qv _ _:((st ([80]:TX)).toList == (st ([]:TX)).toList)=decide (([80]:TX)=([]:TX))) oz) ?_
     have h41:¬ (([80]:TX)=([]:TX)):=(by decide)
     refine qR (qV h41)<|qF<|qB ?_
     have hl2:=zW (o:=s+1) (by omega) (by omega)
     refine zD qD [(4,.call [] [(iv (s+1))] [] (sv (st (Lib.itoa (s+1)))) []),(5,.val (.av (.string (st (([80]:TX)++(Lib.itoa (s+1)))))))] [ps 2 (sv (st (([80]:TX)++(Lib.itoa (s+1))))),ps 3 (iv 0)] (oi (s+1) (by omega) (zO 400 (zV (s+1) (by omega) (by omega)) (oc (by first|omega|(simp <;> omega):((([80]:TX).length+(Lib.itoa (s+1)).length:Nat):Int)≤9223372036854775807) (oc (qy _ _:st ([80]:TX)++st (Lib.itoa (s+1))=st (([80]:TX)++(Lib.itoa (s+1)))) oz)))) ?_
     rw [zk (s:=s) (h:=h) (q:=([80]:TX)) h1 (by omega) (by rw [← hm];exact (YK (by omega) (zS (s:=s) (by omega)))) (by decide)]
     exact qk hc0 [2,3] []
    refine qR (qV h40)<|qB ?_
    by_cases h42:0<m
    ·refine qQ qD (gy 3 2++[(5,.yes true)]) [.k3,.d,.n,.r] [ps 67 (bv (decide (m≤6)))] (on 3 (qT h42) oz) ?_
     by_cases h43:m≤6
     ·refine qS (qT h43)<|yC qD 1 [.k1,.d,.d,.n,.d,.r] [ps 8 (sv (st (Lib.repeatL [65] m.toNat)))] (zO 400 (yS 65 m (by omega) (by omega)) oz)<|qB<|qB<|qQ qD [(1,.val (.av (.bool (decide ((Lib.repeatL [65] m.toNat)=([]:TX))))))] [.k2,.n,.r] [ps 102 (bv (decide ((Lib.repeatL [65] m.toNat)=([]:TX))))] (oc (qv _ _:((st (Lib.repeatL [65] m.toNat)).toList == (st ([]:TX)).toList)=decide ((Lib.repeatL [65] m.toNat)=([]:TX))) oz) ?_
      have h44:¬ ((Lib.repeatL [65] m.toNat)=([]:TX)):=(vv (by omega))
      refine qR (qV h44)<|qF<|qB ?_
      have hlr:=yH 65 m.toNat
      have hl2:=zW (o:=s+1) (by omega) (by omega)
      refine zD qD [(4,.call [] [(iv (s+1))] [] (sv (st (Lib.itoa (s+1)))) []),(5,.val (.av (.string (st ((Lib.repeatL [65] m.toNat)++(Lib.itoa (s+1)))))))] [ps 2 (sv (st ((Lib.repeatL [65] m.toNat)++(Lib.itoa (s+1))))),ps 3 (iv 0)] (oi (s+1) (by omega) (zO 464 (zV (s+1) (by omega) (by omega)) (oc (by first|omega|(simp <;> omega):(((Lib.repeatL [65] m.toNat).length+(Lib.itoa (s+1)).length:Nat):Int)≤9223372036854775807) (oc (qy _ _:st (Lib.repeatL [65] m.toNat)++st (Lib.itoa (s+1))=st ((Lib.repeatL [65] m.toNat)++(Lib.itoa (s+1)))) oz)))) ?_
      rw [zk (s:=s) (h:=h) (q:=(Lib.repeatL [65] m.toNat)) h1 (by omega) (by rw [← hm];exact (q_up (by omega) (by omega))) (by omega)]
      exact qk hc0 [2,3] []
     refine qR (qV h43)<|qB ?_
     by_cases h45:m<0
     ·refine qQ qD (gy 3 2++[(5,.yes true)]) [.k3,.d,.n,.r] [ps 75 (bv (decide ((-6)≤m)))] (on 3 (qT h45) oz) ?_
      by_cases h46:(-6)≤m
      ·refine qS (qT h46)<|qQ qD [(2,.call [] [(sv (st ([100]:TX))),(iv (0-m))] [] (sv (st (Lib.repeatL [100] (0-m).toNat))) [])] [.k1,.d,.d,.n,.d,.r] [ps 8 (sv (st (Lib.repeatL [100] (0-m).toNat)))] (oi (0-m) (by omega) (zO 456 (yS 100 (0-m) (by omega) (by omega)) oz))<|qB<|qB<|qQ qD [(1,.val (.av (.bool (decide ((Lib.repeatL [100] (0-m).toNat)=([]:TX))))))] [.k2,.n,.r] [ps 102 (bv (decide ((Lib.repeatL [100] (0-m).toNat)=([]:TX))))] (oc (qv _ _:((st (Lib.repeatL [100] (0-m).toNat)).toList == (st ([]:TX)).toList)=decide ((Lib.repeatL [100] (0-m).toNat)=([]:TX))) oz) ?_
       have h47:¬ ((Lib.repeatL [100] (0-m).toNat)=([]:TX)):=(vv (by omega))
       refine qR (qV h47)<|qF<|qB ?_
       have hlr:=yH 100 (0-m).toNat
       have hl2:=zW (o:=s+1) (by omega) (by omega)
       refine zD qD [(4,.call [] [(iv (s+1))] [] (sv (st (Lib.itoa (s+1)))) []),(5,.val (.av (.string (st ((Lib.repeatL [100] (0-m).toNat)++(Lib.itoa (s+1)))))))] [ps 2 (sv (st ((Lib.repeatL [100] (0-m).toNat)++(Lib.itoa (s+1))))),ps 3 (iv 0)] (oi (s+1) (by omega) (zO 520 (zV (s+1) (by omega) (by omega)) (oc (by first|omega|(simp only [List.length_append,List.length_cons,List.length_nil];omega):(((Lib.repeatL [100] (0-m).toNat).length+(Lib.itoa (s+1)).length:Nat):Int)≤9223372036854775807) (oc (qy _ _:st (Lib.repeatL [100] (0-m).toNat)++st (Lib.itoa (s+1))=st ((Lib.repeatL [100] (0-m).toNat)++(Lib.itoa (s+1)))) oz)))) ?_
       rw [zk (s:=s) (h:=h) (q:=(Lib.repeatL [100] (0-m).toNat)) h1 (by omega) (by rw [← hm];exact (q_dn (by omega) (by omega) (zS (s:=s) (by omega)))) (by omega)]
       exact qk hc0 [2,3] []
      refine qR (qV h46)<|qF<|qB<|qB<|qQ qD [(1,.val (.av (.bool (decide (([]:TX)=([]:TX))))))] [.k1,.d,.k1,.d,.n,.r] [ps 102 (bv (decide (([]:TX)=([]:TX))))] (oc (qv _ _:((st ([]:TX)).toList == (st ([]:TX)).toList)=decide (([]:TX)=([]:TX))) oz) ?_
      have h48:([]:TX)=([]:TX):=rfl
      refine qS (qT h48)<|qB<|zD qD [] [ps 2 se,ps 3 (iv 3)] (oz) ?_
      rw [zq (s:=s) (h:=h) h1 (by omega) (by rw [← hm];have hp:=zS (s:=s) (by omega);first|exact .inl (by omega)|exact .inr (.inl ⟨hp,by omega⟩))]
      exact qk hc0 [2,3] []
     refine qQ qD (gn 3 2++[(5,.yes false)]) [.k3,.d,.n,.r] [ps 75 (bv false)] (on 3 (qV h45) oz)<|qO (b:=false) rfl rfl<|qF<|qB<|qB<|qQ qD [(1,.val (.av (.bool (decide (([]:TX)=([]:TX))))))] [.k1,.d,.k1,.d,.n,.r] [ps 102 (bv (decide (([]:TX)=([]:TX))))] (oc (qv _ _:((st ([]:TX)).toList == (st ([]:TX)).toList)=decide (([]:TX)=([]:TX))) oz) ?_
     have h49:([]:TX)=([]:TX):=rfl
     refine qS (qT h49)<|qB<|zD qD [] [ps 2 se,ps 3 (iv 3)] (oz) ?_
     rw [zq (s:=s) (h:=h) h1 (by omega) (by rw [← hm];have hp:=zS (s:=s) (by omega);first|exact .inl (by omega)|exact .inr (.inl ⟨hp,by omega⟩))]
     exact qk hc0 [2,3] []
    refine qQ qD (gn 3 2++[(5,.yes false)]) [.k3,.d,.n,.r] [ps 67 (bv false)] (on 3 (qV h42) oz)<|qO (b:=false) rfl rfl<|qB ?_
    by_cases h50:m<0
    ·refine qQ qD (gy 3 2++[(5,.yes true)]) [.k3,.d,.n,.r] [ps 75 (bv (decide ((-6)≤m)))] (on 3 (qT h50) oz) ?_
     by_cases h51:(-6)≤m
     ·refine qS (qT h51)<|qQ qD [(2,.call [] [(sv (st ([100]:TX))),(iv (0-m))] [] (sv (st (Lib.repeatL [100] (0-m).toNat))) [])] [.k1,.d,.d,.n,.d,.r] [ps 8 (sv (st (Lib.repeatL [100] (0-m).toNat)))] (oi (0-m) (by omega) (zO 456 (yS 100 (0-m) (by omega) (by omega)) oz))<|qB<|qB<|qQ qD [(1,.val (.av (.bool (decide ((Lib.repeatL [100] (0-m).toNat)=([]:TX))))))] [.k2,.n,.r] [ps 102 (bv (decide ((Lib.repeatL [100] (0-m).toNat)=([]:TX))))] (oc (qv _ _:((st (Lib.repeatL [100] (0-m).toNat)).toList == (st ([]:TX)).toList)=decide ((Lib.repeatL [100] (0-m).toNat)=([]:TX))) oz) ?_
      have h52:¬ ((Lib.repeatL [100] (0-m).toNat)=([]:TX)):=(vv (by omega))
      refine qR (qV h52)<|qF<|qB ?_
      have hlr:=yH 100 (0-m).toNat
      have hl2:=zW (o:=s+1) (by omega) (by omega)
      refine zD qD [(4,.call [] [(iv (s+1))] [] (sv (st (Lib.itoa (s+1)))) []),(5,.val (.av (.string (st ((Lib.repeatL [100] (0-m).toNat)++(Lib.itoa (s+1)))))))] [ps 2 (sv (st ((Lib.repeatL [100] (0-m).toNat)++(Lib.itoa (s+1))))),ps 3 (iv 0)] (oi (s+1) (by omega) (zO 520 (zV (s+1) (by omega) (by omega)) (oc (by first|omega|(simp only [List.length_append,List.length_cons,List.length_nil];omega):(((Lib.repeatL [100] (0-m).toNat).length+(Lib.itoa (s+1)).length:Nat):Int)≤9223372036854775807) (oc (qy _ _:st (Lib.repeatL [100] (0-m).toNat)++st (Lib.itoa (s+1))=st ((Lib.repeatL [100] (0-m).toNat)++(Lib.itoa (s+1)))) oz)))) ?_
      rw [zk (s:=s) (h:=h) (q:=(Lib.repeatL [100] (0-m).toNat)) h1 (by omega) (by rw [← hm];exact (q_dn (by omega) (by omega) (zS (s:=s) (by omega)))) (by omega)]
      exact qk hc0 [2,3] []
     refine qR (qV h51)<|qF<|qB<|qB<|qQ qD [(1,.val (.av (.bool (decide (([]:TX)=([]:TX))))))] [.k1,.d,.k1,.d,.n,.r] [ps 102 (bv (decide (([]:TX)=([]:TX))))] (oc (qv _ _:((st ([]:TX)).toList == (st ([]:TX)).toList)=decide (([]:TX)=([]:TX))) oz) ?_
     have h53:([]:TX)=([]:TX):=rfl
     refine qS (qT h53)<|qB<|zD qD [] [ps 2 se,ps 3 (iv 3)] (oz) ?_
     rw [zq (s:=s) (h:=h) h1 (by omega) (by rw [← hm];have hp:=zS (s:=s) (by omega);first|exact .inl (by omega)|exact .inr (.inl ⟨hp,by omega⟩))]
     exact qk hc0 [2,3] []
    refine qQ qD (gn 3 2++[(5,.yes false)]) [.k3,.d,.n,.r] [ps 75 (bv false)] (on 3 (qV h50) oz)<|qO (b:=false) rfl rfl<|qF<|qB<|qB<|qQ qD [(1,.val (.av (.bool (decide (([]:TX)=([]:TX))))))] [.k1,.d,.k1,.d,.n,.r] [ps 102 (bv (decide (([]:TX)=([]:TX))))] (oc (qv _ _:((st ([]:TX)).toList == (st ([]:TX)).toList)=decide (([]:TX)=([]:TX))) oz) ?_
    have h54:([]:TX)=([]:TX):=rfl
    refine qS (qT h54)<|qB<|zD qD [] [ps 2 se,ps 3 (iv 3)] (oz) ?_
    rw [zq (s:=s) (h:=h) h1 (by omega) (by rw [← hm];have hp:=zS (s:=s) (by omega);first|exact .inl (by omega)|exact .inr (.inl ⟨hp,by omega⟩))]
    exact qk hc0 [2,3] []
   refine qR (qV h39)<|qB<|qH qD [.k3,.d,.n,.r] [ps 80 (bv (decide (m=0)))] ?_
   by_cases h55:m=0
   ·refine qS (qT h55)<|qH qD [.k1,.d,.d,.n,.d,.r] [ps 8 (sv (st ([77]:TX)))]<|qB<|qB<|qQ qD [(1,.val (.av (.bool (decide (([77]:TX)=([]:TX))))))] [.k2,.n,.r] [ps 102 (bv (decide (([77]:TX)=([]:TX))))] (oc (qv _ _:((st ([77]:TX)).toList == (st ([]:TX)).toList)=decide (([77]:TX)=([]:TX))) oz) ?_
    have h56:¬ (([77]:TX)=([]:TX)):=(by decide)
    refine qR (qV h56)<|qF<|qB ?_
    have hl2:=zW (o:=s+1) (by omega) (by omega)
    refine zD qD [(4,.call [] [(iv (s+1))] [] (sv (st (Lib.itoa (s+1)))) []),(5,.val (.av (.string (st (([77]:TX)++(Lib.itoa (s+1)))))))] [ps 2 (sv (st (([77]:TX)++(Lib.itoa (s+1))))),ps 3 (iv 0)] (oi (s+1) (by omega) (zO 400 (zV (s+1) (by omega) (by omega)) (oc (by first|omega|(simp <;> omega):((([77]:TX).length+(Lib.itoa (s+1)).length:Nat):Int)≤9223372036854775807) (oc (qy _ _:st ([77]:TX)++st (Lib.itoa (s+1))=st (([77]:TX)++(Lib.itoa (s+1)))) oz)))) ?_
    rw [zk (s:=s) (h:=h) (q:=([77]:TX)) h1 (by omega) (by rw [← hm];exact (qcf (by omega) (wP (s:=s) (by omega)))) (by decide)]
    exact qk hc0 [2,3] []
   refine qR (qV h55)<|qB<|qH qD [.k3,.d,.n,.r] [ps 82 (bv (decide (m=(-1))))] ?_
   by_cases h57:m=(-1)
   ·refine qS (qT h57)<|qH qD [.k1,.d,.d,.n,.d,.r] [ps 8 (sv (st ([109]:TX)))]<|qB<|qB<|qQ qD [(1,.val (.av (.bool (decide (([109]:TX)=([]:TX))))))] [.k2,.n,.r] [ps 102 (bv (decide (([109]:TX)=([]:TX))))] (oc (qv _ _:((st ([109]:TX)).toList == (st ([]:TX)).toList)=decide (([109]:TX)=([]:TX))) oz) ?_
    have h58:¬ (([109]:TX)=([]:TX)):=(by decide)
    refine qR (qV h58)<|qF<|qB ?_
    have hl2:=zW (o:=s+1) (by omega) (by omega)
    refine zD qD [(4,.call [] [(iv (s+1))] [] (sv (st (Lib.itoa (s+1)))) []),(5,.val (.av (.string (st (([109]:TX)++(Lib.itoa (s+1)))))))] [ps 2 (sv (st (([109]:TX)++(Lib.itoa (s+1))))),ps 3 (iv 0)] (oi (s+1) (by omega) (zO 416 (zV (s+1) (by omega) (by omega)) (oc (by first|omega|(simp <;> omega):((([109]:TX).length+(Lib.itoa (s+1)).length:Nat):Int)≤9223372036854775807) (oc (qy _ _:st ([109]:TX)++st (Lib.itoa (s+1))=st (([109]:TX)++(Lib.itoa (s+1)))) oz)))) ?_
    rw [zk (s:=s) (h:=h) (q:=([109]:TX)) h1 (by omega) (by rw [← hm];exact (qce (by omega) (wP (s:=s) (by omega)))) (by decide)]
    exact qk hc0 [2,3] []
   refine qR (qV h57)<|qB ?_
   by_cases h59:0<m
   ·refine qQ qD (gy 3 2++[(5,.yes true)]) [.k3,.d,.n,.r] [ps 88 (bv (decide (m≤6)))] (on 3 (qT h59) oz) ?_
    by_cases h60:m≤6
    ·refine qS (qT h60)<|yC qD 1 [.k1,.d,.d,.n,.d,.r] [ps 8 (sv (st (Lib.repeatL [65] m.toNat)))] (zO 416 (yS 65 m (by omega) (by omega)) oz)<|qB<|qB<|qQ qD [(1,.val (.av (.bool (decide ((Lib.repeatL [65] m.toNat)=([]:TX))))))] [.k2,.n,.r] [ps 102 (bv (decide ((Lib.repeatL [65] m.toNat)=([]:TX))))] (oc (qv _ _:((st (Lib.repeatL [65] m.toNat)).toList == (st ([]:TX)).toList)=decide ((Lib.repeatL [65] m.toNat)=([]:TX))) oz) ?_
     have h61:¬ ((Lib.repeatL [65] m.toNat)=([]:TX)):=(vv (by omega))
     refine qR (qV h61)<|qF<|qB ?_
     have hlr:=yH 65 m.toNat
     have hl2:=zW (o:=s+1) (by omega) (by omega)
     refine zD qD [(4,.call [] [(iv (s+1))] [] (sv (st (Lib.itoa (s+1)))) []),(5,.val (.av (.string (st ((Lib.repeatL [65] m.toNat)++(Lib.itoa (s+1)))))))] [ps 2 (sv (st ((Lib.repeatL [65] m.toNat)++(Lib.itoa (s+1))))),ps 3 (iv 0)] (oi (s+1) (by omega) (zO 480 (zV (s+1) (by omega) (by omega)) (oc (by first|omega|(simp <;> omega):(((Lib.repeatL [65] m.toNat).length+(Lib.itoa (s+1)).length:Nat):Int)≤9223372036854775807) (oc (qy _ _:st (Lib.repeatL [65] m.toNat)++st (Lib.itoa (s+1))=st ((Lib.repeatL [65] m.toNat)++(Lib.itoa (s+1)))) oz)))) ?_
     rw [zk (s:=s) (h:=h) (q:=(Lib.repeatL [65] m.toNat)) h1 (by omega) (by rw [← hm];exact (q_up (by omega) (by omega))) (by omega)]
     exact qk hc0 [2,3] []
    refine qR (qV h60)<|qB ?_
    by_cases h62:m<(-1)
    ·refine qQ qD (gy 3 2++[(5,.yes true)]) [.k3,.d,.n,.r] [ps 96 (bv (decide ((-7)≤m)))] (on 3 (qT h62) oz) ?_
     by_cases h63:(-7)≤m
     ·refine qS (qT h63)<|qQ qD [(3,.call [] [(sv (st ([100]:TX))),(iv ((0-m)-1))] [] (sv (st (Lib.repeatL [100] ((0-m)-1).toNat))) [])] [.k1,.d,.d,.n,.d,.r] [ps 8 (sv (st (Lib.repeatL [100] ((0-m)-1).toNat)))] (oi (0-m) (by omega) (oi ((0-m)-1) (by omega) (zO 480 (yS 100 ((0-m)-1) (by omega) (by omega)) oz)))<|qB<|qB<|qQ qD [(1,.val (.av (.bool (decide ((Lib.repeatL [100] ((0-m)-1).toNat)=([]:TX))))))] [.k2,.n,.r] [ps 102 (bv (decide ((Lib.repeatL [100] ((0-m)-1).toNat)=([]:TX))))] (oc (qv _ _:((st (Lib.repeatL [100] ((0-m)-1).toNat)).toList == (st ([]:TX)).toList)=decide ((Lib.repeatL [100] ((0-m)-1).toNat)=([]:TX))) oz) ?_
      have h64:¬ ((Lib.repeatL [100] ((0-m)-1).toNat)=([]:TX)):=(vv (by omega))
      refine qR (qV h64)<|qF<|qB ?_
      have hlr:=yH 100 ((0-m)-1).toNat
      have hl2:=zW (o:=s+1) (by omega) (by omega)
      refine zD qD [(4,.call [] [(iv (s+1))] [] (sv (st (Lib.itoa (s+1)))) []),(5,.val (.av (.string (st ((Lib.repeatL [100] ((0-m)-1).toNat)++(Lib.itoa (s+1)))))))] [ps 2 (sv (st ((Lib.repeatL [100] ((0-m)-1).toNat)++(Lib.itoa (s+1))))),ps 3 (iv 0)] (oi (s+1) (by omega) (zO 544 (zV (s+1) (by omega) (by omega)) (oc (by first|omega|(simp only [List.length_append,List.length_cons,List.length_nil];omega):(((Lib.repeatL [100] ((0-m)-1).toNat).length+(Lib.itoa (s+1)).length:Nat):Int)≤9223372036854775807) (oc (qy _ _:st (Lib.repeatL [100] ((0-m)-1).toNat)++st (Lib.itoa (s+1))=st ((Lib.repeatL [100] ((0-m)-1).toNat)++(Lib.itoa (s+1)))) oz)))) ?_
      rw [zk (s:=s) (h:=h) (q:=(Lib.repeatL [100] ((0-m)-1).toNat)) h1 (by omega) (by rw [← hm];exact (q_dn2 (by omega) (by omega) (wP (s:=s) (by omega)))) (by omega)]
      exact qk hc0 [2,3] []
     refine qR (qV h63)<|qF<|qB<|qB<|qQ qD [(1,.val (.av (.bool (decide (([]:TX)=([]:TX))))))] [.k1,.d,.k1,.d,.n,.r] [ps 102 (bv (decide (([]:TX)=([]:TX))))] (oc (qv _ _:((st ([]:TX)).toList == (st ([]:TX)).toList)=decide (([]:TX)=([]:TX))) oz) ?_
     have h65:([]:TX)=([]:TX):=rfl
     refine qS (qT h65)<|qB<|zD qD [] [ps 2 se,ps 3 (iv 3)] (oz) ?_
     rw [zq (s:=s) (h:=h) h1 (by omega) (by rw [← hm];have hp:=wP (s:=s) (by omega);first|exact .inl (by omega)|exact .inr (.inr ⟨hp,by omega⟩))]
     exact qk hc0 [2,3] []
    refine qQ qD (gn 3 2++[(5,.yes false)]) [.k3,.d,.n,.r] [ps 96 (bv false)] (on 3 (qV h62) oz)<|qO (b:=false) rfl rfl<|qF<|qB<|qB<|qQ qD [(1,.val (.av (.bool (decide (([]:TX)=([]:TX))))))] [.k1,.d,.k1,.d,.n,.r] [ps 102 (bv (decide (([]:TX)=([]:TX))))] (oc (qv _ _:((st ([]:TX)).toList == (st ([]:TX)).toList)=decide (([]:TX)=([]:TX))) oz) ?_
    have h66:([]:TX)=([]:TX):=rfl
    refine qS (qT h66)<|qB<|zD qD [] [ps 2 se,ps 3 (iv 3)] (oz) ?_
    rw [zq (s:=s) (h:=h) h1 (by omega) (by rw [← hm];have hp:=wP (s:=s) (by omega);first|exact .inl (by omega)|exact .inr (.inr ⟨hp,by omega⟩))]
    exact qk hc0 [2,3] []
   refine qQ qD (gn 3 2++[(5,.yes false)]) [.k3,.d,.n,.r] [ps 88 (bv false)] (on 3 (qV h59) oz)<|qO (b:=false) rfl rfl<|qB ?_
   by_cases h67:m<(-1)
   ·refine qQ qD (gy 3 2++[(5,.yes true)]) [.k3,.d,.n,.r] [ps 96 (bv (decide ((-7)≤m)))] (on 3 (qT h67) oz) ?_
    by_cases h68:(-7)≤m
    ·refine qS (qT h68)<|qQ qD [(3,.call [] [(sv (st ([100]:TX))),(iv ((0-m)-1))] [] (sv (st (Lib.repeatL [100] ((0-m)-1).toNat))) [])] [.k1,.d,.d,.n,.d,.r] [ps 8 (sv (st (Lib.repeatL [100] ((0-m)-1).toNat)))] (oi (0-m) (by omega) (oi ((0-m)-1) (by omega) (zO 480 (yS 100 ((0-m)-1) (by omega) (by omega)) oz)))<|qB<|qB<|qQ qD [(1,.val (.av (.bool (decide ((Lib.repeatL [100] ((0-m)-1).toNat)=([]:TX))))))] [.k2,.n,.r] [ps 102 (bv (decide ((Lib.repeatL [100] ((0-m)-1).toNat)=([]:TX))))] (oc (qv _ _:((st (Lib.repeatL [100] ((0-m)-1).toNat)).toList == (st ([]:TX)).toList)=decide ((Lib.repeatL [100] ((0-m)-1).toNat)=([]:TX))) oz) ?_
     have h69:¬ ((Lib.repeatL [100] ((0-m)-1).toNat)=([]:TX)):=(vv (by omega))
     refine qR (qV h69)<|qF<|qB ?_
     have hlr:=yH 100 ((0-m)-1).toNat
     have hl2:=zW (o:=s+1) (by omega) (by omega)
     refine zD qD [(4,.call [] [(iv (s+1))] [] (sv (st (Lib.itoa (s+1)))) []),(5,.val (.av (.string (st ((Lib.repeatL [100] ((0-m)-1).toNat)++(Lib.itoa (s+1)))))))] [ps 2 (sv (st ((Lib.repeatL [100] ((0-m)-1).toNat)++(Lib.itoa (s+1))))),ps 3 (iv 0)] (oi (s+1) (by omega) (zO 544 (zV (s+1) (by omega) (by omega)) (oc (by first|omega|(simp only [List.length_append,List.length_cons,List.length_nil];omega):(((Lib.repeatL [100] ((0-m)-1).toNat).length+(Lib.itoa (s+1)).length:Nat):Int)≤9223372036854775807) (oc (qy _ _:st (Lib.repeatL [100] ((0-m)-1).toNat)++st (Lib.itoa (s+1))=st ((Lib.repeatL [100] ((0-m)-1).toNat)++(Lib.itoa (s+1)))) oz)))) ?_
     rw [zk (s:=s) (h:=h) (q:=(Lib.repeatL [100] ((0-m)-1).toNat)) h1 (by omega) (by rw [← hm];exact (q_dn2 (by omega) (by omega) (wP (s:=s) (by omega)))) (by omega)]
     exact qk hc0 [2,3] []
    refine qR (qV h68)<|qF<|qB<|qB<|qQ qD [(1,.val (.av (.bool (decide (([]:TX)=([]:TX))))))] [.k1,.d,.k1,.d,.n,.r] [ps 102 (bv (decide (([]:TX)=([]:TX))))] (oc (qv _ _:((st ([]:TX)).toList == (st ([]:TX)).toList)=decide (([]:TX)=([]:TX))) oz) ?_
    have h70:([]:TX)=([]:TX):=rfl
    refine qS (qT h70)<|qB<|zD qD [] [ps 2 se,ps 3 (iv 3)] (oz) ?_
    rw [zq (s:=s) (h:=h) h1 (by omega) (by rw [← hm];have hp:=wP (s:=s) (by omega);first|exact .inl (by omega)|exact .inr (.inr ⟨hp,by omega⟩))]
    exact qk hc0 [2,3] []
   refine qQ qD (gn 3 2++[(5,.yes false)]) [.k3,.d,.n,.r] [ps 96 (bv false)] (on 3 (qV h67) oz)<|qO (b:=false) rfl rfl<|qF<|qB<|qB<|qQ qD [(1,.val (.av (.bool (decide (([]:TX)=([]:TX))))))] [.k1,.d,.k1,.d,.n,.r] [ps 102 (bv (decide (([]:TX)=([]:TX))))] (oc (qv _ _:((st ([]:TX)).toList == (st ([]:TX)).toList)=decide (([]:TX)=([]:TX))) oz) ?_
   have h71:([]:TX)=([]:TX):=rfl
   refine qS (qT h71)<|qB<|zD qD [] [ps 2 se,ps 3 (iv 3)] (oz) ?_
   rw [zq (s:=s) (h:=h) h1 (by omega) (by rw [← hm];have hp:=wP (s:=s) (by omega);first|exact .inl (by omega)|exact .inr (.inr ⟨hp,by omega⟩))]
   exact qk hc0 [2,3] []
  refine qQ qD (gn 4 7++[(11,.gd false (.yes false)),(12,.yes false)]) [.k1,.d,.n,.r] [ps 24 (bv false)] (on 4 (qV h2) (on 3 (qV h4) (oc (qV h2) (oc (qV h4) (oc (qV h2) oz)))))<|qO (b:=false) rfl rfl<|qF<|qB ?_
  obtain ⟨m,hm⟩:∃ m,m=vP s h:=⟨_,rfl⟩
  have hmb : -9000≤m∧m≤9000:=by rw [hm];unfold vP;have:=Pi.nat7_range (s % 7);omega
  have hwb:=Pi.white_bd s (by omega)
  refine wC qD [(4,.call [] [(iv s)] [] (iv (Pi.white s)) [])] [[],[0],[],[2],[2,3],[0,1,2,3,4],[0,1,2,3,4,5]] [([82],[2]),([84],[1,82]),([86],[2]),([88],[1,86]),([90],[88]),([92],[84,90]),([12],[92])] [.k1,.n,.d,.r] [ps 6 (iv (h-(Pi.white s)))] (zO 184 (YU s (by omega) (by omega)) (oi (h-(Pi.white s)) (by omega) oz))<|qB<|qj (Wk.eq (show _=[ps 1 (.opt 0 0),ps 6 (iv m),pb 0 41 [(iv s),(iv h)]] from by rw [show h-Pi.white s=m from by rw [hm,qep]])) ?_
  refine qQ qD [] [.k2,.n,.r] [ps 7 (iv ((s).tmod 7))] (oc (by decide:7≠(0:Int)) oz)<|qB<|qj (Wk.eq (show _=[ps 1 (.opt 0 0),ps 6 (iv m),ps 7 (iv (s % 7)),pb 0 41 [(iv s),(iv h)]] from by rw [Int.tmod_eq_emod_of_nonneg (show 0≤s from by omega)])) ?_
  refine qH qD [.k3,.n,.r] [ps 8 se]<|qB<|qB ?_
  by_cases h72:(s % 7)=0
  ·refine qQ qD (gy 3 2++[(5,.yes true)]++gy 7 2) [.k2,.d,.k1,.n,.r] [ps 59 (bv true)] (on 3 (qT h72) (on 2 tt oz))<|qL (b:=true) rfl rfl<|qB<|qH qD [.k3,.d,.n,.r] [ps 61 (bv (decide (m=0)))] ?_
   by_cases h73:m=0
   ·refine qS (qT h73)<|qH qD [.k1,.d,.d,.n,.d,.r] [ps 8 (sv (st ([80]:TX)))]<|qB<|qB<|qQ qD [(1,.val (.av (.bool (decide (([80]:TX)=([]:TX))))))] [.k2,.n,.r] [ps 102 (bv (decide (([80]:TX)=([]:TX))))] (oc (qv _ _:((st ([80]:TX)).toList == (st ([]:TX)).toList)=decide (([80]:TX)=([]:TX))) oz) ?_
    have h74:¬ (([80]:TX)=([]:TX)):=(by decide)
    refine qR (qV h74)<|qF<|qB ?_
    have hl2:=zW (o:=s+1) (by omega) (by omega)
    refine zD qD [(4,.call [] [(iv (s+1))] [] (sv (st (Lib.itoa (s+1)))) []),(5,.val (.av (.string (st (([80]:TX)++(Lib.itoa (s+1)))))))] [ps 2 (sv (st (([80]:TX)++(Lib.itoa (s+1))))),ps 3 (iv 0)] (oi (s+1) (by omega) (zO 400 (zV (s+1) (by omega) (by omega)) (oc (by first|omega|(simp <;> omega):((([80]:TX).length+(Lib.itoa (s+1)).length:Nat):Int)≤9223372036854775807) (oc (qy _ _:st ([80]:TX)++st (Lib.itoa (s+1))=st (([80]:TX)++(Lib.itoa (s+1)))) oz)))) ?_
    rw [zk (s:=s) (h:=h) (q:=([80]:TX)) h1 (by omega) (by rw [← hm];exact (YK (by omega) (zS (s:=s) (by omega)))) (by decide)]
    exact qk hc0 [2,3] []
   refine qR (qV h73)<|qB ?_
   by_cases h75:0<m
   ·refine qQ qD (gy 3 2++[(5,.yes true)]) [.k3,.d,.n,.r] [ps 67 (bv (decide (m≤6)))] (on 3 (qT h75) oz) ?_
    by_cases h76:m≤6
    ·refine qS (qT h76)<|yC qD 1 [.k1,.d,.d,.n,.d,.r] [ps 8 (sv (st (Lib.repeatL [65] m.toNat)))] (zO 400 (yS 65 m (by omega) (by omega)) oz)<|qB<|qB<|qQ qD [(1,.val (.av (.bool (decide ((Lib.repeatL [65] m.toNat)=([]:TX))))))] [.k2,.n,.r] [ps 102 (bv (decide ((Lib.repeatL [65] m.toNat)=([]:TX))))] (oc (qv _ _:((st (Lib.repeatL [65] m.toNat)).toList == (st ([]:TX)).toList)=decide ((Lib.repeatL [65] m.toNat)=([]:TX))) oz) ?_
     have h77:¬ ((Lib.repeatL [65] m.toNat)=([]:TX)):=(vv (by omega))
     refine qR (qV h77)<|qF<|qB ?_
     have hlr:=yH 65 m.toNat
     have hl2:=zW (o:=s+1) (by omega) (by omega)
     refine zD qD [(4,.call [] [(iv (s+1))] [] (sv (st (Lib.itoa (s+1)))) []),(5,.val (.av (.string (st ((Lib.repeatL [65] m.toNat)++(Lib.itoa (s+1)))))))] [ps 2 (sv (st ((Lib.repeatL [65] m.toNat)++(Lib.itoa (s+1))))),ps 3 (iv 0)] (oi (s+1) (by omega) (zO 464 (zV (s+1) (by omega) (by omega)) (oc (by first|omega|(simp <;> omega):(((Lib.repeatL [65] m.toNat).length+(Lib.itoa (s+1)).length:Nat):Int)≤9223372036854775807) (oc (qy _ _:st (Lib.repeatL [65] m.toNat)++st (Lib.itoa (s+1))=st ((Lib.repeatL [65] m.toNat)++(Lib.itoa (s+1)))) oz)))) ?_
     rw [zk (s:=s) (h:=h) (q:=(Lib.repeatL [65] m.toNat)) h1 (by omega) (by rw [← hm];exact (q_up (by omega) (by omega))) (by omega)]
     exact qk hc0 [2,3] []
    refine qR (qV h76)<|qB ?_
    by_cases h78:m<0
    ·refine qQ qD (gy 3 2++[(5,.yes true)]) [.k3,.d,.n,.r] [ps 75 (bv (decide ((-6)≤m)))] (on 3 (qT h78) oz) ?_
     by_cases h79:(-6)≤m
     ·refine qS (qT h79)<|qQ qD [(2,.call [] [(sv (st ([100]:TX))),(iv (0-m))] [] (sv (st (Lib.repeatL [100] (0-m).toNat))) [])] [.k1,.d,.d,.n,.d,.r] [ps 8 (sv (st (Lib.repeatL [100] (0-m).toNat)))] (oi (0-m) (by omega) (zO 456 (yS 100 (0-m) (by omega) (by omega)) oz))<|qB<|qB<|qQ qD [(1,.val (.av (.bool (decide ((Lib.repeatL [100] (0-m).toNat)=([]:TX))))))] [.k2,.n,.r] [ps 102 (bv (decide ((Lib.repeatL [100] (0-m).toNat)=([]:TX))))] (oc (qv _ _:((st (Lib.repeatL [100] (0-m).toNat)).toList == (st ([]:TX)).toList)=decide ((Lib.repeatL [100] (0-m).toNat)=([]:TX))) oz) ?_
      have h80:¬ ((Lib.repeatL [100] (0-m).toNat)=([]:TX)):=(vv (by omega))
      refine qR (qV h80)<|qF<|qB ?_
      have hlr:=yH 100 (0-m).toNat
      have hl2:=zW (o:=s+1) (by omega) (by omega)
      refine zD qD [(4,.call [] [(iv (s+1))] [] (sv (st (Lib.itoa (s+1)))) []),(5,.val (.av (.string (st ((Lib.repeatL [100] (0-m).toNat)++(Lib.itoa (s+1)))))))] [ps 2 (sv (st ((Lib.repeatL [100] (0-m).toNat)++(Lib.itoa (s+1))))),ps 3 (iv 0)] (oi (s+1) (by omega) (zO 520 (zV (s+1) (by omega) (by omega)) (oc (by first|omega|(simp only [List.length_append,List.length_cons,List.length_nil];omega):(((Lib.repeatL [100] (0-m).toNat).length+(Lib.itoa (s+1)).length:Nat):Int)≤9223372036854775807) (oc (qy _ _:st (Lib.repeatL [100] (0-m).toNat)++st (Lib.itoa (s+1))=st ((Lib.repeatL [100] (0-m).toNat)++(Lib.itoa (s+1)))) oz)))) ?_
      rw [zk (s:=s) (h:=h) (q:=(Lib.repeatL [100] (0-m).toNat)) h1 (by omega) (by rw [← hm];exact (q_dn (by omega) (by omega) (zS (s:=s) (by omega)))) (by omega)]
      exact qk hc0 [2,3] []
     refine qR (qV h79)<|qF<|qB<|qB<|qQ qD [(1,.val (.av (.bool (decide (([]:TX)=([]:TX))))))] [.k1,.d,.k1,.d,.n,.r] [ps 102 (bv (decide (([]:TX)=([]:TX))))] (oc (qv _ _:((st ([]:TX)).toList == (st ([]:TX)).toList)=decide (([]:TX)=([]:TX))) oz) ?_
     have h81:([]:TX)=([]:TX):=rfl
     refine qS (qT h81)<|qB<|zD qD [] [ps 2 se,ps 3 (iv 3)] (oz) ?_
     rw [zq (s:=s) (h:=h) h1 (by omega) (by rw [← hm];have hp:=zS (s:=s) (by omega);first|exact .inl (by omega)|exact .inr (.inl ⟨hp,by omega⟩))]
     exact qk hc0 [2,3] []
    refine qQ qD (gn 3 2++[(5,.yes false)]) [.k3,.d,.n,.r] [ps 75 (bv false)] (on 3 (qV h78) oz)<|qO (b:=false) rfl rfl<|qF<|qB<|qB<|qQ qD [(1,.val (.av (.bool (decide (([]:TX)=([]:TX))))))] [.k1,.d,.k1,.d,.n,.r] [ps 102 (bv (decide (([]:TX)=([]:TX))))] (oc (qv _ _:((st ([]:TX)).toList == (st ([]:TX)).toList)=decide (([]:TX)=([]:TX))) oz) ?_
    have h82:([]:TX)=([]:TX):=rfl
    refine qS (qT h82)<|qB<|zD qD [] [ps 2 se,ps 3 (iv 3)] (oz) ?_
    rw [zq (s:=s) (h:=h) h1 (by omega) (by rw [← hm];have hp:=zS (s:=s) (by omega);first|exact .inl (by omega)|exact .inr (.inl ⟨hp,by omega⟩))]
    exact qk hc0 [2,3] []
   refine qQ qD (gn 3 2++[(5,.yes false)]) [.k3,.d,.n,.r] [ps 67 (bv false)] (on 3 (qV h75) oz)<|qO (b:=false) rfl rfl<|qB ?_
   by_cases h83:m<0
   ·refine qQ qD (gy 3 2++[(5,.yes true)]) [.k3,.d,.n,.r] [ps 75 (bv (decide ((-6)≤m)))] (on 3 (qT h83) oz) ?_
    by_cases h84:(-6)≤m
    ·refine qS (qT h84)<|qQ qD [(2,.call [] [(sv (st ([100]:TX))),(iv (0-m))] [] (sv (st (Lib.repeatL [100] (0-m).toNat))) [])] [.k1,.d,.d,.n,.d,.r] [ps 8 (sv (st (Lib.repeatL [100] (0-m).toNat)))] (oi (0-m) (by omega) (zO 456 (yS 100 (0-m) (by omega) (by omega)) oz))<|qB<|qB<|qQ qD [(1,.val (.av (.bool (decide ((Lib.repeatL [100] (0-m).toNat)=([]:TX))))))] [.k2,.n,.r] [ps 102 (bv (decide ((Lib.repeatL [100] (0-m).toNat)=([]:TX))))] (oc (qv _ _:((st (Lib.repeatL [100] (0-m).toNat)).toList == (st ([]:TX)).toList)=decide ((Lib.repeatL [100] (0-m).toNat)=([]:TX))) oz) ?_
     have h85:¬ ((Lib.repeatL [100] (0-m).toNat)=([]:TX)):=(vv (by omega))
     refine qR (qV h85)<|qF<|qB ?_
     have hlr:=yH 100 (0-m).toNat
     have hl2:=zW (o:=s+1) (by omega) (by omega)
     refine zD qD [(4,.call [] [(iv (s+1))] [] (sv (st (Lib.itoa (s+1)))) []),(5,.val (.av (.string (st ((Lib.repeatL [100] (0-m).toNat)++(Lib.itoa (s+1)))))))] [ps 2 (sv (st ((Lib.repeatL [100] (0-m).toNat)++(Lib.itoa (s+1))))),ps 3 (iv 0)] (oi (s+1) (by omega) (zO 520 (zV (s+1) (by omega) (by omega)) (oc (by first|omega|(simp only [List.length_append,List.length_cons,List.length_nil];omega):(((Lib.repeatL [100] (0-m).toNat).length+(Lib.itoa (s+1)).length:Nat):Int)≤9223372036854775807) (oc (qy _ _:st (Lib.repeatL [100] (0-m).toNat)++st (Lib.itoa (s+1))=st ((Lib.repeatL [100] (0-m).toNat)++(Lib.itoa (s+1)))) oz)))) ?_
     rw [zk (s:=s) (h:=h) (q:=(Lib.repeatL [100] (0-m).toNat)) h1 (by omega) (by rw [← hm];exact (q_dn (by omega) (by omega) (zS (s:=s) (by omega)))) (by omega)]
     exact qk hc0 [2,3] []
    refine qR (qV h84)<|qF<|qB<|qB<|qQ qD [(1,.val (.av (.bool (decide (([]:TX)=([]:TX))))))] [.k1,.d,.k1,.d,.n,.r] [ps 102 (bv (decide (([]:TX)=([]:TX))))] (oc (qv _ _:((st ([]:TX)).toList == (st ([]:TX)).toList)=decide (([]:TX)=([]:TX))) oz) ?_
    have h86:([]:TX)=([]:TX):=rfl
    refine qS (qT h86)<|qB<|zD qD [] [ps 2 se,ps 3 (iv 3)] (oz) ?_
    rw [zq (s:=s) (h:=h) h1 (by omega) (by rw [← hm];have hp:=zS (s:=s) (by omega);first|exact .inl (by omega)|exact .inr (.inl ⟨hp,by omega⟩))]
    exact qk hc0 [2,3] []
   refine qQ qD (gn 3 2++[(5,.yes false)]) [.k3,.d,.n,.r] [ps 75 (bv false)] (on 3 (qV h83) oz)<|qO (b:=false) rfl rfl<|qF<|qB<|qB<|qQ qD [(1,.val (.av (.bool (decide (([]:TX)=([]:TX))))))] [.k1,.d,.k1,.d,.n,.r] [ps 102 (bv (decide (([]:TX)=([]:TX))))] (oc (qv _ _:((st ([]:TX)).toList == (st ([]:TX)).toList)=decide (([]:TX)=([]:TX))) oz) ?_
   have h87:([]:TX)=([]:TX):=rfl
   refine qS (qT h87)<|qB<|zD qD [] [ps 2 se,ps 3 (iv 3)] (oz) ?_
   rw [zq (s:=s) (h:=h) h1 (by omega) (by rw [← hm];have hp:=zS (s:=s) (by omega);first|exact .inl (by omega)|exact .inr (.inl ⟨hp,by omega⟩))]
   exact qk hc0 [2,3] []
  by_cases h88:(s % 7)=3
  ·refine qQ qD (gn 3 2++[(5,.yes false)]++gy 7 2++[(9,.yes true)]) [.k2,.d,.k1,.n,.r] [ps 59 (bv true)] (on 3 (qV h72) (on 3 (qT h88) oz))<|qL (b:=true) rfl rfl<|qB<|qH qD [.k3,.d,.n,.r] [ps 61 (bv (decide (m=0)))] ?_
   by_cases h89:m=0
   ·refine qS (qT h89)<|qH qD [.k1,.d,.d,.n,.d,.r] [ps 8 (sv (st ([80]:TX)))]<|qB<|qB<|qQ qD [(1,.val (.av (.bool (decide (([80]:TX)=([]:TX))))))] [.k2,.n,.r] [ps 102 (bv (decide (([80]:TX)=([]:TX))))] (oc (qv _ _:((st ([80]:TX)).toList == (st ([]:TX)).toList)=decide (([80]:TX)=([]:TX))) oz) ?_
    have h90:¬ (([80]:TX)=([]:TX)):=(by decide)
    refine qR (qV h90)<|qF<|qB ?_
    have hl2:=zW (o:=s+1) (by omega) (by omega)
    refine zD qD [(4,.call [] [(iv (s+1))] [] (sv (st (Lib.itoa (s+1)))) []),(5,.val (.av (.string (st (([80]:TX)++(Lib.itoa (s+1)))))))] [ps 2 (sv (st (([80]:TX)++(Lib.itoa (s+1))))),ps 3 (iv 0)] (oi (s+1) (by omega) (zO 400 (zV (s+1) (by omega) (by omega)) (oc (by first|omega|(simp <;> omega):((([80]:TX).length+(Lib.itoa (s+1)).length:Nat):Int)≤9223372036854775807) (oc (qy _ _:st ([80]:TX)++st (Lib.itoa (s+1))=st (([80]:TX)++(Lib.itoa (s+1)))) oz)))) ?_
    rw [zk (s:=s) (h:=h) (q:=([80]:TX)) h1 (by omega) (by rw [← hm];exact (YK (by omega) (zS (s:=s) (by omega)))) (by decide)]
    exact qk hc0 [2,3] []
   refine qR (qV h89)<|qB ?_
   by_cases h91:0<m
   ·refine qQ qD (gy 3 2++[(5,.yes true)]) [.k3,.d,.n,.r] [ps 67 (bv (decide (m≤6)))] (on 3 (qT h91) oz) ?_
    by_cases h92:m≤6
    ·refine qS (qT h92)<|yC qD 1 [.k1,.d,.d,.n,.d,.r] [ps 8 (sv (st (Lib.repeatL [65] m.toNat)))] (zO 400 (yS 65 m (by omega) (by omega)) oz)<|qB<|qB<|qQ qD [(1,.val (.av (.bool (decide ((Lib.repeatL [65] m.toNat)=([]:TX))))))] [.k2,.n,.r] [ps 102 (bv (decide ((Lib.repeatL [65] m.toNat)=([]:TX))))] (oc (qv _ _:((st (Lib.repeatL [65] m.toNat)).toList == (st ([]:TX)).toList)=decide ((Lib.repeatL [65] m.toNat)=([]:TX))) oz) ?_
     have h93:¬ ((Lib.repeatL [65] m.toNat)=([]:TX)):=(vv (by omega))
     refine qR (qV h93)<|qF<|qB ?_
     have hlr:=yH 65 m.toNat
     have hl2:=zW (o:=s+1) (by omega) (by omega)
     refine zD qD [(4,.call [] [(iv (s+1))] [] (sv (st (Lib.itoa (s+1)))) []),(5,.val (.av (.string (st ((Lib.repeatL [65] m.toNat)++(Lib.itoa (s+1)))))))] [ps 2 (sv (st ((Lib.repeatL [65] m.toNat)++(Lib.itoa (s+1))))),ps 3 (iv 0)] (oi (s+1) (by omega) (zO 464 (zV (s+1) (by omega) (by omega)) (oc (by first|omega|(simp <;> omega):(((Lib.repeatL [65] m.toNat).length+(Lib.itoa (s+1)).length:Nat):Int)≤9223372036854775807) (oc (qy _ _:st (Lib.repeatL [65] m.toNat)++st (Lib.itoa (s+1))=st ((Lib.repeatL [65] m.toNat)++(Lib.itoa (s+1)))) oz)))) ?_
     rw [zk (s:=s) (h:=h) (q:=(Lib.repeatL [65] m.toNat)) h1 (by omega) (by rw [← hm];exact (q_up (by omega) (by omega))) (by omega)]
     exact qk hc0 [2,3] []
    refine qR (qV h92)<|qB ?_
    by_cases h94:m<0
    ·refine qQ qD (gy 3 2++[(5,.yes true)]) [.k3,.d,.n,.r] [ps 75 (bv (decide ((-6)≤m)))] (on 3 (qT h94) oz) ?_
     by_cases h95:(-6)≤m
     ·refine qS (qT h95)<|qQ qD [(2,.call [] [(sv (st ([100]:TX))),(iv (0-m))] [] (sv (st (Lib.repeatL [100] (0-m).toNat))) [])] [.k1,.d,.d,.n,.d,.r] [ps 8 (sv (st (Lib.repeatL [100] (0-m).toNat)))] (oi (0-m) (by omega) (zO 456 (yS 100 (0-m) (by omega) (by omega)) oz))<|qB<|qB<|qQ qD [(1,.val (.av (.bool (decide ((Lib.repeatL [100] (0-m).toNat)=([]:TX))))))] [.k2,.n,.r] [ps 102 (bv (decide ((Lib.repeatL [100] (0-m).toNat)=([]:TX))))] (oc (qv _ _:((st (Lib.repeatL [100] (0-m).toNat)).toList == (st ([]:TX)).toList)=decide ((Lib.repeatL [100] (0-m).toNat)=([]:TX))) oz) ?_
      have h96:¬ ((Lib.repeatL [100] (0-m).toNat)=([]:TX)):=(vv (by omega))
      refine qR (qV h96)<|qF<|qB ?_
      have hlr:=yH 100 (0-m).toNat
      have hl2:=zW (o:=s+1) (by omega) (by omega)
      refine zD qD [(4,.call [] [(iv (s+1))] [] (sv (st (Lib.itoa (s+1)))) []),(5,.val (.av (.string (st ((Lib.repeatL [100] (0-m).toNat)++(Lib.itoa (s+1)))))))] [ps 2 (sv (st ((Lib.repeatL [100] (0-m).toNat)++(Lib.itoa (s+1))))),ps 3 (iv 0)] (oi (s+1) (by omega) (zO 520 (zV (s+1) (by omega) (by omega)) (oc (by first|omega|(simp only [List.length_append,List.length_cons,List.length_nil];omega):(((Lib.repeatL [100] (0-m).toNat).length+(Lib.itoa (s+1)).length:Nat):Int)≤9223372036854775807) (oc (qy _ _:st (Lib.repeatL [100] (0-m).toNat)++st (Lib.itoa (s+1))=st ((Lib.repeatL [100] (0-m).toNat)++(Lib.itoa (s+1)))) oz)))) ?_
      rw [zk (s:=s) (h:=h) (q:=(Lib.repeatL [100] (0-m).toNat)) h1 (by omega) (by rw [← hm];exact (q_dn (by omega) (by omega) (zS (s:=s) (by omega)))) (by omega)]
      exact qk hc0 [2,3] []
     refine qR (qV h95)<|qF<|qB<|qB<|qQ qD [(1,.val (.av (.bool (decide (([]:TX)=([]:TX))))))] [.k1,.d,.k1,.d,.n,.r] [ps 102 (bv (decide (([]:TX)=([]:TX))))] (oc (qv _ _:((st ([]:TX)).toList == (st ([]:TX)).toList)=decide (([]:TX)=([]:TX))) oz) ?_
     have h97:([]:TX)=([]:TX):=rfl
     refine qS (qT h97)<|qB<|zD qD [] [ps 2 se,ps 3 (iv 3)] (oz) ?_
     rw [zq (s:=s) (h:=h) h1 (by omega) (by rw [← hm];have hp:=zS (s:=s) (by omega);first|exact .inl (by omega)|exact .inr (.inl ⟨hp,by omega⟩))]
     exact qk hc0 [2,3] []
    refine qQ qD (gn 3 2++[(5,.yes false)]) [.k3,.d,.n,.r] [ps 75 (bv false)] (on 3 (qV h94) oz)<|qO (b:=false) rfl rfl<|qF<|qB<|qB<|qQ qD [(1,.val (.av (.bool (decide (([]:TX)=([]:TX))))))] [.k1,.d,.k1,.d,.n,.r] [ps 102 (bv (decide (([]:TX)=([]:TX))))] (oc (qv _ _:((st ([]:TX)).toList == (st ([]:TX)).toList)=decide (([]:TX)=([]:TX))) oz) ?_
    have h98:([]:TX)=([]:TX):=rfl
    refine qS (qT h98)<|qB<|zD qD [] [ps 2 se,ps 3 (iv 3)] (oz) ?_
    rw [zq (s:=s) (h:=h) h1 (by omega) (by rw [← hm];have hp:=zS (s:=s) (by omega);first|exact .inl (by omega)|exact .inr (.inl ⟨hp,by omega⟩))]
    exact qk hc0 [2,3] []
   refine qQ qD (gn 3 2++[(5,.yes false)]) [.k3,.d,.n,.r] [ps 67 (bv false)] (on 3 (qV h91) oz)<|qO (b:=false) rfl rfl<|qB ?_
   by_cases h99:m<0
   ·refine qQ qD (gy 3 2++[(5,.yes true)]) [.k3,.d,.n,.r] [ps 75 (bv (decide ((-6)≤m)))] (on 3 (qT h99) oz) ?_
    by_cases h100:(-6)≤m
    ·refine qS (qT h100)<|qQ qD [(2,.call [] [(sv (st ([100]:TX))),(iv (0-m))] [] (sv (st (Lib.repeatL [100] (0-m).toNat))) [])] [.k1,.d,.d,.n,.d,.r] [ps 8 (sv (st (Lib.repeatL [100] (0-m).toNat)))] (oi (0-m) (by omega) (zO 456 (yS 100 (0-m) (by omega) (by omega)) oz))<|qB<|qB<|qQ qD [(1,.val (.av (.bool (decide ((Lib.repeatL [100] (0-m).toNat)=([]:TX))))))] [.k2,.n,.r] [ps 102 (bv (decide ((Lib.repeatL [100] (0-m).toNat)=([]:TX))))] (oc (qv _ _:((st (Lib.repeatL [100] (0-m).toNat)).toList == (st ([]:TX)).toList)=decide ((Lib.repeatL [100] (0-m).toNat)=([]:TX))) oz) ?_
     have h101:¬ ((Lib.repeatL [100] (0-m).toNat)=([]:TX)):=(vv (by omega))
     refine qR (qV h101)<|qF<|qB ?_
     have hlr:=yH 100 (0-m).toNat
     have hl2:=zW (o:=s+1) (by omega) (by omega)
     refine zD qD [(4,.call [] [(iv (s+1))] [] (sv (st (Lib.itoa (s+1)))) []),(5,.val (.av (.string (st ((Lib.repeatL [100] (0-m).toNat)++(Lib.itoa (s+1)))))))] [ps 2 (sv (st ((Lib.repeatL [100] (0-m).toNat)++(Lib.itoa (s+1))))),ps 3 (iv 0)] (oi (s+1) (by omega) (zO 520 (zV (s+1) (by omega) (by omega)) (oc (by first|omega|(simp only [List.length_append,List.length_cons,List.length_nil];omega):(((Lib.repeatL [100] (0-m).toNat).length+(Lib.itoa (s+1)).length:Nat):Int)≤9223372036854775807) (oc (qy _ _:st (Lib.repeatL [100] (0-m).toNat)++st (Lib.itoa (s+1))=st ((Lib.repeatL [100] (0-m).toNat)++(Lib.itoa (s+1)))) oz)))) ?_
     rw [zk (s:=s) (h:=h) (q:=(Lib.repeatL [100] (0-m).toNat)) h1 (by omega) (by rw [← hm];exact (q_dn (by omega) (by omega) (zS (s:=s) (by omega)))) (by omega)]
     exact qk hc0 [2,3] []
    refine qR (qV h100)<|qF<|qB<|qB<|qQ qD [(1,.val (.av (.bool (decide (([]:TX)=([]:TX))))))] [.k1,.d,.k1,.d,.n,.r] [ps 102 (bv (decide (([]:TX)=([]:TX))))] (oc (qv _ _:((st ([]:TX)).toList == (st ([]:TX)).toList)=decide (([]:TX)=([]:TX))) oz) ?_
    have h102:([]:TX)=([]:TX):=rfl
    refine qS (qT h102)<|qB<|zD qD [] [ps 2 se,ps 3 (iv 3)] (oz) ?_
    rw [zq (s:=s) (h:=h) h1 (by omega) (by rw [← hm];have hp:=zS (s:=s) (by omega);first|exact .inl (by omega)|exact .inr (.inl ⟨hp,by omega⟩))]
    exact qk hc0 [2,3] []
   refine qQ qD (gn 3 2++[(5,.yes false)]) [.k3,.d,.n,.r] [ps 75 (bv false)] (on 3 (qV h99) oz)<|qO (b:=false) rfl rfl<|qF<|qB<|qB<|qQ qD [(1,.val (.av (.bool (decide (([]:TX)=([]:TX))))))] [.k1,.d,.k1,.d,.n,.r] [ps 102 (bv (decide (([]:TX)=([]:TX))))] (oc (qv _ _:((st ([]:TX)).toList == (st ([]:TX)).toList)=decide (([]:TX)=([]:TX))) oz) ?_
   have h103:([]:TX)=([]:TX):=rfl
   refine qS (qT h103)<|qB<|zD qD [] [ps 2 se,ps 3 (iv 3)] (oz) ?_
   rw [zq (s:=s) (h:=h) h1 (by omega) (by rw [← hm];have hp:=zS (s:=s) (by omega);first|exact .inl (by omega)|exact .inr (.inl ⟨hp,by omega⟩))]
   exact qk hc0 [2,3] []
  refine qQ qD (gn 3 2++[(5,.yes false)]++gn 7 2++[(9,.yes false)]) [.k2,.d,.k1,.n,.r] [ps 59 (bv (decide ((s % 7)=4)))] (on 3 (qV h72) (on 3 (qV h88) oz)) ?_
  by_cases h104:(s % 7)=4
  ·refine qS (qT h104)<|qB<|qH qD [.k3,.d,.n,.r] [ps 61 (bv (decide (m=0)))] ?_
   by_cases h105:m=0
   ·refine qS (qT h105)<|qH qD [.k1,.d,.d,.n,.d,.r] [ps 8 (sv (st ([80]:TX)))]<|qB<|qB<|qQ qD [(1,.val (.av (.bool (decide (([80]:TX)=([]:TX))))))] [.k2,.n,.r] [ps 102 (bv (decide (([80]:TX)=([]:TX))))] (oc (qv _ _:((st ([80]:TX)).toList == (st ([]:TX)).toList)=decide (([80]:TX)=([]:TX))) oz) ?_
    have h106:¬ (([80]:TX)=([]:TX)):=(by decide)
    refine qR (qV h106)<|qF<|qB ?_
    have hl2:=zW (o:=s+1) (by omega) (by omega)
    refine zD qD [(4,.call [] [(iv (s+1))] [] (sv (st (Lib.itoa (s+1)))) []),(5,.val (.av (.string (st (([80]:TX)++(Lib.itoa (s+1)))))))] [ps 2 (sv (st (([80]:TX)++(Lib.itoa (s+1))))),ps 3 (iv 0)] (oi (s+1) (by omega) (zO 400 (zV (s+1) (by omega) (by omega)) (oc (by first|omega|(simp <;> omega):((([80]:TX).length+(Lib.itoa (s+1)).length:Nat):Int)≤9223372036854775807) (oc (qy _ _:st ([80]:TX)++st (Lib.itoa (s+1))=st (([80]:TX)++(Lib.itoa (s+1)))) oz)))) ?_
    rw [zk (s:=s) (h:=h) (q:=([80]:TX)) h1 (by omega) (by rw [← hm];exact (YK (by omega) (zS (s:=s) (by omega)))) (by decide)]
    exact qk hc0 [2,3] []
   refine qR (qV h105)<|qB ?_
   by_cases h107:0<m
   ·refine qQ qD (gy 3 2++[(5,.yes true)]) [.k3,.d,.n,.r] [ps 67 (bv (decide (m≤6)))] (on 3 (qT h107) oz) ?_
    by_cases h108:m≤6
    ·refine qS (qT h108)<|yC qD 1 [.k1,.d,.d,.n,.d,.r] [ps 8 (sv (st (Lib.repeatL [65] m.toNat)))] (zO 400 (yS 65 m (by omega) (by omega)) oz)<|qB<|qB<|qQ qD [(1,.val (.av (.bool (decide ((Lib.repeatL [65] m.toNat)=([]:TX))))))] [.k2,.n,.r] [ps 102 (bv (decide ((Lib.repeatL [65] m.toNat)=([]:TX))))] (oc (qv _ _:((st (Lib.repeatL [65] m.toNat)).toList == (st ([]:TX)).toList)=decide ((Lib.repeatL [65] m.toNat)=([]:TX))) oz) ?_
     have h109:¬ ((Lib.repeatL [65] m.toNat)=([]:TX)):=(vv (by omega))
     refine qR (qV h109)<|qF<|qB ?_
     have hlr:=yH 65 m.toNat
     have hl2:=zW (o:=s+1) (by omega) (by omega)
     refine zD qD [(4,.call [] [(iv (s+1))] [] (sv (st (Lib.itoa (s+1)))) []),(5,.val (.av (.string (st ((Lib.repeatL [65] m.toNat)++(Lib.itoa (s+1)))))))] [ps 2 (sv (st ((Lib.repeatL [65] m.toNat)++(Lib.itoa (s+1))))),ps 3 (iv 0)] (oi (s+1) (by omega) (zO 464 (zV (s+1) (by omega) (by omega)) (oc (by first|omega|(simp <;> omega):(((Lib.repeatL [65] m.toNat).length+(Lib.itoa (s+1)).length:Nat):Int)≤9223372036854775807) (oc (qy _ _:st (Lib.repeatL [65] m.toNat)++st (Lib.itoa (s+1))=st ((Lib.repeatL [65] m.toNat)++(Lib.itoa (s+1)))) oz)))) ?_
     rw [zk (s:=s) (h:=h) (q:=(Lib.repeatL [65] m.toNat)) h1 (by omega) (by rw [← hm];exact (q_up (by omega) (by omega))) (by omega)]
     exact qk hc0 [2,3] []
    refine qR (qV h108)<|qB ?_
    by_cases h110:m<0
    ·refine qQ qD (gy 3 2++[(5,.yes true)]) [.k3,.d,.n,.r] [ps 75 (bv (decide ((-6)≤m)))] (on 3 (qT h110) oz) ?_
     by_cases h111:(-6)≤m
     ·refine qS (qT h111)<|qQ qD [(2,.call [] [(sv (st ([100]:TX))),(iv (0-m))] [] (sv (st (Lib.repeatL [100] (0-m).toNat))) [])] [.k1,.d,.d,.n,.d,.r] [ps 8 (sv (st (Lib.repeatL [100] (0-m).toNat)))] (oi (0-m) (by omega) (zO 456 (yS 100 (0-m) (by omega) (by omega)) oz))<|qB<|qB<|qQ qD [(1,.val (.av (.bool (decide ((Lib.repeatL [100] (0-m).toNat)=([]:TX))))))] [.k2,.n,.r] [ps 102 (bv (decide ((Lib.repeatL [100] (0-m).toNat)=([]:TX))))] (oc (qv _ _:((st (Lib.repeatL [100] (0-m).toNat)).toList == (st ([]:TX)).toList)=decide ((Lib.repeatL [100] (0-m).toNat)=([]:TX))) oz) ?_
      have h112:¬ ((Lib.repeatL [100] (0-m).toNat)=([]:TX)):=(vv (by omega))
      refine qR (qV h112)<|qF<|qB ?_
      have hlr:=yH 100 (0-m).toNat
      have hl2:=zW (o:=s+1) (by omega) (by omega)
      refine zD qD [(4,.call [] [(iv (s+1))] [] (sv (st (Lib.itoa (s+1)))) []),(5,.val (.av (.string (st ((Lib.repeatL [100] (0-m).toNat)++(Lib.itoa (s+1)))))))] [ps 2 (sv (st ((Lib.repeatL [100] (0-m).toNat)++(Lib.itoa (s+1))))),ps 3 (iv 0)] (oi (s+1) (by omega) (zO 520 (zV (s+1) (by omega) (by omega)) (oc (by first|omega|(simp only [List.length_append,List.length_cons,List.length_nil];omega):(((Lib.repeatL [100] (0-m).toNat).length+(Lib.itoa (s+1)).length:Nat):Int)≤9223372036854775807) (oc (qy _ _:st (Lib.repeatL [100] (0-m).toNat)++st (Lib.itoa (s+1))=st ((Lib.repeatL [100] (0-m).toNat)++(Lib.itoa (s+1)))) oz)))) ?_
      rw [zk (s:=s) (h:=h) (q:=(Lib.repeatL [100] (0-m).toNat)) h1 (by omega) (by rw [← hm];exact (q_dn (by omega) (by omega) (zS (s:=s) (by omega)))) (by omega)]
      exact qk hc0 [2,3] []
     refine qR (qV h111)<|qF<|qB<|qB<|qQ qD [(1,.val (.av (.bool (decide (([]:TX)=([]:TX))))))] [.k1,.d,.k1,.d,.n,.r] [ps 102 (bv (decide (([]:TX)=([]:TX))))] (oc (qv _ _:((st ([]:TX)).toList == (st ([]:TX)).toList)=decide (([]:TX)=([]:TX))) oz) ?_
     have h113:([]:TX)=([]:TX):=rfl
     refine qS (qT h113)<|qB<|zD qD [] [ps 2 se,ps 3 (iv 3)] (oz) ?_
     rw [zq (s:=s) (h:=h) h1 (by omega) (by rw [← hm];have hp:=zS (s:=s) (by omega);first|exact .inl (by omega)|exact .inr (.inl ⟨hp,by omega⟩))]
     exact qk hc0 [2,3] []
    refine qQ qD (gn 3 2++[(5,.yes false)]) [.k3,.d,.n,.r] [ps 75 (bv false)] (on 3 (qV h110) oz)<|qO (b:=false) rfl rfl<|qF<|qB<|qB<|qQ qD [(1,.val (.av (.bool (decide (([]:TX)=([]:TX))))))] [.k1,.d,.k1,.d,.n,.r] [ps 102 (bv (decide (([]:TX)=([]:TX))))] (oc (qv _ _:((st ([]:TX)).toList == (st ([]:TX)).toList)=decide (([]:TX)=([]:TX))) oz) ?_
    have h114:([]:TX)=([]:TX):=rfl
    refine qS (qT h114)<|qB<|zD qD [] [ps 2 se,ps 3 (iv 3)] (oz) ?_
    rw [zq (s:=s) (h:=h) h1 (by omega) (by rw [← hm];have hp:=zS (s:=s) (by omega);first|exact .inl (by omega)|exact .inr (.inl ⟨hp,by omega⟩))]
    exact qk hc0 [2,3] []
   refine qQ qD (gn 3 2++[(5,.yes false)]) [.k3,.d,.n,.r] [ps 67 (bv false)] (on 3 (qV h107) oz)<|qO (b:=false) rfl rfl<|qB ?_
   by_cases h115:m<0
   ·refine qQ qD (gy 3 2++[(5,.yes true)]) [.k3,.d,.n,.r] [ps 75 (bv (decide ((-6)≤m)))] (on 3 (qT h115) oz) ?_
    by_cases h116:(-6)≤m
    ·refine qS (qT h116)<|qQ qD [(2,.call [] [(sv (st ([100]:TX))),(iv (0-m))] [] (sv (st (Lib.repeatL [100] (0-m).toNat))) [])] [.k1,.d,.d,.n,.d,.r] [ps 8 (sv (st (Lib.repeatL [100] (0-m).toNat)))] (oi (0-m) (by omega) (zO 456 (yS 100 (0-m) (by omega) (by omega)) oz))<|qB<|qB<|qQ qD [(1,.val (.av (.bool (decide ((Lib.repeatL [100] (0-m).toNat)=([]:TX))))))] [.k2,.n,.r] [ps 102 (bv (decide ((Lib.repeatL [100] (0-m).toNat)=([]:TX))))] (oc (qv _ _:((st (Lib.repeatL [100] (0-m).toNat)).toList == (st ([]:TX)).toList)=decide ((Lib.repeatL [100] (0-m).toNat)=([]:TX))) oz) ?_
     have h117:¬ ((Lib.repeatL [100] (0-m).toNat)=([]:TX)):=(vv (by omega))
     refine qR (qV h117)<|qF<|qB ?_
     have hlr:=yH 100 (0-m).toNat
     have hl2:=zW (o:=s+1) (by omega) (by omega)
     refine zD qD [(4,.call [] [(iv (s+1))] [] (sv (st (Lib.itoa (s+1)))) []),(5,.val (.av (.string (st ((Lib.repeatL [100] (0-m).toNat)++(Lib.itoa (s+1)))))))] [ps 2 (sv (st ((Lib.repeatL [100] (0-m).toNat)++(Lib.itoa (s+1))))),ps 3 (iv 0)] (oi (s+1) (by omega) (zO 520 (zV (s+1) (by omega) (by omega)) (oc (by first|omega|(simp only [List.length_append,List.length_cons,List.length_nil];omega):(((Lib.repeatL [100] (0-m).toNat).length+(Lib.itoa (s+1)).length:Nat):Int)≤9223372036854775807) (oc (qy _ _:st (Lib.repeatL [100] (0-m).toNat)++st (Lib.itoa (s+1))=st ((Lib.repeatL [100] (0-m).toNat)++(Lib.itoa (s+1)))) oz)))) ?_
     rw [zk (s:=s) (h:=h) (q:=(Lib.repeatL [100] (0-m).toNat)) h1 (by omega) (by rw [← hm];exact (q_dn (by omega) (by omega) (zS (s:=s) (by omega)))) (by omega)]
     exact qk hc0 [2,3] []
    refine qR (qV h116)<|qF<|qB<|qB<|qQ qD [(1,.val (.av (.bool (decide (([]:TX)=([]:TX))))))] [.k1,.d,.k1,.d,.n,.r] [ps 102 (bv (decide (([]:TX)=([]:TX))))] (oc (qv _ _:((st ([]:TX)).toList == (st ([]:TX)).toList)=decide (([]:TX)=([]:TX))) oz) ?_
    have h118:([]:TX)=([]:TX):=rfl
    refine qS (qT h118)<|qB<|zD qD [] [ps 2 se,ps 3 (iv 3)] (oz) ?_
    rw [zq (s:=s) (h:=h) h1 (by omega) (by rw [← hm];have hp:=zS (s:=s) (by omega);first|exact .inl (by omega)|exact .inr (.inl ⟨hp,by omega⟩))]
    exact qk hc0 [2,3] []
   refine qQ qD (gn 3 2++[(5,.yes false)]) [.k3,.d,.n,.r] [ps 75 (bv false)] (on 3 (qV h115) oz)<|qO (b:=false) rfl rfl<|qF<|qB<|qB<|qQ qD [(1,.val (.av (.bool (decide (([]:TX)=([]:TX))))))] [.k1,.d,.k1,.d,.n,.r] [ps 102 (bv (decide (([]:TX)=([]:TX))))] (oc (qv _ _:((st ([]:TX)).toList == (st ([]:TX)).toList)=decide (([]:TX)=([]:TX))) oz) ?_
   have h119:([]:TX)=([]:TX):=rfl
   refine qS (qT h119)<|qB<|zD qD [] [ps 2 se,ps 3 (iv 3)] (oz) ?_
   rw [zq (s:=s) (h:=h) h1 (by omega) (by rw [← hm];have hp:=zS (s:=s) (by omega);first|exact .inl (by omega)|exact .inr (.inl ⟨hp,by omega⟩))]
   exact qk hc0 [2,3] []
  refine qR (qV h104)<|qB<|qH qD [.k3,.d,.n,.r] [ps 80 (bv (decide (m=0)))] ?_
  by_cases h120:m=0
  ·refine qS (qT h120)<|qH qD [.k1,.d,.d,.n,.d,.r] [ps 8 (sv (st ([77]:TX)))]<|qB<|qB<|qQ qD [(1,.val (.av (.bool (decide (([77]:TX)=([]:TX))))))] [.k2,.n,.r] [ps 102 (bv (decide (([77]:TX)=([]:TX))))] (oc (qv _ _:((st ([77]:TX)).toList == (st ([]:TX)).toList)=decide (([77]:TX)=([]:TX))) oz) ?_
   have h121:¬ (([77]:TX)=([]:TX)):=(by decide)
   refine qR (qV h121)<|qF<|qB ?_
   have hl2:=zW (o:=s+1) (by omega) (by omega)
   refine zD qD [(4,.call [] [(iv (s+1))] [] (sv (st (Lib.itoa (s+1)))) []),(5,.val (.av (.string (st (([77]:TX)++(Lib.itoa (s+1)))))))] [ps 2 (sv (st (([77]:TX)++(Lib.itoa (s+1))))),ps 3 (iv 0)] (oi (s+1) (by omega) (zO 400 (zV (s+1) (by omega) (by omega)) (oc (by first|omega|(simp <;> omega):((([77]:TX).length+(Lib.itoa (s+1)).length:Nat):Int)≤9223372036854775807) (oc (qy _ _:st ([77]:TX)++st (Lib.itoa (s+1))=st (([77]:TX)++(Lib.itoa (s+1)))) oz)))) ?_
   rw [zk (s:=s) (h:=h) (q:=([77]:TX)) h1 (by omega) (by rw [← hm];exact (qcf (by omega) (wP (s:=s) (by omega)))) (by decide)]
   exact qk hc0 [2,3] []
  refine qR (qV h120)<|qB<|qH qD [.k3,.d,.n,.r] [ps 82 (bv (decide (m=(-1))))] ?_
  by_cases h122:m=(-1)
  ·refine qS (qT h122)<|qH qD [.k1,.d,.d,.n,.d,.r] [ps 8 (sv (st ([109]:TX)))]<|qB<|qB<|qQ qD [(1,.val (.av (.bool (decide (([109]:TX)=([]:TX))))))] [.k2,.n,.r] [ps 102 (bv (decide (([109]:TX)=([]:TX))))] (oc (qv _ _:((st ([109]:TX)).toList == (st ([]:TX)).toList)=decide (([109]:TX)=([]:TX))) oz) ?_
   have h123:¬ (([109]:TX)=([]:TX)):=(by decide)
   refine qR (qV h123)<|qF<|qB ?_
   have hl2:=zW (o:=s+1) (by omega) (by omega)
   refine zD qD [(4,.call [] [(iv (s+1))] [] (sv (st (Lib.itoa (s+1)))) []),(5,.val (.av (.string (st (([109]:TX)++(Lib.itoa (s+1)))))))] [ps 2 (sv (st (([109]:TX)++(Lib.itoa (s+1))))),ps 3 (iv 0)] (oi (s+1) (by omega) (zO 416 (zV (s+1) (by omega) (by omega)) (oc (by first|omega|(simp <;> omega):((([109]:TX).length+(Lib.itoa (s+1)).length:Nat):Int)≤9223372036854775807) (oc (qy _ _:st ([109]:TX)++st (Lib.itoa (s+1))=st (([109]:TX)++(Lib.itoa (s+1)))) oz)))) ?_
   rw [zk (s:=s) (h:=h) (q:=([109]:TX)) h1 (by omega) (by rw [← hm];exact (qce (by omega) (wP (s:=s) (by omega)))) (by decide)]
   exact qk hc0 [2,3] []
  refine qR (qV h122)<|qB ?_
  by_cases h124:0<m
  ·refine qQ qD (gy 3 2++[(5,.yes true)]) [.k3,.d,.n,.r] [ps 88 (bv (decide (m≤6)))] (on 3 (qT h124) oz) ?_
   by_cases h125:m≤6
   ·refine qS (qT h125)<|yC qD 1 [.k1,.d,.d,.n,.d,.r] [ps 8 (sv (st (Lib.repeatL [65] m.toNat)))] (zO 416 (yS 65 m (by omega) (by omega)) oz)<|qB<|qB<|qQ qD [(1,.val (.av (.bool (decide ((Lib.repeatL [65] m.toNat)=([]:TX))))))] [.k2,.n,.r] [ps 102 (bv (decide ((Lib.repeatL [65] m.toNat)=([]:TX))))] (oc (qv _ _:((st (Lib.repeatL [65] m.toNat)).toList == (st ([]:TX)).toList)=decide ((Lib.repeatL [65] m.toNat)=([]:TX))) oz) ?_
    have h126:¬ ((Lib.repeatL [65] m.toNat)=([]:TX)):=(vv (by omega))
    refine qR (qV h126)<|qF<|qB ?_
    have hlr:=yH 65 m.toNat
    have hl2:=zW (o:=s+1) (by omega) (by omega)
    refine zD qD [(4,.call [] [(iv (s+1))] [] (sv (st (Lib.itoa (s+1)))) []),(5,.val (.av (.string (st ((Lib.repeatL [65] m.toNat)++(Lib.itoa (s+1)))))))] [ps 2 (sv (st ((Lib.repeatL [65] m.toNat)++(Lib.itoa (s+1))))),ps 3 (iv 0)] (oi (s+1) (by omega) (zO 480 (zV (s+1) (by omega) (by omega)) (oc (by first|omega|(simp <;> omega):(((Lib.repeatL [65] m.toNat).length+(Lib.itoa (s+1)).length:Nat):Int)≤9223372036854775807) (oc (qy _ _:st (Lib.repeatL [65] m.toNat)++st (Lib.itoa (s+1))=st ((Lib.repeatL [65] m.toNat)++(Lib.itoa (s+1)))) oz)))) ?_
    rw [zk (s:=s) (h:=h) (q:=(Lib.repeatL [65] m.toNat)) h1 (by omega) (by rw [← hm];exact (q_up (by omega) (by omega))) (by omega)]
    exact qk hc0 [2,3] []
   refine qR (qV h125)<|qB ?_
   by_cases h127:m<(-1)
   ·refine qQ qD (gy 3 2++[(5,.yes true)]) [.k3,.d,.n,.r] [ps 96 (bv (decide ((-7)≤m)))] (on 3 (qT h127) oz) ?_
    by_cases h128:(-7)≤m
    ·refine qS (qT h128)<|qQ qD [(3,.call [] [(sv (st ([100]:TX))),(iv ((0-m)-1))] [] (sv (st (Lib.repeatL [100] ((0-m)-1).toNat))) [])] [.k1,.d,.d,.n,.d,.r] [ps 8 (sv (st (Lib.repeatL [100] ((0-m)-1).toNat)))] (oi (0-m) (by omega) (oi ((0-m)-1) (by omega) (zO 480 (yS 100 ((0-m)-1) (by omega) (by omega)) oz)))<|qB<|qB<|qQ qD [(1,.val (.av (.bool (decide ((Lib.repeatL [100] ((0-m)-1).toNat)=([]:TX))))))] [.k2,.n,.r] [ps 102 (bv (decide ((Lib.repeatL [100] ((0-m)-1).toNat)=([]:TX))))] (oc (qv _ _:((st (Lib.repeatL [100] ((0-m)-1).toNat)).toList == (st ([]:TX)).toList)=decide ((Lib.repeatL [100] ((0-m)-1).toNat)=([]:TX))) oz) ?_
     have h129:¬ ((Lib.repeatL [100] ((0-m)-1).toNat)=([]:TX)):=(vv (by omega))
     refine qR (qV h129)<|qF<|qB ?_
     have hlr:=yH 100 ((0-m)-1).toNat
     have hl2:=zW (o:=s+1) (by omega) (by omega)
     refine zD qD [(4,.call [] [(iv (s+1))] [] (sv (st (Lib.itoa (s+1)))) []),(5,.val (.av (.string (st ((Lib.repeatL [100] ((0-m)-1).toNat)++(Lib.itoa (s+1)))))))] [ps 2 (sv (st ((Lib.repeatL [100] ((0-m)-1).toNat)++(Lib.itoa (s+1))))),ps 3 (iv 0)] (oi (s+1) (by omega) (zO 544 (zV (s+1) (by omega) (by omega)) (oc (by first|omega|(simp only [List.length_append,List.length_cons,List.length_nil];omega):(((Lib.repeatL [100] ((0-m)-1).toNat).length+(Lib.itoa (s+1)).length:Nat):Int)≤9223372036854775807) (oc (qy _ _:st (Lib.repeatL [100] ((0-m)-1).toNat)++st (Lib.itoa (s+1))=st ((Lib.repeatL [100] ((0-m)-1).toNat)++(Lib.itoa (s+1)))) oz)))) ?_
     rw [zk (s:=s) (h:=h) (q:=(Lib.repeatL [100] ((0-m)-1).toNat)) h1 (by omega) (by rw [← hm];exact (q_dn2 (by omega) (by omega) (wP (s:=s) (by omega)))) (by omega)]
     exact qk hc0 [2,3] []
    refine qR (qV h128)<|qF<|qB<|qB<|qQ qD [(1,.val (.av (.bool (decide (([]:TX)=([]:TX))))))] [.k1,.d,.k1,.d,.n,.r] [ps 102 (bv (decide (([]:TX)=([]:TX))))] (oc (qv _ _:((st ([]:TX)).toList == (st ([]:TX)).toList)=decide (([]:TX)=([]:TX))) oz) ?_
    have h130:([]:TX)=([]:TX):=rfl
    refine qS (qT h130)<|qB<|zD qD [] [ps 2 se,ps 3 (iv 3)] (oz) ?_
    rw [zq (s:=s) (h:=h) h1 (by omega) (by rw [← hm];have hp:=wP (s:=s) (by omega);first|exact .inl (by omega)|exact .inr (.inr ⟨hp,by omega⟩))]
    exact qk hc0 [2,3] []
   refine qQ qD (gn 3 2++[(5,.yes false)]) [.k3,.d,.n,.r] [ps 96 (bv false)] (on 3 (qV h127) oz)<|qO (b:=false) rfl rfl<|qF<|qB<|qB<|qQ qD [(1,.val (.av (.bool (decide (([]:TX)=([]:TX))))))] [.k1,.d,.k1,.d,.n,.r] [ps 102 (bv (decide (([]:TX)=([]:TX))))] (oc (qv _ _:((st ([]:TX)).toList == (st ([]:TX)).toList)=decide (([]:TX)=([]:TX))) oz) ?_
   have h131:([]:TX)=([]:TX):=rfl
   refine qS (qT h131)<|qB<|zD qD [] [ps 2 se,ps 3 (iv 3)] (oz) ?_
   rw [zq (s:=s) (h:=h) h1 (by omega) (by rw [← hm];have hp:=wP (s:=s) (by omega);first|exact .inl (by omega)|exact .inr (.inr ⟨hp,by omega⟩))]
   exact qk hc0 [2,3] []
  refine qQ qD (gn 3 2++[(5,.yes false)]) [.k3,.d,.n,.r] [ps 88 (bv false)] (on 3 (qV h124) oz)<|qO (b:=false) rfl rfl<|qB ?_
  by_cases h132:m<(-1)
  ·refine qQ qD (gy 3 2++[(5,.yes true)]) [.k3,.d,.n,.r] [ps 96 (bv (decide ((-7)≤m)))] (on 3 (qT h132) oz) ?_
   by_cases h133:(-7)≤m
   ·refine qS (qT h133)<|qQ qD [(3,.call [] [(sv (st ([100]:TX))),(iv ((0-m)-1))] [] (sv (st (Lib.repeatL [100] ((0-m)-1).toNat))) [])] [.k1,.d,.d,.n,.d,.r] [ps 8 (sv (st (Lib.repeatL [100] ((0-m)-1).toNat)))] (oi (0-m) (by omega) (oi ((0-m)-1) (by omega) (zO 480 (yS 100 ((0-m)-1) (by omega) (by omega)) oz)))<|qB<|qB<|qQ qD [(1,.val (.av (.bool (decide ((Lib.repeatL [100] ((0-m)-1).toNat)=([]:TX))))))] [.k2,.n,.r] [ps 102 (bv (decide ((Lib.repeatL [100] ((0-m)-1).toNat)=([]:TX))))] (oc (qv _ _:((st (Lib.repeatL [100] ((0-m)-1).toNat)).toList == (st ([]:TX)).toList)=decide ((Lib.repeatL [100] ((0-m)-1).toNat)=([]:TX))) oz) ?_
    have h134:¬ ((Lib.repeatL [100] ((0-m)-1).toNat)=([]:TX)):=(vv (by omega))
    refine qR (qV h134)<|qF<|qB ?_
    have hlr:=yH 100 ((0-m)-1).toNat
    have hl2:=zW (o:=s+1) (by omega) (by omega)
    refine zD qD [(4,.call [] [(iv (s+1))] [] (sv (st (Lib.itoa (s+1)))) []),(5,.val (.av (.string (st ((Lib.repeatL [100] ((0-m)-1).toNat)++(Lib.itoa (s+1)))))))] [ps 2 (sv (st ((Lib.repeatL [100] ((0-m)-1).toNat)++(Lib.itoa (s+1))))),ps 3 (iv 0)] (oi (s+1) (by omega) (zO 544 (zV (s+1) (by omega) (by omega)) (oc (by first|omega|(simp only [List.length_append,List.length_cons,List.length_nil];omega):(((Lib.repeatL [100] ((0-m)-1).toNat).length+(Lib.itoa (s+1)).length:Nat):Int)≤9223372036854775807) (oc (qy _ _:st (Lib.repeatL [100] ((0-m)-1).toNat)++st (Lib.itoa (s+1))=st ((Lib.repeatL [100] ((0-m)-1).toNat)++(Lib.itoa (s+1)))) oz)))) ?_
    rw [zk (s:=s) (h:=h) (q:=(Lib.repeatL [100] ((0-m)-1).toNat)) h1 (by omega) (by rw [← hm];exact (q_dn2 (by omega) (by omega) (wP (s:=s) (by omega)))) (by omega)]
    exact qk hc0 [2,3] []
   refine qR (qV h133)<|qF<|qB<|qB<|qQ qD [(1,.val (.av (.bool (decide (([]:TX)=([]:TX))))))] [.k1,.d,.k1,.d,.n,.r] [ps 102 (bv (decide (([]:TX)=([]:TX))))] (oc (qv _ _:((st ([]:TX)).toList == (st ([]:TX)).toList)=decide (([]:TX)=([]:TX))) oz) ?_
   have h135:([]:TX)=([]:TX):=rfl
   refine qS (qT h135)<|qB<|zD qD [] [ps 2 se,ps 3 (iv 3)] (oz) ?_
   rw [zq (s:=s) (h:=h) h1 (by omega) (by rw [← hm];have hp:=wP (s:=s) (by omega);first|exact .inl (by omega)|exact .inr (.inr ⟨hp,by omega⟩))]
   exact qk hc0 [2,3] []
  refine qQ qD (gn 3 2++[(5,.yes false)]) [.k3,.d,.n,.r] [ps 96 (bv false)] (on 3 (qV h132) oz)<|qO (b:=false) rfl rfl<|qF<|qB<|qB<|qQ qD [(1,.val (.av (.bool (decide (([]:TX)=([]:TX))))))] [.k1,.d,.k1,.d,.n,.r] [ps 102 (bv (decide (([]:TX)=([]:TX))))] (oc (qv _ _:((st ([]:TX)).toList == (st ([]:TX)).toList)=decide (([]:TX)=([]:TX))) oz) ?_
  have h136:([]:TX)=([]:TX):=rfl
  refine qS (qT h136)<|qB<|zD qD [] [ps 2 se,ps 3 (iv 3)] (oz) ?_
  rw [zq (s:=s) (h:=h) h1 (by omega) (by rw [← hm];have hp:=wP (s:=s) (by omega);first|exact .inl (by omega)|exact .inr (.inr ⟨hp,by omega⟩))]
  exact qk hc0 [2,3] []
 refine qS (congrArg Bool.not (Bool.eq_false_iff.2 h1))<|qB<|zD qD [] [ps 2 se,ps 3 (iv 3)] (oz) ?_
 rw [qbk (s:=s) (h:=h) h1]
 exact qk hc0 [2,3] []
theorem qhm (s h:Int) (h0:0≤s) (h1:¬ (s=0∧h<0)):PC Tryz.prog 64 [.agg [iv s,iv h]] [] (.tup [sv (st ((qG s h).1)),iv ((qG s h).2)]) [] :=
 qab s h fun x y _ _ c=>absurd c (by omega)
theorem Zv (s h:Int):PC Tryz.prog 64 [.agg [iv s,iv h]] [] (.tup [sv (st ((qG s h).1)),iv ((qG s h).2)]) [] :=
 qab s h fun x y a b _=>qhm x y a b
theorem QE {P:Nat→Prop} {k q:Nat} (h:∀ j,j<k→P j) (e:k=q) (hq:P q):∀ j,j<k+1→P j:=fun j hj=>by
 rcases Nat.lt_or_ge j k with c|c
 ·exact h j c
 ·rw [show j=q from by omega];exact hq
theorem qcv {k:Nat} (h:k<7):((letB.drop k).take 1).length=1:=by
 obtain ⟨x,hx⟩:=qan ⟨k,h⟩
 rw [show (letB.drop k).take 1=[x] from hx];rfl
theorem qhk (s:List UInt8) (hs:s.length≤140737488351232):PC Tryz.prog 112 [(sv (st s))] [] (.tup [(.agg [(iv ((qW s).1.1)),(iv ((qW s).1.2.1)),(iv ((qW s).1.2.2))]),(.agg [(iv ((qW s).2.1)),(iv ((qW s).2.2))])]) [none,none]:=by
 refine zG Tryz.func112 rfl (by kernel_rfl) (Nat.le_of_ble_eq_true rfl) (by kernel_rfl) (l0:=[ps 0 (sv (st s))]) rfl (fun c0 Bor hc0=>?_)
 refine qB<|zD qD [] [ps 0 (sv (st s)),ps 2 (.opt 0 0),ps 3 (.opt 8 0),pb 0 52 [(iv 0),(iv 0),(iv 0)],pb 8 33 [(iv 0),(iv 0)]] (oz)<|qB<|qH qD [.k3,.n,.k2,.n] [ps 4 (.opt 24 0),pb 24 52 [(iv (-1)),(iv 0),(iv 0)]]<|qB<|qB<|qH qD [.k4,.n,.r] [ps 5 (iv 0)]<|qX<|zy (α:={x:Nat // x≤7}) (fun x=>[ps 0 (sv (st s)),ps 2 (.opt 0 0),ps 3 (.opt 1 0),ps 4 (.opt 2 0),ps 5 (nv x.1),pb 0 52 [(iv 0),(iv 0),(iv 0)],pb 1 33 [(iv 0),(iv 0)],pb 2 52 [(iv (wM x.1 s)),(iv 0),(iv 0)]]) (fun x=>7-x.1) 3 ⟨0,by decide⟩ (Wk.ren2 _ 0 hc0 [0,8,24] rfl rfl (by kernel_rfl) (by kernel_rfl)) ?_
 rintro ⟨k,hk⟩
 refine qB<|qB<|zD qD [] [ps 0 (sv (st s)),ps 2 (.opt 0 0),ps 3 (.opt 1 0),ps 4 (.opt 2 0),ps 5 (nv k),ps 15 (bv (decide (((k:Nat):Int)<7))),pb 0 52 [(iv 0),(iv 0),(iv 0)],pb 1 33 [(iv 0),(iv 0)],pb 2 52 [(iv (wM k s)),(iv 0),(iv 0)]] (oz) ?_
 by_cases h1:(k:Int)<7
 ·refine qS (qT h1)<|qF<|qB<|qX<|qB<|qQ qD [(2,.call [] [(nv k)] [] (sv (st ((letB.drop k).take 1))) []),(3,.call [] [(sv (st s)),(iv 0),(sv (st ((letB.drop k).take 1)))] [] (bv (Lib.hasPrefix s ((letB.drop k).take 1))) [])] [.k5,.d,.n,.r] [ps 21 (bv (Lib.hasPrefix s ((letB.drop k).take 1)))] (zO 35 (letter_pc k (by omega)) (zO 43 (wY s 0 ((letB.drop k).take 1) (by omega) (by omega) (by have:=qcv (k:=k) (by omega);omega) (by have:=qcv (k:=k) (by omega);intro e;rw [e] at this;simp at this)) oz)) ?_
  by_cases h2:(Lib.hasPrefix s ((letB.drop k).take 1))=true
  ·refine qL (b:=(Lib.hasPrefix s ((letB.drop k).take 1))) rfl h2<|qH qD [.k5,.d,.k2,.d,.n] [pb 2 52 [(nv k),(iv 0),(iv 0)]]<|qZ<|qQ qD [] [.k4,.d,.n,.r] [ps 5 (iv (((k:Nat):Int)+1))] (oi (((k:Nat):Int)+1) (by omega) oz) ?_
   have hst:wM (k+1) s=(k:Int):=by rw [wM];exact if_pos h2
   exact qq ⟨k+1,by show k+1≤7;omega⟩ (Wk.trans (Wk.eq (show _=[ps 0 (sv (st s)),ps 2 (.opt 0 0),ps 3 (.opt 1 0),ps 4 (.opt 2 0),ps 5 (nv (k+1)),pb 0 52 [(iv 0),(iv 0),(iv 0)],pb 1 33 [(iv 0),(iv 0)],pb 2 52 [(iv (wM (k+1) s)),(iv 0),(iv 0)]] from by rw [hst];rfl)) (Wk.ren2 _ 0 hc0 [0,1,2] rfl rfl (by kernel_rfl) (by kernel_rfl))) (show 7-(k+1)<7-k from by show 7-(k+1)<7-k;omega)
  refine qO (b:=(Lib.hasPrefix s ((letB.drop k).take 1))) rfl (Bool.eq_false_iff.2 h2)<|qF<|qZ<|qQ qD [] [.k4,.d,.n,.d,.r] [ps 5 (iv (((k:Nat):Int)+1))] (oi (((k:Nat):Int)+1) (by omega) oz) ?_
  have hst:wM (k+1) s=wM k s:=by rw [wM];exact if_neg h2
  exact qq ⟨k+1,by show k+1≤7;omega⟩ (Wk.trans (Wk.eq (show _=[ps 0 (sv (st s)),ps 2 (.opt 0 0),ps 3 (.opt 1 0),ps 4 (.opt 2 0),ps 5 (nv (k+1)),pb 0 52 [(iv 0),(iv 0),(iv 0)],pb 1 33 [(iv 0),(iv 0)],pb 2 52 [(iv (wM (k+1) s)),(iv 0),(iv 0)]] from by rw [hst];rfl)) (Wk.ren2 _ 0 hc0 [0,1,2] rfl rfl (by kernel_rfl) (by kernel_rfl))) (show 7-(k+1)<7-k from by show 7-(k+1)<7-k;omega)
 refine qR (qV h1)<|zI rfl rfl<|qB<|qB ?_
 obtain rfl:k=7:=by omega
 have hLb:=qkb 7 s
 refine zD qD [] [ps 0 (sv (st s)),ps 2 (.opt 0 0),ps 3 (.opt 1 0),ps 4 (.opt 2 0),ps 26 (bv (decide ((wM 7 s)<0))),pb 0 52 [(iv 0),(iv 0),(iv 0)],pb 1 33 [(iv 0),(iv 0)],pb 2 52 [(iv (wM 7 s)),(iv 0),(iv 0)]] (oz) ?_
 by_cases h3:(wM 7 s)<0
 ·refine qS (qT h3)<|qB<|qH qD [.d,.k2,.d,.d,.k1,.d,.n,.d] [pb 1 33 [(iv 2),(iv 0)]] ?_
  rw [qcc (s:=s) (lastL_neg h3)]
  exact qk hc0 [2,3] [0,1]
 refine qR (qV h3)<|qF<|qB ?_
 obtain ⟨hL0,hL1,hL2⟩:=lastL_pos h3
 have hp1:=qhy hL0
 rw [hL2] at hLb
 refine qj (Wk.eq (show _=[ps 0 (sv (st s)),ps 2 (.opt 0 0),ps 3 (.opt 1 0),ps 4 (.opt 2 0),ps 26 (bv (decide ((wM 7 s)<0))),pb 0 52 [(iv 0),(iv 0),(iv 0)],pb 1 33 [(iv 0),(iv 0)],pb 2 52 [(iv (Lib.indexByte letB (s.getD 0 0))),(iv 0),(iv 0)]] from by rw [hL2])) ?_
 refine qH qD [.k4,.n,.d,.r] [ps 6 (iv 1)]<|qB<|qB<|yC qD 2 [.k5,.n,.r] [ps 31 (bv (Lib.hasPrefix (s.drop 1) ([226,153,174]:TX)))] (zO 67 (wY s 1 ([226,153,174]:TX) (by omega) (by omega) (by decide) (by decide)) oz) ?_
 by_cases h4:(Lib.hasPrefix (s.drop 1) ([226,153,174]:TX))=true
 ·refine qL (b:=(Lib.hasPrefix (s.drop 1) ([226,153,174]:TX))) rfl h4 ?_
  have hp3:=qjm h4
  rw [List.length_drop] at hp3
  refine qQ qD [] [.k4,.d,.n,.d,.r] [ps 6 (iv 4)] (oc (by simp [InK]:InK .i64 4) oz)<|qB<|qQ qD [(2,.val (.av (.string (st (s.drop 4))))),(3,.call [] [(sv (st (s.drop 4)))] [] (.tup [(iv ((qI (s.drop 4)).1)),(bv ((qI (s.drop 4)).2))]) [])] [.d,.k4,.n,.n,.r] [ps 11 (iv ((qI (s.drop 4)).1)),ps 12 (bv ((qI (s.drop 4)).2))] (oc (by first|omega|(simp <;> omega):(0:Int)≤(4:Int)∧(4:Int)≤(s.length:Int)∧(s.length:Int)≤(s.length:Int)) (oc (ww _ _ _ rfl:(st s).extract ((4:Int):Int).toNat (((s.length:Nat):Int):Int).toNat=st (s.drop 4)) (zO 123 (wq (s.drop 4) (by rw [List.length_drop];omega)) oz)))<|qB<|qB<|qH qD [.k5,.d,.n,.r] [ps 97 (bv (!((qI (s.drop 4)).2)))] ?_
  by_cases h5:((qI (s.drop 4)).2)=true
  ·refine qR (congrArg Bool.not h5)<|qF<|qB ?_
   have hnb:=VH (s.drop 4)
   refine qH qD [.k4,.d,.d,.k2,.d,.n] [pb 2 52 [(iv (Lib.indexByte letB (s.getD 0 0))),(iv 0),(iv ((qI (s.drop 4)).1))]]<|qB<|qB<|yC qD 1 [.k4,.n,.r] [ps 105 (bv (!(Pi.rightB (Lib.indexByte letB (s.getD 0 0)) 0 ((qI (s.drop 4)).1))))] (zO 219 (qaa (Lib.indexByte letB (s.getD 0 0)) 0 ((qI (s.drop 4)).1) (by unfold Pi.I64;omega)) oz) ?_
   by_cases h6:(Pi.rightB (Lib.indexByte letB (s.getD 0 0)) 0 ((qI (s.drop 4)).1))=true
   ·refine qR (congrArg Bool.not h6)<|qF<|qB<|qH qD [.k2,.d,.d,.d,.d,.n,.k1,.d] [pb 0 52 [(iv (Lib.indexByte letB (s.getD 0 0))),(iv 0),(iv ((qI (s.drop 4)).1))]] ?_
    rw [WT (s:=s) hL0 hL1 (QO h4) h5 h6]
    exact qk hc0 [2,3] [0,1]
   refine qS (congrArg Bool.not (Bool.eq_false_iff.2 h6))<|qB<|qH qD [.k2,.d,.d,.d,.k1,.d,.n,.d] [pb 1 33 [(iv 3),(iv 4)]] ?_
   rw [WU (s:=s) hL0 hL1 (QO h4) h5 h6]
   exact qk hc0 [2,3] [0,1]
  refine qS (congrArg Bool.not (Bool.eq_false_iff.2 h5))<|qB<|qH qD [.k2,.d,.d,.d,.d,.k1,.d,.n,.d] [pb 1 33 [(iv 2),(iv 4)]] ?_
  rw [WV (s:=s) hL0 hL1 (QO h4) h5]
  exact qk hc0 [2,3] [0,1]
 refine qO (b:=(Lib.hasPrefix (s.drop 1) ([226,153,174]:TX))) rfl (Bool.eq_false_iff.2 h4)<|qB<|qH qD [.k5,.n,.d,.r] [ps 7 (bv true)]<|qX<|zy (α:={x:Bool × Int × Nat // x.2.2≤s.length∧1≤x.2.2 ∧ -3≤x.2.1∧x.2.1≤3∧vK (s.drop x.2.2) x.2.1 x.2.2=vK (s.drop 1) 0 1∧(x.1=false→vK (s.drop x.2.2) x.2.1 x.2.2=(true,x.2.1,x.2.2))}) (fun x=>[ps 0 (sv (st s)),ps 2 (.opt 0 0),ps 3 (.opt 1 0),ps 4 (.opt 2 0),ps 6 (nv x.1.2.2),ps 7 (bv x.1.1),pb 0 52 [(iv 0),(iv 0),(iv 0)],pb 1 33 [(iv 0),(iv 0)],pb 2 52 [(iv (Lib.indexByte letB (s.getD 0 0))),(iv x.1.2.1),(iv 0)]]) (fun x=>2*(s.length-x.1.2.2)+(if x.1.1=true then 1 else 0)) 3 ⟨(true,0,1),⟨by show 1≤s.length;omega,by decide,by decide,by decide,rfl,fun c=>by cases c⟩⟩ (Wk.ren2 _ 0 hc0 [0,1,2] rfl rfl (by kernel_rfl) (by kernel_rfl)) ?_
 rintro ⟨⟨g,a,n⟩,⟨hn,hn1,ha1,ha2,hS,hf⟩⟩
 dsimp only at hn hn1 ha1 ha2 hS hf
 refine qB<|qB<|zD qD [] [ps 0 (sv (st s)),ps 2 (.opt 0 0),ps 3 (.opt 1 0),ps 4 (.opt 2 0),ps 6 (nv n),ps 34 (bv g),pb 0 52 [(iv 0),(iv 0),(iv 0)],pb 1 33 [(iv 0),(iv 0)],pb 2 52 [(iv (Lib.indexByte letB (s.getD 0 0))),(iv a),(iv 0)]] (oz) ?_
 by_cases h7:g=true
 ·refine qL (b:=g) rfl h7<|qF<|qX<|qB<|qH qD [.k5,.n,.d,.r] [ps 7 (bv false)]<|qB<|qH qD [.k6,.n,.n,.n,.k3,.n] [ps 35 (.osl 19 0 7),ps 36 (iv 7),ps 37 (iv 0),pb 19 9 [(sv (st ([226,153,175]:TX))),(sv (st ([35]:TX))),(sv (st ([240,157,132,170]:TX))),(sv (st ([120]:TX))),(sv (st ([226,153,173]:TX))),(sv (st ([98]:TX))),(sv (st ([240,157,132,171]:TX)))]]<|qX<|zy (α:={x:Nat × Bool × Int × Nat // x.1≤7∧x.2.2.2≤s.length∧1≤x.2.2.2∧n≤x.2.2.2 ∧ -3≤x.2.2.1∧x.2.2.1≤3∧vK (s.drop x.2.2.2) x.2.2.1 x.2.2.2=vK (s.drop 1) 0 1∧(x.2.1=true→n<x.2.2.2)∧(x.2.1=false→(x.2.2.2=n∧∀ j,j<x.1→Lib.hasPrefix (s.drop x.2.2.2) (sgT j)=false))}) (fun x=>[ps 0 (sv (st s)),ps 2 (.opt 0 0),ps 3 (.opt 1 0),ps 4 (.opt 2 0),ps 6 (nv x.1.2.2.2),ps 7 (bv x.1.2.1),ps 35 (.osl 3 0 7),ps 36 (iv 7),ps 37 (nv x.1.1),pb 0 52 [(iv 0),(iv 0),(iv 0)],pb 1 33 [(iv 0),(iv 0)],pb 2 52 [(iv (Lib.indexByte letB (s.getD 0 0))),(iv x.1.2.2.1),(iv 0)],pb 3 9 [(sv (st ([226,153,175]:TX))),(sv (st ([35]:TX))),(sv (st ([240,157,132,170]:TX))),(sv (st ([120]:TX))),(sv (st ([226,153,173]:TX))),(sv (st ([98]:TX))),(sv (st ([240,157,132,171]:TX)))]]) (fun x=>7-x.1.1) 4 ⟨(0,false,a,n),⟨Nat.zero_le 7,hn,hn1,Nat.le_refl n,ha1,ha2,hS,by show false=true→n<n;exact fun c=>Bool.noConfusion c,by show false=false→(n=n∧∀ j,j<0→Lib.hasPrefix (s.drop n) (sgT j)=false);exact fun _=>⟨rfl,fun j hj=>absurd hj (Nat.not_lt_zero j)⟩⟩⟩ (Wk.ren2 _ 0 hc0 [0,1,2,19] rfl rfl (by kernel_rfl) (by kernel_rfl)) ?_
  rintro ⟨⟨k,g1,a1,n1⟩,⟨hk7,h1n,h1m,h1o,h1a,h1b,h1S,h1t,h1f⟩⟩
  dsimp only at hk7 h1n h1m h1o h1a h1b h1S h1t h1f
  refine qB<|zD qD [] [ps 0 (sv (st s)),ps 2 (.opt 0 0),ps 3 (.opt 1 0),ps 4 (.opt 2 0),ps 6 (nv n1),ps 7 (bv g1),ps 35 (.osl 3 0 7),ps 36 (iv 7),ps 37 (nv k),ps 38 (bv (decide (((k:Nat):Int)<7))),pb 0 52 [(iv 0),(iv 0),(iv 0)],pb 1 33 [(iv 0),(iv 0)],pb 2 52 [(iv (Lib.indexByte letB (s.getD 0 0))),(iv a1),(iv 0)],pb 3 9 [(sv (st ([226,153,175]:TX))),(sv (st ([35]:TX))),(sv (st ([240,157,132,170]:TX))),(sv (st ([120]:TX))),(sv (st ([226,153,173]:TX))),(sv (st ([98]:TX))),(sv (st ([240,157,132,171]:TX)))]] (oz)<|qB ?_
  by_cases h8:(k:Int)<7
  ·refine qS (qT h8)<|qF<|qB<|qX<|qB ?_
   by_cases h9:k=0
   ·refine qQ qD [(1,.nat 0)] [.k6,.n,.n,.k3,.d,.r] [ps 8 (nv k),ps 9 (sv (st ([226,153,175]:TX)))] (oc (by omega:(0:Int)≤(k:Int)∧(k:Int)<((7:Nat):Int)) (oc (by omega:0+(((k:Nat):Int):Int).toNat*1=0) oz))<|qB<|qQ qD [(2,.nat 0)] [.k6,.d,.k1,.n,.r] [ps 10 (iv 1)] (oc (by omega:(0:Int)≤(k:Int)∧(k:Int)<((7:Nat):Int)) (oc (by omega:0+(((k:Nat):Int):Int).toNat*1=0) oz))<|qB ?_
    by_cases h10:g1=true
    ·refine qQ qD (gn 3 4++[(7,.yes false)]) [.k8,.k3,.n,.r] [ps 53 (bv false)] (oc (congrArg Bool.not h10:(!g1)=false) (oc (congrArg Bool.not h10:(!g1)=false) (oc (congrArg Bool.not h10:(!g1)=false) (oc (congrArg Bool.not h10:(!g1)=false) (oc (congrArg Bool.not h10:(!g1)=false) oz)))))<|qO (b:=false) rfl rfl<|qF<|qZ<|qQ qD [] [.k6,.d,.d,.k2,.d,.n,.d,.r] [ps 37 (iv (((k:Nat):Int)+1))] (oi (((k:Nat):Int)+1) (by omega) oz) ?_
     exact qq ⟨(k+1,g1,a1,n1),⟨by show k+1≤7;omega,h1n,h1m,h1o,h1a,h1b,h1S,h1t,fun c=>by rw [h10] at c;cases c⟩⟩ (Wk.trans (Wk.eq (show _=[ps 0 (sv (st s)),ps 2 (.opt 0 0),ps 3 (.opt 1 0),ps 4 (.opt 2 0),ps 6 (nv n1),ps 7 (bv g1),ps 35 (.osl 3 0 7),ps 36 (iv 7),ps 37 (nv (k+1)),pb 0 52 [(iv 0),(iv 0),(iv 0)],pb 1 33 [(iv 0),(iv 0)],pb 2 52 [(iv (Lib.indexByte letB (s.getD 0 0))),(iv a1),(iv 0)],pb 3 9 [(sv (st ([226,153,175]:TX))),(sv (st ([35]:TX))),(sv (st ([240,157,132,170]:TX))),(sv (st ([120]:TX))),(sv (st ([226,153,173]:TX))),(sv (st ([98]:TX))),(sv (st ([240,157,132,171]:TX)))]] from by rfl)) (Wk.ren2 _ 0 hc0 [0,1,2,3] rfl rfl (by kernel_rfl) (by kernel_rfl))) (show 7-(k+1)<7-k from by show 7-(k+1)<7-k;omega)
    refine qQ qD (gy 3 3++[(6,.gd true (.call [] [(sv (st s)),(nv n1),(sv (st ([226,153,175]:TX)))] [] (bv (Lib.hasPrefix (s.drop n1) ([226,153,175]:TX))) [])),(7,.yes true)]) [.k8,.k3,.n,.r] [ps 53 (bv (Lib.hasPrefix (s.drop n1) ([226,153,175]:TX)))] (oc (congrArg Bool.not (Bool.eq_false_iff.2 h10):(!g1)=true) (oc (congrArg Bool.not (Bool.eq_false_iff.2 h10):(!g1)=true) (oc (congrArg Bool.not (Bool.eq_false_iff.2 h10):(!g1)=true) (oc (congrArg Bool.not (Bool.eq_false_iff.2 h10):(!g1)=true) (zO 140 (wY s n1 ([226,153,175]:TX) (by omega) (by omega) (by decide) (by decide)) (oc (congrArg Bool.not (Bool.eq_false_iff.2 h10):(!g1)=true) oz)))))) ?_
    by_cases h11:(Lib.hasPrefix (s.drop n1) ([226,153,175]:TX))=true
    ·refine qL (b:=(Lib.hasPrefix (s.drop n1) ([226,153,175]:TX))) rfl h11<|qB<|qH qD [.k5,.d,.n,.k5,.d,.r] [ps 7 (bv true)]<|qB<|qQ qD [] [.k8,.k5,.d,.n,.r] [pb 2 52 [(iv (Lib.indexByte letB (s.getD 0 0))),(iv (a1+1)),(iv 0)]] (oi (a1+1) (by omega) oz)<|qB<|qB ?_
     by_cases h12:(a1+1)<0
     ·refine qQ qD (gy 3 3++gy 8 3++[(14,.gd true .no),(15,.yes true)]++gy 17 4) [.k7,.d,.k3,.n,.r] [ps 80 (bv true)] (on 3 tt (on 5 (qT h12) (on 4 tt oz)))<|qL (b:=true) rfl rfl<|qB<|qH qD [.d,.k2,.d,.d,.d,.d,.d,.d,.d,.d,.k1,.d,.n,.d,.d] [pb 1 33 [(iv 3),(nv n1)]] ?_
      rw [vM (s:=s) hL0 hL1 (zz h4 h1S (jq (q:=0) (by decide) h11 (by show (a1+1)*1<0∨3<max (a1+1) (0-(a1+1));omega)))]
      exact yk fun cx_ a_ hI_=>zB (zB (rt hc0 [ps 2 (.opt 0 0),ps 3 (.opt 1 0),pb 0 52 [(iv 0),(iv 0),(iv 0)],pb 1 33 [(iv 3),(nv n1)]] [0,1] hI_))
     refine qQ qD (gy 3 3++gn 8 7++[(15,.yes false)]++gn 17 2++[(19,.gd false (.call [] [(iv (a1+1))] [] (iv ((a1+1).natAbs:Int)) [])),(20,.gd false .no)]) [.k7,.d,.k3,.n,.r] [ps 80 (bv (decide (3<((a1+1).natAbs:Int))))] (on 3 tt (on 3 (qV h12) (on 3 ff (on 2 (qV h12) (on 3 ff (zO 364 (jR (a1+1) (by omega) (by omega)) (oc ff oz))))))) ?_
     by_cases h13:3<((a1+1).natAbs:Int)
     ·refine qS (qT h13)<|qB<|qH qD [.d,.k2,.d,.d,.d,.d,.d,.d,.d,.d,.k1,.d,.n,.d,.d] [pb 1 33 [(iv 3),(nv n1)]] ?_
      rw [vM (s:=s) hL0 hL1 (zz h4 h1S (jq (q:=0) (by decide) h11 (by show (a1+1)*1<0∨3<max (a1+1) (0-(a1+1));omega)))]
      exact yk fun cx_ a_ hI_=>zB (zB (rt hc0 [ps 2 (.opt 0 0),ps 3 (.opt 1 0),pb 0 52 [(iv 0),(iv 0),(iv 0)],pb 1 33 [(iv 3),(nv n1)]] [0,1] hI_))
     refine qR (qV h13)<|qF ?_
     have hpl:=ZR (by decide) h11
     simp only [List.length_cons,List.length_nil] at hpl
     refine qQ qD [] [.k4,.d,.n,.k1,.d,.k3,.d,.r] [ps 6 (iv (((n1:Nat):Int)+3))] (oi (((n1:Nat):Int)+3) (by omega) oz)<|qZ<|qQ qD [] [.k8,.d,.n,.r] [ps 37 (iv (((k:Nat):Int)+1))] (oi (((k:Nat):Int)+1) (by omega) oz) ?_
     have hon:=qea (q:=0) (a:=a1) (by decide) h11 (by show ¬ ((a1+1)*1<0∨3<max (a1+1) (0-(a1+1)));omega)
     exact qq ⟨(k+1,true,a1+1,n1+3),⟨by show k+1≤7;omega,by show n1+3≤s.length;omega,by show 1≤n1+3;omega,by show n≤n1+3;omega,by show -3≤a1+1;omega,by show a1+1≤3;omega,hon.symm.trans h1S,fun _=>by show n<n1+3;omega,fun c=>by cases c⟩⟩ (Wk.trans (Wk.eq (show _=[ps 0 (sv (st s)),ps 2 (.opt 0 0),ps 3 (.opt 1 0),ps 4 (.opt 2 0),ps 6 (nv (n1+3)),ps 7 (bv true),ps 35 (.osl 3 0 7),ps 36 (iv 7),ps 37 (nv (k+1)),pb 0 52 [(iv 0),(iv 0),(iv 0)],pb 1 33 [(iv 0),(iv 0)],pb 2 52 [(iv (Lib.indexByte letB (s.getD 0 0))),(iv (a1+1)),(iv 0)],pb 3 9 [(sv (st ([226,153,175]:TX))),(sv (st ([35]:TX))),(sv (st ([240,157,132,170]:TX))),(sv (st ([120]:TX))),(sv (st ([226,153,173]:TX))),(sv (st ([98]:TX))),(sv (st ([240,157,132,171]:TX)))]] from by rfl)) (Wk.ren2 _ 0 hc0 [0,1,2,3] rfl rfl (by kernel_rfl) (by kernel_rfl))) (show 7-(k+1)<7-k from by show 7-(k+1)<7-k;omega)
    refine qO (b:=(Lib.hasPrefix (s.drop n1) ([226,153,175]:TX))) rfl (Bool.eq_false_iff.2 h11)<|qF<|qZ<|qQ qD [] [.k6,.d,.d,.k2,.d,.n,.d,.r] [ps 37 (iv (((k:Nat):Int)+1))] (oi (((k:Nat):Int)+1) (by omega) oz) ?_
    exact qq ⟨(k+1,g1,a1,n1),⟨by show k+1≤7;omega,h1n,h1m,h1o,h1a,h1b,h1S,h1t,fun c=>⟨(h1f c).1,QE (P:=fun j=>Lib.hasPrefix (s.drop n1) (sgT j)=false) (h1f c).2 h9 (eq_false_of_ne_true h11)⟩⟩⟩ (Wk.trans (Wk.eq (show _=[ps 0 (sv (st s)),ps 2 (.opt 0 0),ps 3 (.opt 1 0),ps 4 (.opt 2 0),ps 6 (nv n1),ps 7 (bv g1),ps 35 (.osl 3 0 7),ps 36 (iv 7),ps 37 (nv (k+1)),pb 0 52 [(iv 0),(iv 0),(iv 0)],pb 1 33 [(iv 0),(iv 0)],pb 2 52 [(iv (Lib.indexByte letB (s.getD 0 0))),(iv a1),(iv 0)],pb 3 9 [(sv (st ([226,153,175]:TX))),(sv (st ([35]:TX))),(sv (st ([240,157,132,170]:TX))),(sv (st ([120]:TX))),(sv (st ([226,153,173]:TX))),(sv (st ([98]:TX))),(sv (st ([240,157,132,171]:TX)))]] from by rfl)) (Wk.ren2 _ 0 hc0 [0,1,2,3] rfl rfl (by kernel_rfl) (by kernel_rfl))) (show 7-(k+1)<7-k from by show 7-(k+1)<7-k;omega)
   by_cases h14:k=1
   ·refine qQ qD [(1,.nat 1)] [.k6,.n,.n,.k3,.d,.r] [ps 8 (nv k),ps 9 (sv (st ([35]:TX)))] (oc (by omega:(0:Int)≤(k:Int)∧(k:Int)<((7:Nat):Int)) (oc (by omega:0+(((k:Nat):Int):Int).toNat*1=1) oz))<|qB<|qQ qD [(2,.nat 1)] [.k6,.d,.k1,.n,.r] [ps 10 (iv 1)] (oc (by omega:(0:Int)≤(k:Int)∧(k:Int)<((7:Nat):Int)) (oc (by omega:0+(((k:Nat):Int):Int).toNat*1=1) oz))<|qB ?_
    by_cases h15:g1=true
    ·refine qQ qD (gn 3 4++[(7,.yes false)]) [.k8,.k3,.n,.r] [ps 53 (bv false)] (oc (congrArg Bool.not h15:(!g1)=false) (oc (congrArg Bool.not h15:(!g1)=false) (oc (congrArg Bool.not h15:(!g1)=false) (oc (congrArg Bool.not h15:(!g1)=false) (oc (congrArg Bool.not h15:(!g1)=false) oz)))))<|qO (b:=false) rfl rfl<|qF<|qZ<|qQ qD [] [.k6,.d,.d,.k2,.d,.n,.d,.r] [ps 37 (iv (((k:Nat):Int)+1))] (oi (((k:Nat):Int)+1) (by omega) oz) ?_
     exact qq ⟨(k+1,g1,a1,n1),⟨by show k+1≤7;omega,h1n,h1m,h1o,h1a,h1b,h1S,h1t,fun c=>by rw [h15] at c;cases c⟩⟩ (Wk.trans (Wk.eq (show _=[ps 0 (sv (st s)),ps 2 (.opt 0 0),ps 3 (.opt 1 0),ps 4 (.opt 2 0),ps 6 (nv n1),ps 7 (bv g1),ps 35 (.osl 3 0 7),ps 36 (iv 7),ps 37 (nv (k+1)),pb 0 52 [(iv 0),(iv 0),(iv 0)],pb 1 33 [(iv 0),(iv 0)],pb 2 52 [(iv (Lib.indexByte letB (s.getD 0 0))),(iv a1),(iv 0)],pb 3 9 [(sv (st ([226,153,175]:TX))),(sv (st ([35]:TX))),(sv (st ([240,157,132,170]:TX))),(sv (st ([120]:TX))),(sv (st ([226,153,173]:TX))),(sv (st ([98]:TX))),(sv (st ([240,157,132,171]:TX)))]] from by rfl)) (Wk.ren2 _ 0 hc0 [0,1,2,3] rfl rfl (by kernel_rfl) (by kernel_rfl))) (show 7-(k+1)<7-k from by show 7-(k+1)<7-k;omega)
    refine qQ qD (gy 3 3++[(6,.gd true (.call [] [(sv (st s)),(nv n1),(sv (st ([35]:TX)))] [] (bv (Lib.hasPrefix (s.drop n1) ([35]:TX))) [])),(7,.yes true)]) [.k8,.k3,.n,.r] [ps 53 (bv (Lib.hasPrefix (s.drop n1) ([35]:TX)))] (oc (congrArg Bool.not (Bool.eq_false_iff.2 h15):(!g1)=true) (oc (congrArg Bool.not (Bool.eq_false_iff.2 h15):(!g1)=true) (oc (congrArg Bool.not (Bool.eq_false_iff.2 h15):(!g1)=true) (oc (congrArg Bool.not (Bool.eq_false_iff.2 h15):(!g1)=true) (zO 140 (wY s n1 ([35]:TX) (by omega) (by omega) (by decide) (by decide)) (oc (congrArg Bool.not (Bool.eq_false_iff.2 h15):(!g1)=true) oz)))))) ?_
    by_cases h16:(Lib.hasPrefix (s.drop n1) ([35]:TX))=true
    ·refine qL (b:=(Lib.hasPrefix (s.drop n1) ([35]:TX))) rfl h16<|qB<|qH qD [.k5,.d,.n,.k5,.d,.r] [ps 7 (bv true)]<|qB<|qQ qD [] [.k8,.k5,.d,.n,.r] [pb 2 52 [(iv (Lib.indexByte letB (s.getD 0 0))),(iv (a1+1)),(iv 0)]] (oi (a1+1) (by omega) oz)<|qB<|qB ?_
     by_cases h17:(a1+1)<0
     ·refine qQ qD (gy 3 3++gy 8 3++[(14,.gd true .no),(15,.yes true)]++gy 17 4) [.k7,.d,.k3,.n,.r] [ps 80 (bv true)] (on 3 tt (on 5 (qT h17) (on 4 tt oz)))<|qL (b:=true) rfl rfl<|qB<|qH qD [.d,.k2,.d,.d,.d,.d,.d,.d,.d,.d,.k1,.d,.n,.d,.d] [pb 1 33 [(iv 3),(nv n1)]] ?_
      rw [vM (s:=s) hL0 hL1 (zz h4 h1S (jq (q:=1) (by decide) h16 (by show (a1+1)*1<0∨3<max (a1+1) (0-(a1+1));omega)))]
      exact yk fun cx_ a_ hI_=>zB (zB (rt hc0 [ps 2 (.opt 0 0),ps 3 (.opt 1 0),pb 0 52 [(iv 0),(iv 0),(iv 0)],pb 1 33 [(iv 3),(nv n1)]] [0,1] hI_))
     refine qQ qD (gy 3 3++gn 8 7++[(15,.yes false)]++gn 17 2++[(19,.gd false (.call [] [(iv (a1+1))] [] (iv ((a1+1).natAbs:Int)) [])),(20,.gd false .no)]) [.k7,.d,.k3,.n,.r] [ps 80 (bv (decide (3<((a1+1).natAbs:Int))))] (on 3 tt (on 3 (qV h17) (on 3 ff (on 2 (qV h17) (on 3 ff (zO 364 (jR (a1+1) (by omega) (by omega)) (oc ff oz))))))) ?_
     by_cases h18:3<((a1+1).natAbs:Int)
     ·refine qS (qT h18)<|qB<|qH qD [.d,.k2,.d,.d,.d,.d,.d,.d,.d,.d,.k1,.d,.n,.d,.d] [pb 1 33 [(iv 3),(nv n1)]] ?_
      rw [vM (s:=s) hL0 hL1 (zz h4 h1S (jq (q:=1) (by decide) h16 (by show (a1+1)*1<0∨3<max (a1+1) (0-(a1+1));omega)))]
      exact yk fun cx_ a_ hI_=>zB (zB (rt hc0 [ps 2 (.opt 0 0),ps 3 (.opt 1 0),pb 0 52 [(iv 0),(iv 0),(iv 0)],pb 1 33 [(iv 3),(nv n1)]] [0,1] hI_))
     refine qR (qV h18)<|qF ?_
     have hpl:=ZR (by decide) h16
     simp only [List.length_cons,List.length_nil] at hpl
     refine qQ qD [] [.k4,.d,.n,.k1,.d,.k3,.d,.r] [ps 6 (iv (((n1:Nat):Int)+1))] (oi (((n1:Nat):Int)+1) (by omega) oz)<|qZ<|qQ qD [] [.k8,.d,.n,.r] [ps 37 (iv (((k:Nat):Int)+1))] (oi (((k:Nat):Int)+1) (by omega) oz) ?_
     have hon:=qea (q:=1) (a:=a1) (by decide) h16 (by show ¬ ((a1+1)*1<0∨3<max (a1+1) (0-(a1+1)));omega)
     exact qq ⟨(k+1,true,a1+1,n1+1),⟨by show k+1≤7;omega,by show n1+1≤s.length;omega,by show 1≤n1+1;omega,by show n≤n1+1;omega,by show -3≤a1+1;omega,by show a1+1≤3;omega,hon.symm.trans h1S,fun _=>by show n<n1+1;omega,fun c=>by cases c⟩⟩ (Wk.trans (Wk.eq (show _=[ps 0 (sv (st s)),ps 2 (.opt 0 0),ps 3 (.opt 1 0),ps 4 (.opt 2 0),ps 6 (nv (n1+1)),ps 7 (bv true),ps 35 (.osl 3 0 7),ps 36 (iv 7),ps 37 (nv (k+1)),pb 0 52 [(iv 0),(iv 0),(iv 0)],pb 1 33 [(iv 0),(iv 0)],pb 2 52 [(iv (Lib.indexByte letB (s.getD 0 0))),(iv (a1+1)),(iv 0)],pb 3 9 [(sv (st ([226,153,175]:TX))),(sv (st ([35]:TX))),(sv (st ([240,157,132,170]:TX))),(sv (st ([120]:TX))),(sv (st ([226,153,173]:TX))),(sv (st ([98]:TX))),(sv (st ([240,157,132,171]:TX)))]] from by rfl)) (Wk.ren2 _ 0 hc0 [0,1,2,3] rfl rfl (by kernel_rfl) (by kernel_rfl))) (show 7-(k+1)<7-k from by show 7-(k+1)<7-k;omega)
    refine qO (b:=(Lib.hasPrefix (s.drop n1) ([35]:TX))) rfl (Bool.eq_false_iff.2 h16)<|qF<|qZ<|qQ qD [] [.k6,.d,.d,.k2,.d,.n,.d,.r] [ps 37 (iv (((k:Nat):Int)+1))] (oi (((k:Nat):Int)+1) (by omega) oz) ?_
    exact qq ⟨(k+1,g1,a1,n1),⟨by show k+1≤7;omega,h1n,h1m,h1o,h1a,h1b,h1S,h1t,fun c=>⟨(h1f c).1,QE (P:=fun j=>Lib.hasPrefix (s.drop n1) (sgT j)=false) (h1f c).2 h14 (eq_false_of_ne_true h16)⟩⟩⟩ (Wk.trans (Wk.eq (show _=[ps 0 (sv (st s)),ps 2 (.opt 0 0),ps 3 (.opt 1 0),ps 4 (.opt 2 0),ps 6 (nv n1),ps 7 (bv g1),ps 35 (.osl 3 0 7),ps 36 (iv 7),ps 37 (nv (k+1)),pb 0 52 [(iv 0),(iv 0),(iv 0)],pb 1 33 [(iv 0),(iv 0)],pb 2 52 [(iv (Lib.indexByte letB (s.getD 0 0))),(iv a1),(iv 0)],pb 3 9 [(sv (st ([226,153,175]:TX))),(sv (st ([35]:TX))),(sv (st ([240,157,132,170]:TX))),(sv (st ([120]:TX))),(sv (st ([226,153,173]:TX))),(sv (st ([98]:TX))),(sv (st ([240,157,132,171]:TX)))]] from by rfl)) (Wk.ren2 _ 0 hc0 [0,1,2,3] rfl rfl (by kernel_rfl) (by kernel_rfl))) (show 7-(k+1)<7-k from by show 7-(k+1)<7-k;omega)
   by_cases h19:k=2
   ·refine qQ qD [(1,.nat 2)] [.k6,.n,.n,.k3,.d,.r] [ps 8 (nv k),ps 9 (sv (st ([240,157,132,170]:TX)))] (oc (by omega:(0:Int)≤(k:Int)∧(k:Int)<((7:Nat):Int)) (oc (by omega:0+(((k:Nat):Int):Int).toNat*1=2) oz))<|qB<|qQ qD [(2,.nat 2)] [.k6,.d,.k1,.n,.r] [ps 10 (iv 2)] (oc (by omega:(0:Int)≤(k:Int)∧(k:Int)<((7:Nat):Int)) (oc (by omega:0+(((k:Nat):Int):Int).toNat*1=2) oz))<|qB ?_
    by_cases h20:g1=true
    ·refine qQ qD (gn 3 4++[(7,.yes false)]) [.k8,.k3,.n,.r] [ps 53 (bv false)] (oc (congrArg Bool.not h20:(!g1)=false) (oc (congrArg Bool.not h20:(!g1)=false) (oc (congrArg Bool.not h20:(!g1)=false) (oc (congrArg Bool.not h20:(!g1)=false) (oc (congrArg Bool.not h20:(!g1)=false) oz)))))<|qO (b:=false) rfl rfl<|qF<|qZ<|qQ qD [] [.k6,.d,.d,.k2,.d,.n,.d,.r] [ps 37 (iv (((k:Nat):Int)+1))] (oi (((k:Nat):Int)+1) (by omega) oz) ?_
     exact qq ⟨(k+1,g1,a1,n1),⟨by show k+1≤7;omega,h1n,h1m,h1o,h1a,h1b,h1S,h1t,fun c=>by rw [h20] at c;cases c⟩⟩ (Wk.trans (Wk.eq (show _=[ps 0 (sv (st s)),ps 2 (.opt 0 0),ps 3 (.opt 1 0),ps 4 (.opt 2 0),ps 6 (nv n1),ps 7 (bv g1),ps 35 (.osl 3 0 7),ps 36 (iv 7),ps 37 (nv (k+1)),pb 0 52 [(iv 0),(iv 0),(iv 0)],pb 1 33 [(iv 0),(iv 0)],pb 2 52 [(iv (Lib.indexByte letB (s.getD 0 0))),(iv a1),(iv 0)],pb 3 9 [(sv (st ([226,153,175]:TX))),(sv (st ([35]:TX))),(sv (st ([240,157,132,170]:TX))),(sv (st ([120]:TX))),(sv (st ([226,153,173]:TX))),(sv (st ([98]:TX))),(sv (st ([240,157,132,171]:TX)))]] from by rfl)) (Wk.ren2 _ 0 hc0 [0,1,2,3] rfl rfl (by kernel_rfl) (by kernel_rfl))) (show 7-(k+1)<7-k from by show 7-(k+1)<7-k;omega)
    refine qQ qD (gy 3 3++[(6,.gd true (.call [] [(sv (st s)),(nv n1),(sv (st ([240,157,132,170]:TX)))] [] (bv (Lib.hasPrefix (s.drop n1) ([240,157,132,170]:TX))) [])),(7,.yes true)]) [.k8,.k3,.n,.r] [ps 53 (bv (Lib.hasPrefix (s.drop n1) ([240,157,132,170]:TX)))] (oc (congrArg Bool.not (Bool.eq_false_iff.2 h20):(!g1)=true) (oc (congrArg Bool.not (Bool.eq_false_iff.2 h20):(!g1)=true) (oc (congrArg Bool.not (Bool.eq_false_iff.2 h20):(!g1)=true) (oc (congrArg Bool.not (Bool.eq_false_iff.2 h20):(!g1)=true) (zO 140 (wY s n1 ([240,157,132,170]:TX) (by omega) (by omega) (by decide) (by decide)) (oc (congrArg Bool.not (Bool.eq_false_iff.2 h20):(!g1)=true) oz)))))) ?_
    by_cases h21:(Lib.hasPrefix (s.drop n1) ([240,157,132,170]:TX))=true
    ·refine qL (b:=(Lib.hasPrefix (s.drop n1) ([240,157,132,170]:TX))) rfl h21<|qB<|qH qD [.k5,.d,.n,.k5,.d,.r] [ps 7 (bv true)]<|qB<|qQ qD [] [.k8,.k5,.d,.n,.r] [pb 2 52 [(iv (Lib.indexByte letB (s.getD 0 0))),(iv (a1+2)),(iv 0)]] (oi (a1+2) (by omega) oz)<|qB<|qB ?_
     by_cases h22:(a1+2)<0
     ·refine qQ qD (gy 3 3++gy 8 3++[(14,.gd true .no),(15,.yes true)]++gy 17 4) [.k7,.d,.k3,.n,.r] [ps 80 (bv true)] (on 3 tt (on 5 (qT h22) (on 4 tt oz)))<|qL (b:=true) rfl rfl<|qB<|qH qD [.d,.k2,.d,.d,.d,.d,.d,.d,.d,.d,.k1,.d,.n,.d,.d] [pb 1 33 [(iv 3),(nv n1)]] ?_
      rw [vM (s:=s) hL0 hL1 (zz h4 h1S (jq (q:=2) (by decide) h21 (by show (a1+2)*2<0∨3<max (a1+2) (0-(a1+2));omega)))]
      exact yk fun cx_ a_ hI_=>zB (zB (rt hc0 [ps 2 (.opt 0 0),ps 3 (.opt 1 0),pb 0 52 [(iv 0),(iv 0),(iv 0)],pb 1 33 [(iv 3),(nv n1)]] [0,1] hI_))
     refine qQ qD (gy 3 3++gn 8 7++[(15,.yes false)]++gn 17 2++[(19,.gd false (.call [] [(iv (a1+2))] [] (iv ((a1+2).natAbs:Int)) [])),(20,.gd false .no)]) [.k7,.d,.k3,.n,.r] [ps 80 (bv (decide (3<((a1+2).natAbs:Int))))] (on 3 tt (on 3 (qV h22) (on 3 ff (on 2 (qV h22) (on 3 ff (zO 364 (jR (a1+2) (by omega) (by omega)) (oc ff oz))))))) ?_
     by_cases h23:3<((a1+2).natAbs:Int)
     ·refine qS (qT h23)<|qB<|qH qD [.d,.k2,.d,.d,.d,.d,.d,.d,.d,.d,.k1,.d,.n,.d,.d] [pb 1 33 [(iv 3),(nv n1)]] ?_
      rw [vM (s:=s) hL0 hL1 (zz h4 h1S (jq (q:=2) (by decide) h21 (by show (a1+2)*2<0∨3<max (a1+2) (0-(a1+2));omega)))]
      exact yk fun cx_ a_ hI_=>zB (zB (rt hc0 [ps 2 (.opt 0 0),ps 3 (.opt 1 0),pb 0 52 [(iv 0),(iv 0),(iv 0)],pb 1 33 [(iv 3),(nv n1)]] [0,1] hI_))
     refine qR (qV h23)<|qF ?_
     have hpl:=ZR (by decide) h21
     simp only [List.length_cons,List.length_nil] at hpl
     refine qQ qD [] [.k4,.d,.n,.k1,.d,.k3,.d,.r] [ps 6 (iv (((n1:Nat):Int)+4))] (oi (((n1:Nat):Int)+4) (by omega) oz)<|qZ<|qQ qD [] [.k8,.d,.n,.r] [ps 37 (iv (((k:Nat):Int)+1))] (oi (((k:Nat):Int)+1) (by omega) oz) ?_
     have hon:=qea (q:=2) (a:=a1) (by decide) h21 (by show ¬ ((a1+2)*2<0∨3<max (a1+2) (0-(a1+2)));omega)
     exact qq ⟨(k+1,true,a1+2,n1+4),⟨by show k+1≤7;omega,by show n1+4≤s.length;omega,by show 1≤n1+4;omega,by show n≤n1+4;omega,by show -3≤a1+2;omega,by show a1+2≤3;omega,hon.symm.trans h1S,fun _=>by show n<n1+4;omega,fun c=>by cases c⟩⟩ (Wk.trans (Wk.eq (show _=[ps 0 (sv (st s)),ps 2 (.opt 0 0),ps 3 (.opt 1 0),ps 4 (.opt 2 0),ps 6 (nv (n1+4)),ps 7 (bv true),ps 35 (.osl 3 0 7),ps 36 (iv 7),ps 37 (nv (k+1)),pb 0 52 [(iv 0),(iv 0),(iv 0)],pb 1 33 [(iv 0),(iv 0)],pb 2 52 [(iv (Lib.indexByte letB (s.getD 0 0))),(iv (a1+2)),(iv 0)],pb 3 9 [(sv (st ([226,153,175]:TX))),(sv (st ([35]:TX))),(sv (st ([240,157,132,170]:TX))),(sv (st ([120]:TX))),(sv (st ([226,153,173]:TX))),(sv (st ([98]:TX))),(sv (st ([240,157,132,171]:TX)))]] from by rfl)) (Wk.ren2 _ 0 hc0 [0,1,2,3] rfl rfl (by kernel_rfl) (by kernel_rfl))) (show 7-(k+1)<7-k from by show 7-(k+1)<7-k;omega)
    refine qO (b:=(Lib.hasPrefix (s.drop n1) ([240,157,132,170]:TX))) rfl (Bool.eq_false_iff.2 h21)<|qF<|qZ<|qQ qD [] [.k6,.d,.d,.k2,.d,.n,.d,.r] [ps 37 (iv (((k:Nat):Int)+1))] (oi (((k:Nat):Int)+1) (by omega) oz) ?_
    exact qq ⟨(k+1,g1,a1,n1),⟨by show k+1≤7;omega,h1n,h1m,h1o,h1a,h1b,h1S,h1t,fun c=>⟨(h1f c).1,QE (P:=fun j=>Lib.hasPrefix (s.drop n1) (sgT j)=false) (h1f c).2 h19 (eq_false_of_ne_true h21)⟩⟩⟩ (Wk.trans (Wk.eq (show _=[ps 0 (sv (st s)),ps 2 (.opt 0 0),ps 3 (.opt 1 0),ps 4 (.opt 2 0),ps 6 (nv n1),ps 7 (bv g1),ps 35 (.osl 3 0 7),ps 36 (iv 7),ps 37 (nv (k+1)),pb 0 52 [(iv 0),(iv 0),(iv 0)],pb 1 33 [(iv 0),(iv 0)],pb 2 52 [(iv (Lib.indexByte letB (s.getD 0 0))),(iv a1),(iv 0)],pb 3 9 [(sv (st ([226,153,175]:TX))),(sv (st ([35]:TX))),(sv (st ([240,157,132,170]:TX))),(sv (st ([120]:TX))),(sv (st ([226,153,173]:TX))),(sv (st ([98]:TX))),(sv (st ([240,157,132,171]:TX)))]] from by rfl)) (Wk.ren2 _ 0 hc0 [0,1,2,3] rfl rfl (by kernel_rfl) (by kernel_rfl))) (show 7-(k+1)<7-k from by show 7-(k+1)<7-k;omega)
   by_cases h24:k=3
   ·refine qQ qD [(1,.nat 3)] [.k6,.n,.n,.k3,.d,.r] [ps 8 (nv k),ps 9 (sv (st ([120]:TX)))] (oc (by omega:(0:Int)≤(k:Int)∧(k:Int)<((7:Nat):Int)) (oc (by omega:0+(((k:Nat):Int):Int).toNat*1=3) oz))<|qB<|qQ qD [(2,.nat 3)] [.k6,.d,.k1,.n,.r] [ps 10 (iv 2)] (oc (by omega:(0:Int)≤(k:Int)∧(k:Int)<((7:Nat):Int)) (oc (by omega:0+(((k:Nat):Int):Int).toNat*1=3) oz))<|qB ?_
    by_cases h25:g1=true
    ·refine qQ qD (gn 3 4++[(7,.yes false)]) [.k8,.k3,.n,.r] [ps 53 (bv false)] (oc (congrArg Bool.not h25:(!g1)=false) (oc (congrArg Bool.not h25:(!g1)=false) (oc (congrArg Bool.not h25:(!g1)=false) (oc (congrArg Bool.not h25:(!g1)=false) (oc (congrArg Bool.not h25:(!g1)=false) oz)))))<|qO (b:=false) rfl rfl<|qF<|qZ<|qQ qD [] [.k6,.d,.d,.k2,.d,.n,.d,.r] [ps 37 (iv (((k:Nat):Int)+1))] (oi (((k:Nat):Int)+1) (by omega) oz) ?_
     exact qq ⟨(k+1,g1,a1,n1),⟨by show k+1≤7;omega,h1n,h1m,h1o,h1a,h1b,h1S,h1t,fun c=>by rw [h25] at c;cases c⟩⟩ (Wk.trans (Wk.eq (show _=[ps 0 (sv (st s)),ps 2 (.opt 0 0),ps 3 (.opt 1 0),ps 4 (.opt 2 0),ps 6 (nv n1),ps 7 (bv g1),ps 35 (.osl 3 0 7),ps 36 (iv 7),ps 37 (nv (k+1)),pb 0 52 [(iv 0),(iv 0),(iv 0)],pb 1 33 [(iv 0),(iv 0)],pb 2 52 [(iv (Lib.indexByte letB (s.getD 0 0))),(iv a1),(iv 0)],pb 3 9 [(sv (st ([226,153,175]:TX))),(sv (st ([35]:TX))),(sv (st ([240,157,132,170]:TX))),(sv (st ([120]:TX))),(sv (st ([226,153,173]:TX))),(sv (st ([98]:TX))),(sv (st ([240,157,132,171]:TX)))]] from by rfl)) (Wk.ren2 _ 0 hc0 [0,1,2,3] rfl rfl (by kernel_rfl) (by kernel_rfl))) (show 7-(k+1)<7-k from by show 7-(k+1)<7-k;omega)
    refine qQ qD (gy 3 3++[(6,.gd true (.call [] [(sv (st s)),(nv n1),(sv (st ([120]:TX)))] [] (bv (Lib.hasPrefix (s.drop n1) ([120]:TX))) [])),(7,.yes true)]) [.k8,.k3,.n,.r] [ps 53 (bv (Lib.hasPrefix (s.drop n1) ([120]:TX)))] (oc (congrArg Bool.not (Bool.eq_false_iff.2 h25):(!g1)=true) (oc (congrArg Bool.not (Bool.eq_false_iff.2 h25):(!g1)=true) (oc (congrArg Bool.not (Bool.eq_false_iff.2 h25):(!g1)=true) (oc (congrArg Bool.not (Bool.eq_false_iff.2 h25):(!g1)=true) (zO 140 (wY s n1 ([120]:TX) (by omega) (by omega) (by decide) (by decide)) (oc (congrArg Bool.not (Bool.eq_false_iff.2 h25):(!g1)=true) oz)))))) ?_
    by_cases h26:(Lib.hasPrefix (s.drop n1) ([120]:TX))=true
    ·refine qL (b:=(Lib.hasPrefix (s.drop n1) ([120]:TX))) rfl h26<|qB<|qH qD [.k5,.d,.n,.k5,.d,.r] [ps 7 (bv true)]<|qB<|qQ qD [] [.k8,.k5,.d,.n,.r] [pb 2 52 [(iv (Lib.indexByte letB (s.getD 0 0))),(iv (a1+2)),(iv 0)]] (oi (a1+2) (by omega) oz)<|qB<|qB ?_
     by_cases h27:(a1+2)<0
     ·refine qQ qD (gy 3 3++gy 8 3++[(14,.gd true .no),(15,.yes true)]++gy 17 4) [.k7,.d,.k3,.n,.r] [ps 80 (bv true)] (on 3 tt (on 5 (qT h27) (on 4 tt oz)))<|qL (b:=true) rfl rfl<|qB<|qH qD [.d,.k2,.d,.d,.d,.d,.d,.d,.d,.d,.k1,.d,.n,.d,.d] [pb 1 33 [(iv 3),(nv n1)]] ?_
      rw [vM (s:=s) hL0 hL1 (zz h4 h1S (jq (q:=3) (by decide) h26 (by show (a1+2)*2<0∨3<max (a1+2) (0-(a1+2));omega)))]
      exact yk fun cx_ a_ hI_=>zB (zB (rt hc0 [ps 2 (.opt 0 0),ps 3 (.opt 1 0),pb 0 52 [(iv 0),(iv 0),(iv 0)],pb 1 33 [(iv 3),(nv n1)]] [0,1] hI_))
     refine qQ qD (gy 3 3++gn 8 7++[(15,.yes false)]++gn 17 2++[(19,.gd false (.call [] [(iv (a1+2))] [] (iv ((a1+2).natAbs:Int)) [])),(20,.gd false .no)]) [.k7,.d,.k3,.n,.r] [ps 80 (bv (decide (3<((a1+2).natAbs:Int))))] (on 3 tt (on 3 (qV h27) (on 3 ff (on 2 (qV h27) (on 3 ff (zO 364 (jR (a1+2) (by omega) (by omega)) (oc ff oz))))))) ?_
     by_cases h28:3<((a1+2).natAbs:Int)
     ·refine qS (qT h28)<|qB<|qH qD [.d,.k2,.d,.d,.d,.d,.d,.d,.d,.d,.k1,.d,.n,.d,.d] [pb 1 33 [(iv 3),(nv n1)]] ?_
      rw [vM (s:=s) hL0 hL1 (zz h4 h1S (jq (q:=3) (by decide) h26 (by show (a1+2)*2<0∨3<max (a1+2) (0-(a1+2));omega)))]
      exact yk fun cx_ a_ hI_=>zB (zB (rt hc0 [ps 2 (.opt 0 0),ps 3 (.opt 1 0),pb 0 52 [(iv 0),(iv 0),(iv 0)],pb 1 33 [(iv 3),(nv n1)]] [0,1] hI_))
     refine qR (qV h28)<|qF ?_
     have hpl:=ZR (by decide) h26
     simp only [List.length_cons,List.length_nil] at hpl
     refine qQ qD [] [.k4,.d,.n,.k1,.d,.k3,.d,.r] [ps 6 (iv (((n1:Nat):Int)+1))] (oi (((n1:Nat):Int)+1) (by omega) oz)<|qZ<|qQ qD [] [.k8,.d,.n,.r] [ps 37 (iv (((k:Nat):Int)+1))] (oi (((k:Nat):Int)+1) (by omega) oz) ?_
     have hon:=qea (q:=3) (a:=a1) (by decide) h26 (by show ¬ ((a1+2)*2<0∨3<max (a1+2) (0-(a1+2)));omega)
     exact qq ⟨(k+1,true,a1+2,n1+1),⟨by show k+1≤7;omega,by show n1+1≤s.length;omega,by show 1≤n1+1;omega,by show n≤n1+1;omega,by show -3≤a1+2;omega,by show a1+2≤3;omega,hon.symm.trans h1S,fun _=>by show n<n1+1;omega,fun c=>by cases c⟩⟩ (Wk.trans (Wk.eq (show _=[ps 0 (sv (st s)),ps 2 (.opt 0 0),ps 3 (.opt 1 0),ps 4 (.opt 2 0),ps 6 (nv (n1+1)),ps 7 (bv true),ps 35 (.osl 3 0 7),ps 36 (iv 7),ps 37 (nv (k+1)),pb 0 52 [(iv 0),(iv 0),(iv 0)],pb 1 33 [(iv 0),(iv 0)],pb 2 52 [(iv (Lib.indexByte letB (s.getD 0 0))),(iv (a1+2)),(iv 0)],pb 3 9 [(sv (st ([226,153,175]:TX))),(sv (st ([35]:TX))),(sv (st ([240,157,132,170]:TX))),(sv (st ([120]:TX))),(sv (st ([226,153,173]:TX))),(sv (st ([98]:TX))),(sv (st ([240,157,132,171]:TX)))]] from by rfl)) (Wk.ren2 _ 0 hc0 [0,1,2,3] rfl rfl (by kernel_rfl) (by kernel_rfl))) (show 7-(k+1)<7-k from by show 7-(k+1)<7-k;omega)
    refine qO (b:=(Lib.hasPrefix (s.drop n1) ([120]:TX))) rfl (Bool.eq_false_iff.2 h26)<|qF<|qZ<|qQ qD [] [.k6,.d,.d,.k2,.d,.n,.d,.r] [ps 37 (iv (((k:Nat):Int)+1))] (oi (((k:Nat):Int)+1) (by omega) oz) ?_
    exact qq ⟨(k+1,g1,a1,n1),⟨by show k+1≤7;omega,h1n,h1m,h1o,h1a,h1b,h1S,h1t,fun c=>⟨(h1f c).1,QE (P:=fun j=>Lib.hasPrefix (s.drop n1) (sgT j)=false) (h1f c).2 h24 (eq_false_of_ne_true h26)⟩⟩⟩ (Wk.trans (Wk.eq (show _=[ps 0 (sv (st s)),ps 2 (.opt 0 0),ps 3 (.opt 1 0),ps 4 (.opt 2 0),ps 6 (nv n1),ps 7 (bv g1),ps 35 (.osl 3 0 7),ps 36 (iv 7),ps 37 (nv (k+1)),pb 0 52 [(iv 0),(iv 0),(iv 0)],pb 1 33 [(iv 0),(iv 0)],pb 2 52 [(iv (Lib.indexByte letB (s.getD 0 0))),(iv a1),(iv 0)],pb 3 9 [(sv (st ([226,153,175]:TX))),(sv (st ([35]:TX))),(sv (st ([240,157,132,170]:TX))),(sv (st ([120]:TX))),(sv (st ([226,153,173]:TX))),(sv (st ([98]:TX))),(sv (st ([240,157,132,171]:TX)))]] from by rfl)) (Wk.ren2 _ 0 hc0 [0,1,2,3] rfl rfl (by kernel_rfl) (by kernel_rfl))) (show 7-(k+1)<7-k from by show 7-(k+1)<7-k;omega)
   by_cases h29:k=4
   ·refine qQ qD [(1,.nat 4)] [.k6,.n,.n,.k3,.d,.r] [ps 8 (nv k),ps 9 (sv (st ([226,153,173]:TX)))] (oc (by omega:(0:Int)≤(k:Int)∧(k:Int)<((7:Nat):Int)) (oc (by omega:0+(((k:Nat):Int):Int).toNat*1=4) oz))<|qB<|qQ qD [(2,.nat 4)] [.k6,.d,.k1,.n,.r] [ps 10 (iv (-1))] (oc (by omega:(0:Int)≤(k:Int)∧(k:Int)<((7:Nat):Int)) (oc (by omega:0+(((k:Nat):Int):Int).toNat*1=4) oz))<|qB ?_
    by_cases h30:g1=true
    ·refine qQ qD (gn 3 4++[(7,.yes false)]) [.k8,.k3,.n,.r] [ps 53 (bv false)] (oc (congrArg Bool.not h30:(!g1)=false) (oc (congrArg Bool.not h30:(!g1)=false) (oc (congrArg Bool.not h30:(!g1)=false) (oc (congrArg Bool.not h30:(!g1)=false) (oc (congrArg Bool.not h30:(!g1)=false) oz)))))<|qO (b:=false) rfl rfl<|qF<|qZ<|qQ qD [] [.k6,.d,.d,.k2,.d,.n,.d,.r] [ps 37 (iv (((k:Nat):Int)+1))] (oi (((k:Nat):Int)+1) (by omega) oz) ?_
     exact qq ⟨(k+1,g1,a1,n1),⟨by show k+1≤7;omega,h1n,h1m,h1o,h1a,h1b,h1S,h1t,fun c=>by rw [h30] at c;cases c⟩⟩ (Wk.trans (Wk.eq (show _=[ps 0 (sv (st s)),ps 2 (.opt 0 0),ps 3 (.opt 1 0),ps 4 (.opt 2 0),ps 6 (nv n1),ps 7 (bv g1),ps 35 (.osl 3 0 7),ps 36 (iv 7),ps 37 (nv (k+1)),pb 0 52 [(iv 0),(iv 0),(iv 0)],pb 1 33 [(iv 0),(iv 0)],pb 2 52 [(iv (Lib.indexByte letB (s.getD 0 0))),(iv a1),(iv 0)],pb 3 9 [(sv (st ([226,153,175]:TX))),(sv (st ([35]:TX))),(sv (st ([240,157,132,170]:TX))),(sv (st ([120]:TX))),(sv (st ([226,153,173]:TX))),(sv (st ([98]:TX))),(sv (st ([240,157,132,171]:TX)))]] from by rfl)) (Wk.ren2 _ 0 hc0 [0,1,2,3] rfl rfl (by kernel_rfl) (by kernel_rfl))) (show 7-(k+1)<7-k from by show 7-(k+1)<7-k;omega)
    refine qQ qD (gy 3 3++[(6,.gd true (.call [] [(sv (st s)),(nv n1),(sv (st ([226,153,173]:TX)))] [] (bv (Lib.hasPrefix (s.drop n1) ([226,153,173]:TX))) [])),(7,.yes true)]) [.k8,.k3,.n,.r] [ps 53 (bv (Lib.hasPrefix (s.drop n1) ([226,153,173]:TX)))] (oc (congrArg Bool.not (Bool.eq_false_iff.2 h30):(!g1)=true) (oc (congrArg Bool.not (Bool.eq_false_iff.2 h30):(!g1)=true) (oc (congrArg Bool.not (Bool.eq_false_iff.2 h30):(!g1)=true) (oc (congrArg Bool.not (Bool.eq_false_iff.2 h30):(!g1)=true) (zO 140 (wY s n1 ([226,153,173]:TX) (by omega) (by omega) (by decide) (by decide)) (oc (congrArg Bool.not (Bool.eq_false_iff.2 h30):(!g1)=true) oz)))))) ?_
    by_cases h31:(Lib.hasPrefix (s.drop n1) ([226,153,173]:TX))=true
    ·refine qL (b:=(Lib.hasPrefix (s.drop n1) ([226,153,173]:TX))) rfl h31<|qB<|qH qD [.k5,.d,.n,.k5,.d,.r] [ps 7 (bv true)]<|qB<|qQ qD [] [.k8,.k5,.d,.n,.r] [pb 2 52 [(iv (Lib.indexByte letB (s.getD 0 0))),(iv (a1+(-1))),(iv 0)]] (oi (a1+(-1)) (by omega) oz)<|qB<|qB ?_
     by_cases h32:0<(a1+(-1))
     ·refine qQ qD (gn 3 3++gn 8 3++gy 11 3++[(14,.gd false .no)]++gy 17 4++[(21,.yes true)]) [.k7,.d,.k3,.n,.r] [ps 80 (bv true)] (on 6 ff (on 3 tt (oc ff (on 5 (qT h32) oz))))<|qL (b:=true) rfl rfl<|qB<|qH qD [.d,.k2,.d,.d,.d,.d,.d,.d,.d,.d,.k1,.d,.n,.d,.d] [pb 1 33 [(iv 3),(nv n1)]] ?_
      rw [vM (s:=s) hL0 hL1 (zz h4 h1S (jq (q:=4) (by decide) h31 (by show (a1+(-1))*(-1)<0∨3<max (a1+(-1)) (0-(a1+(-1)));omega)))]
      exact yk fun cx_ a_ hI_=>zB (zB (rt hc0 [ps 2 (.opt 0 0),ps 3 (.opt 1 0),pb 0 52 [(iv 0),(iv 0),(iv 0)],pb 1 33 [(iv 3),(nv n1)]] [0,1] hI_))
     refine qQ qD (gn 3 3++gn 8 3++gy 11 3++[(14,.gd false .no)]++gn 17 2++[(19,.gd false (.call [] [(iv (a1+(-1)))] [] (iv ((a1+(-1)).natAbs:Int)) [])),(20,.gd false .no),(21,.yes false)]) [.k7,.d,.k3,.n,.r] [ps 80 (bv (decide (3<((a1+(-1)).natAbs:Int))))] (on 6 ff (on 3 tt (oc ff (on 3 (qV h32) (zO 364 (jR (a1+(-1)) (by omega) (by omega)) (on 2 (qV h32) oz)))))) ?_
     by_cases h33:3<((a1+(-1)).natAbs:Int)
     ·refine qS (qT h33)<|qB<|qH qD [.d,.k2,.d,.d,.d,.d,.d,.d,.d,.d,.k1,.d,.n,.d,.d] [pb 1 33 [(iv 3),(nv n1)]] ?_
      rw [vM (s:=s) hL0 hL1 (zz h4 h1S (jq (q:=4) (by decide) h31 (by show (a1+(-1))*(-1)<0∨3<max (a1+(-1)) (0-(a1+(-1)));omega)))]
      exact yk fun cx_ a_ hI_=>zB (zB (rt hc0 [ps 2 (.opt 0 0),ps 3 (.opt 1 0),pb 0 52 [(iv 0),(iv 0),(iv 0)],pb 1 33 [(iv 3),(nv n1)]] [0,1] hI_))
     refine qR (qV h33)<|qF ?_
     have hpl:=ZR (by decide) h31
     simp only [List.length_cons,List.length_nil] at hpl
     refine qQ qD [] [.k4,.d,.n,.k1,.d,.k3,.d,.r] [ps 6 (iv (((n1:Nat):Int)+3))] (oi (((n1:Nat):Int)+3) (by omega) oz)<|qZ<|qQ qD [] [.k8,.d,.n,.r] [ps 37 (iv (((k:Nat):Int)+1))] (oi (((k:Nat):Int)+1) (by omega) oz) ?_
     have hon:=qea (q:=4) (a:=a1) (by decide) h31 (by show ¬ ((a1+(-1))*(-1)<0∨3<max (a1+(-1)) (0-(a1+(-1))));omega)
     exact qq ⟨(k+1,true,a1+(-1),n1+3),⟨by show k+1≤7;omega,by show n1+3≤s.length;omega,by show 1≤n1+3;omega,by show n≤n1+3;omega,by show -3≤a1+(-1);omega,by show a1+(-1)≤3;omega,hon.symm.trans h1S,fun _=>by show n<n1+3;omega,fun c=>by cases c⟩⟩ (Wk.trans (Wk.eq (show _=[ps 0 (sv (st s)),ps 2 (.opt 0 0),ps 3 (.opt 1 0),ps 4 (.opt 2 0),ps 6 (nv (n1+3)),ps 7 (bv true),ps 35 (.osl 3 0 7),ps 36 (iv 7),ps 37 (nv (k+1)),pb 0 52 [(iv 0),(iv 0),(iv 0)],pb 1 33 [(iv 0),(iv 0)],pb 2 52 [(iv (Lib.indexByte letB (s.getD 0 0))),(iv (a1+(-1))),(iv 0)],pb 3 9 [(sv (st ([226,153,175]:TX))),(sv (st ([35]:TX))),(sv (st ([240,157,132,170]:TX))),(sv (st ([120]:TX))),(sv (st ([226,153,173]:TX))),(sv (st ([98]:TX))),(sv (st ([240,157,132,171]:TX)))]] from by rfl)) (Wk.ren2 _ 0 hc0 [0,1,2,3] rfl rfl (by kernel_rfl) (by kernel_rfl))) (show 7-(k+1)<7-k from by show 7-(k+1)<7-k;omega)
    refine qO (b:=(Lib.hasPrefix (s.drop n1) ([226,153,173]:TX))) rfl (Bool.eq_false_iff.2 h31)<|qF<|qZ<|qQ qD [] [.k6,.d,.d,.k2,.d,.n,.d,.r] [ps 37 (iv (((k:Nat):Int)+1))] (oi (((k:Nat):Int)+1) (by omega) oz) ?_
    exact qq ⟨(k+1,g1,a1,n1),⟨by show k+1≤7;omega,h1n,h1m,h1o,h1a,h1b,h1S,h1t,fun c=>⟨(h1f c).1,QE (P:=fun j=>Lib.hasPrefix (s.drop n1) (sgT j)=false) (h1f c).2 h29 (eq_false_of_ne_true h31)⟩⟩⟩ (Wk.trans (Wk.eq (show _=[ps 0 (sv (st s)),ps 2 (.opt 0 0),ps 3 (.opt 1 0),ps 4 (.opt 2 0),ps 6 (nv n1),ps 7 (bv g1),ps 35 (.osl 3 0 7),ps 36 (iv 7),ps 37 (nv (k+1)),pb 0 52 [(iv 0),(iv 0),(iv 0)],pb 1 33 [(iv 0),(iv 0)],pb 2 52 [(iv (Lib.indexByte letB (s.getD 0 0))),(iv a1),(iv 0)],pb 3 9 [(sv (st ([226,153,175]:TX))),(sv (st ([35]:TX))),(sv (st ([240,157,132,170]:TX))),(sv (st ([120]:TX))),(sv (st ([226,153,173]:TX))),(sv (st ([98]:TX))),(sv (st ([240,157,132,171]:TX)))]] from by rfl)) (Wk.ren2 _ 0 hc0 [0,1,2,3] rfl rfl (by kernel_rfl) (by kernel_rfl))) (show 7-(k+1)<7-k from by show 7-(k+1)<7-k;omega)
   by_cases h34:k=5
   ·refine qQ qD [(1,.nat 5)] [.k6,.n,.n,.k3,.d,.r] [ps 8 (nv k),ps 9 (sv (st ([98]:TX)))] (oc (by omega:(0:Int)≤(k:Int)∧(k:Int)<((7:Nat):Int)) (oc (by omega:0+(((k:Nat):Int):Int).toNat*1=5) oz))<|qB<|qQ qD [(2,.nat 5)] [.k6,.d,.k1,.n,.r] [ps 10 (iv (-1))] (oc (by omega:(0:Int)≤(k:Int)∧(k:Int)<((7:Nat):Int)) (oc (by omega:0+(((k:Nat):Int):Int).toNat*1=5) oz))<|qB ?_
    by_cases h35:g1=true
    ·refine qQ qD (gn 3 4++[(7,.yes false)]) [.k8,.k3,.n,.r] [ps 53 (bv false)] (oc (congrArg Bool.not h35:(!g1)=false) (oc (congrArg Bool.not h35:(!g1)=false) (oc (congrArg Bool.not h35:(!g1)=false) (oc (congrArg Bool.not h35:(!g1)=false) (oc (congrArg Bool.not h35:(!g1)=false) oz)))))<|qO (b:=false) rfl rfl<|qF<|qZ<|qQ qD [] [.k6,.d,.d,.k2,.d,.n,.d,.r] [ps 37 (iv (((k:Nat):Int)+1))] (oi (((k:Nat):Int)+1) (by omega) oz) ?_
     exact qq ⟨(k+1,g1,a1,n1),⟨by show k+1≤7;omega,h1n,h1m,h1o,h1a,h1b,h1S,h1t,fun c=>by rw [h35] at c;cases c⟩⟩ (Wk.trans (Wk.eq (show _=[ps 0 (sv (st s)),ps 2 (.opt 0 0),ps 3 (.opt 1 0),ps 4 (.opt 2 0),ps 6 (nv n1),ps 7 (bv g1),ps 35 (.osl 3 0 7),ps 36 (iv 7),ps 37 (nv (k+1)),pb 0 52 [(iv 0),(iv 0),(iv 0)],pb 1 33 [(iv 0),(iv 0)],pb 2 52 [(iv (Lib.indexByte letB (s.getD 0 0))),(iv a1),(iv 0)],pb 3 9 [(sv (st ([226,153,175]:TX))),(sv (st ([35]:TX))),(sv (st ([240,157,132,170]:TX))),(sv (st ([120]:TX))),(sv (st ([226,153,173]:TX))),(sv (st ([98]:TX))),(sv (st ([240,157,132,171]:TX)))]] from by rfl)) (Wk.ren2 _ 0 hc0 [0,1,2,3] rfl rfl (by kernel_rfl) (by kernel_rfl))) (show 7-(k+1)<7-k from by show 7-(k+1)<7-k;omega)
    refine qQ qD (gy 3 3++[(6,.gd true (.call [] [(sv (st s)),(nv n1),(sv (st ([98]:TX)))] [] (bv (Lib.hasPrefix (s.drop n1) ([98]:TX))) [])),(7,.yes true)]) [.k8,.k3,.n,.r] [ps 53 (bv (Lib.hasPrefix (s.drop n1) ([98]:TX)))] (oc (congrArg Bool.not (Bool.eq_false_iff.2 h35):(!g1)=true) (oc (congrArg Bool.not (Bool.eq_false_iff.2 h35):(!g1)=true) (oc (congrArg Bool.not (Bool.eq_false_iff.2 h35):(!g1)=true) (oc (congrArg Bool.not (Bool.eq_false_iff.2 h35):(!g1)=true) (zO 140 (wY s n1 ([98]:TX) (by omega) (by omega) (by decide) (by decide)) (oc (congrArg Bool.not (Bool.eq_false_iff.2 h35):(!g1)=true) oz)))))) ?_
    by_cases h36:(Lib.hasPrefix (s.drop n1) ([98]:TX))=true
    ·refine qL (b:=(Lib.hasPrefix (s.drop n1) ([98]:TX))) rfl h36<|qB<|qH qD [.k5,.d,.n,.k5,.d,.r] [ps 7 (bv true)]<|qB<|qQ qD [] [.k8,.k5,.d,.n,.r] [pb 2 52 [(iv (Lib.indexByte letB (s.getD 0 0))),(iv (a1+(-1))),(iv 0)]] (oi (a1+(-1)) (by omega) oz)<|qB<|qB ?_
     by_cases h37:0<(a1+(-1))
     ·refine qQ qD (gn 3 3++gn 8 3++gy 11 3++[(14,.gd false .no)]++gy 17 4++[(21,.yes true)]) [.k7,.d,.k3,.n,.r] [ps 80 (bv true)] (on 6 ff (on 3 tt (oc ff (on 5 (qT h37) oz))))<|qL (b:=true) rfl rfl<|qB<|qH qD [.d,.k2,.d,.d,.d,.d,.d,.d,.d,.d,.k1,.d,.n,.d,.d] [pb 1 33 [(iv 3),(nv n1)]] ?_
      rw [vM (s:=s) hL0 hL1 (zz h4 h1S (jq (q:=5) (by decide) h36 (by show (a1+(-1))*(-1)<0∨3<max (a1+(-1)) (0-(a1+(-1)));omega)))]
      exact yk fun cx_ a_ hI_=>zB (zB (rt hc0 [ps 2 (.opt 0 0),ps 3 (.opt 1 0),pb 0 52 [(iv 0),(iv 0),(iv 0)],pb 1 33 [(iv 3),(nv n1)]] [0,1] hI_))
     refine qQ qD (gn 3 3++gn 8 3++gy 11 3++[(14,.gd false .no)]++gn 17 2++[(19,.gd false (.call [] [(iv (a1+(-1)))] [] (iv ((a1+(-1)).natAbs:Int)) [])),(20,.gd false .no),(21,.yes false)]) [.k7,.d,.k3,.n,.r] [ps 80 (bv (decide (3<((a1+(-1)).natAbs:Int))))] (on 6 ff (on 3 tt (oc ff (on 3 (qV h37) (zO 364 (jR (a1+(-1)) (by omega) (by omega)) (on 2 (qV h37) oz)))))) ?_
     by_cases h38:3<((a1+(-1)).natAbs:Int)
     ·refine qS (qT h38)<|qB<|qH qD [.d,.k2,.d,.d,.d,.d,.d,.d,.d,.d,.k1,.d,.n,.d,.d] [pb 1 33 [(iv 3),(nv n1)]] ?_
      rw [vM (s:=s) hL0 hL1 (zz h4 h1S (jq (q:=5) (by decide) h36 (by show (a1+(-1))*(-1)<0∨3<max (a1+(-1)) (0-(a1+(-1)));omega)))]
      exact yk fun cx_ a_ hI_=>zB (zB (rt hc0 [ps 2 (.opt 0 0),ps 3 (.opt 1 0),pb 0 52 [(iv 0),(iv 0),(iv 0)],pb 1 33 [(iv 3),(nv n1)]] [0,1] hI_))
     refine qR (qV h38)<|qF ?_
     have hpl:=ZR (by decide) h36
     simp only [List.length_cons,List.length_nil] at hpl
     refine qQ qD [] [.k4,.d,.n,.k1,.d,.k3,.d,.r] [ps 6 (iv (((n1:Nat):Int)+1))] (oi (((n1:Nat):Int)+1) (by omega) oz)<|qZ<|qQ qD [] [.k8,.d,.n,.r] [ps 37 (iv (((k:Nat):Int)+1))] (oi (((k:Nat):Int)+1) (by omega) oz) ?_
     have hon:=qea (q:=5) (a:=a1) (by decide) h36 (by show ¬ ((a1+(-1))*(-1)<0∨3<max (a1+(-1)) (0-(a1+(-1))));omega)
     exact qq ⟨(k+1,true,a1+(-1),n1+1),⟨by show k+1≤7;omega,by show n1+1≤s.length;omega,by show 1≤n1+1;omega,by show n≤n1+1;omega,by show -3≤a1+(-1);omega,by show a1+(-1)≤3;omega,hon.symm.trans h1S,fun _=>by show n<n1+1;omega,fun c=>by cases c⟩⟩ (Wk.trans (Wk.eq (show _=[ps 0 (sv (st s)),ps 2 (.opt 0 0),ps 3 (.opt 1 0),ps 4 (.opt 2 0),ps 6 (nv (n1+1)),ps 7 (bv true),ps 35 (.osl 3 0 7),ps 36 (iv 7),ps 37 (nv (k+1)),pb 0 52 [(iv 0),(iv 0),(iv 0)],pb 1 33 [(iv 0),(iv 0)],pb 2 52 [(iv (Lib.indexByte letB (s.getD 0 0))),(iv (a1+(-1))),(iv 0)],pb 3 9 [(sv (st ([226,153,175]:TX))),(sv (st ([35]:TX))),(sv (st ([240,157,132,170]:TX))),(sv (st ([120]:TX))),(sv (st ([226,153,173]:TX))),(sv (st ([98]:TX))),(sv (st ([240,157,132,171]:TX)))]] from by rfl)) (Wk.ren2 _ 0 hc0 [0,1,2,3] rfl rfl (by kernel_rfl) (by kernel_rfl))) (show 7-(k+1)<7-k from by show 7-(k+1)<7-k;omega)
    refine qO (b:=(Lib.hasPrefix (s.drop n1) ([98]:TX))) rfl (Bool.eq_false_iff.2 h36)<|qF<|qZ<|qQ qD [] [.k6,.d,.d,.k2,.d,.n,.d,.r] [ps 37 (iv (((k:Nat):Int)+1))] (oi (((k:Nat):Int)+1) (by omega) oz) ?_
    exact qq ⟨(k+1,g1,a1,n1),⟨by show k+1≤7;omega,h1n,h1m,h1o,h1a,h1b,h1S,h1t,fun c=>⟨(h1f c).1,QE (P:=fun j=>Lib.hasPrefix (s.drop n1) (sgT j)=false) (h1f c).2 h34 (eq_false_of_ne_true h36)⟩⟩⟩ (Wk.trans (Wk.eq (show _=[ps 0 (sv (st s)),ps 2 (.opt 0 0),ps 3 (.opt 1 0),ps 4 (.opt 2 0),ps 6 (nv n1),ps 7 (bv g1),ps 35 (.osl 3 0 7),ps 36 (iv 7),ps 37 (nv (k+1)),pb 0 52 [(iv 0),(iv 0),(iv 0)],pb 1 33 [(iv 0),(iv 0)],pb 2 52 [(iv (Lib.indexByte letB (s.getD 0 0))),(iv a1),(iv 0)],pb 3 9 [(sv (st ([226,153,175]:TX))),(sv (st ([35]:TX))),(sv (st ([240,157,132,170]:TX))),(sv (st ([120]:TX))),(sv (st ([226,153,173]:TX))),(sv (st ([98]:TX))),(sv (st ([240,157,132,171]:TX)))]] from by rfl)) (Wk.ren2 _ 0 hc0 [0,1,2,3] rfl rfl (by kernel_rfl) (by kernel_rfl))) (show 7-(k+1)<7-k from by show 7-(k+1)<7-k;omega)
   by_cases h39:k=6
   ·refine qQ qD [(1,.nat 6)] [.k6,.n,.n,.k3,.d,.r] [ps 8 (nv k),ps 9 (sv (st ([240,157,132,171]:TX)))] (oc (by omega:(0:Int)≤(k:Int)∧(k:Int)<((7:Nat):Int)) (oc (by omega:0+(((k:Nat):Int):Int).toNat*1=6) oz))<|qB<|qQ qD [(2,.nat 6)] [.k6,.d,.k1,.n,.r] [ps 10 (iv (-2))] (oc (by omega:(0:Int)≤(k:Int)∧(k:Int)<((7:Nat):Int)) (oc (by omega:0+(((k:Nat):Int):Int).toNat*1=6) oz))<|qB ?_
    by_cases h40:g1=true
    ·refine qQ qD (gn 3 4++[(7,.yes false)]) [.k8,.k3,.n,.r] [ps 53 (bv false)] (oc (congrArg Bool.not h40:(!g1)=false) (oc (congrArg Bool.not h40:(!g1)=false) (oc (congrArg Bool.not h40:(!g1)=false) (oc (congrArg Bool.not h40:(!g1)=false) (oc (congrArg Bool.not h40:(!g1)=false) oz)))))<|qO (b:=false) rfl rfl<|qF<|qZ<|qQ qD [] [.k6,.d,.d,.k2,.d,.n,.d,.r] [ps 37 (iv (((k:Nat):Int)+1))] (oi (((k:Nat):Int)+1) (by omega) oz) ?_
     exact qq ⟨(k+1,g1,a1,n1),⟨by show k+1≤7;omega,h1n,h1m,h1o,h1a,h1b,h1S,h1t,fun c=>by rw [h40] at c;cases c⟩⟩ (Wk.trans (Wk.eq (show _=[ps 0 (sv (st s)),ps 2 (.opt 0 0),ps 3 (.opt 1 0),ps 4 (.opt 2 0),ps 6 (nv n1),ps 7 (bv g1),ps 35 (.osl 3 0 7),ps 36 (iv 7),ps 37 (nv (k+1)),pb 0 52 [(iv 0),(iv 0),(iv 0)],pb 1 33 [(iv 0),(iv 0)],pb 2 52 [(iv (Lib.indexByte letB (s.getD 0 0))),(iv a1),(iv 0)],pb 3 9 [(sv (st ([226,153,175]:TX))),(sv (st ([35]:TX))),(sv (st ([240,157,132,170]:TX))),(sv (st ([120]:TX))),(sv (st ([226,153,173]:TX))),(sv (st ([98]:TX))),(sv (st ([240,157,132,171]:TX)))]] from by rfl)) (Wk.ren2 _ 0 hc0 [0,1,2,3] rfl rfl (by kernel_rfl) (by kernel_rfl))) (show 7-(k+1)<7-k from by show 7-(k+1)<7-k;omega)
    refine qQ qD (gy 3 3++[(6,.gd true (.call [] [(sv (st s)),(nv n1),(sv (st ([240,157,132,171]:TX)))] [] (bv (Lib.hasPrefix (s.drop n1) ([240,157,132,171]:TX))) [])),(7,.yes true)]) [.k8,.k3,.n,.r] [ps 53 (bv (Lib.hasPrefix (s.drop n1) ([240,157,132,171]:TX)))] (oc (congrArg Bool.not (Bool.eq_false_iff.2 h40):(!g1)=true) (oc (congrArg Bool.not (Bool.eq_false_iff.2 h40):(!g1)=true) (oc (congrArg Bool.not (Bool.eq_false_iff.2 h40):(!g1)=true) (oc (congrArg Bool.not (Bool.eq_false_iff.2 h40):(!g1)=true) (zO 140 (wY s n1 ([240,157,132,171]:TX) (by omega) (by omega) (by decide) (by decide)) (oc (congrArg Bool.not (Bool.eq_false_iff.2 h40):(!g1)=true) oz)))))) ?_
    by_cases h41:(Lib.hasPrefix (s.drop n1) ([240,157,132,171]:TX))=true
    ·refine qL (b:=(Lib.hasPrefix (s.drop n1) ([240,157,132,171]:TX))) rfl h41<|qB<|qH qD [.k5,.d,.n,.k5,.d,.r] [ps 7 (bv true)]<|qB<|qQ qD [] [.k8,.k5,.d,.n,.r] [pb 2 52 [(iv (Lib.indexByte letB (s.getD 0 0))),(iv (a1+(-2))),(iv 0)]] (oi (a1+(-2)) (by omega) oz)<|qB<|qB ?_
     by_cases h42:0<(a1+(-2))
     ·refine qQ qD (gn 3 3++gn 8 3++gy 11 3++[(14,.gd false .no)]++gy 17 4++[(21,.yes true)]) [.k7,.d,.k3,.n,.r] [ps 80 (bv true)] (on 6 ff (on 3 tt (oc ff (on 5 (qT h42) oz))))<|qL (b:=true) rfl rfl<|qB<|qH qD [.d,.k2,.d,.d,.d,.d,.d,.d,.d,.d,.k1,.d,.n,.d,.d] [pb 1 33 [(iv 3),(nv n1)]] ?_
      rw [vM (s:=s) hL0 hL1 (zz h4 h1S (jq (q:=6) (by decide) h41 (by show (a1+(-2))*(-2)<0∨3<max (a1+(-2)) (0-(a1+(-2)));omega)))]
      exact yk fun cx_ a_ hI_=>zB (zB (rt hc0 [ps 2 (.opt 0 0),ps 3 (.opt 1 0),pb 0 52 [(iv 0),(iv 0),(iv 0)],pb 1 33 [(iv 3),(nv n1)]] [0,1] hI_))
     refine qQ qD (gn 3 3++gn 8 3++gy 11 3++[(14,.gd false .no)]++gn 17 2++[(19,.gd false (.call [] [(iv (a1+(-2)))] [] (iv ((a1+(-2)).natAbs:Int)) [])),(20,.gd false .no),(21,.yes false)]) [.k7,.d,.k3,.n,.r] [ps 80 (bv (decide (3<((a1+(-2)).natAbs:Int))))] (on 6 ff (on 3 tt (oc ff (on 3 (qV h42) (zO 364 (jR (a1+(-2)) (by omega) (by omega)) (on 2 (qV h42) oz)))))) ?_
     by_cases h43:3<((a1+(-2)).natAbs:Int)
     ·refine qS (qT h43)<|qB<|qH qD [.d,.k2,.d,.d,.d,.d,.d,.d,.d,.d,.k1,.d,.n,.d,.d] [pb 1 33 [(iv 3),(nv n1)]] ?_
      rw [vM (s:=s) hL0 hL1 (zz h4 h1S (jq (q:=6) (by decide) h41 (by show (a1+(-2))*(-2)<0∨3<max (a1+(-2)) (0-(a1+(-2)));omega)))]
      exact yk fun cx_ a_ hI_=>zB (zB (rt hc0 [ps 2 (.opt 0 0),ps 3 (.opt 1 0),pb 0 52 [(iv 0),(iv 0),(iv 0)],pb 1 33 [(iv 3),(nv n1)]] [0,1] hI_))
     refine qR (qV h43)<|qF ?_
     have hpl:=ZR (by decide) h41
     simp only [List.length_cons,List.length_nil] at hpl
     refine qQ qD [] [.k4,.d,.n,.k1,.d,.k3,.d,.r] [ps 6 (iv (((n1:Nat):Int)+4))] (oi (((n1:Nat):Int)+4) (by omega) oz)<|qZ<|qQ qD [] [.k8,.d,.n,.r] [ps 37 (iv (((k:Nat):Int)+1))] (oi (((k:Nat):Int)+1) (by omega) oz) ?_
     have hon:=qea (q:=6) (a:=a1) (by decide) h41 (by show ¬ ((a1+(-2))*(-2)<0∨3<max (a1+(-2)) (0-(a1+(-2))));omega)
     exact qq ⟨(k+1,true,a1+(-2),n1+4),⟨by show k+1≤7;omega,by show n1+4≤s.length;omega,by show 1≤n1+4;omega,by show n≤n1+4;omega,by show -3≤a1+(-2);omega,by show a1+(-2)≤3;omega,hon.symm.trans h1S,fun _=>by show n<n1+4;omega,fun c=>by cases c⟩⟩ (Wk.trans (Wk.eq (show _=[ps 0 (sv (st s)),ps 2 (.opt 0 0),ps 3 (.opt 1 0),ps 4 (.opt 2 0),ps 6 (nv (n1+4)),ps 7 (bv true),ps 35 (.osl 3 0 7),ps 36 (iv 7),ps 37 (nv (k+1)),pb 0 52 [(iv 0),(iv 0),(iv 0)],pb 1 33 [(iv 0),(iv 0)],pb 2 52 [(iv (Lib.indexByte letB (s.getD 0 0))),(iv (a1+(-2))),(iv 0)],pb 3 9 [(sv (st ([226,153,175]:TX))),(sv (st ([35]:TX))),(sv (st ([240,157,132,170]:TX))),(sv (st ([120]:TX))),(sv (st ([226,153,173]:TX))),(sv (st ([98]:TX))),(sv (st ([240,157,132,171]:TX)))]] from by rfl)) (Wk.ren2 _ 0 hc0 [0,1,2,3] rfl rfl (by kernel_rfl) (by kernel_rfl))) (show 7-(k+1)<7-k from by show 7-(k+1)<7-k;omega)
    refine qO (b:=(Lib.hasPrefix (s.drop n1) ([240,157,132,171]:TX))) rfl (Bool.eq_false_iff.2 h41)<|qF<|qZ<|qQ qD [] [.k6,.d,.d,.k2,.d,.n,.d,.r] [ps 37 (iv (((k:Nat):Int)+1))] (oi (((k:Nat):Int)+1) (by omega) oz) ?_
    exact qq ⟨(k+1,g1,a1,n1),⟨by show k+1≤7;omega,h1n,h1m,h1o,h1a,h1b,h1S,h1t,fun c=>⟨(h1f c).1,QE (P:=fun j=>Lib.hasPrefix (s.drop n1) (sgT j)=false) (h1f c).2 h39 (eq_false_of_ne_true h41)⟩⟩⟩ (Wk.trans (Wk.eq (show _=[ps 0 (sv (st s)),ps 2 (.opt 0 0),ps 3 (.opt 1 0),ps 4 (.opt 2 0),ps 6 (nv n1),ps 7 (bv g1),ps 35 (.osl 3 0 7),ps 36 (iv 7),ps 37 (nv (k+1)),pb 0 52 [(iv 0),(iv 0),(iv 0)],pb 1 33 [(iv 0),(iv 0)],pb 2 52 [(iv (Lib.indexByte letB (s.getD 0 0))),(iv a1),(iv 0)],pb 3 9 [(sv (st ([226,153,175]:TX))),(sv (st ([35]:TX))),(sv (st ([240,157,132,170]:TX))),(sv (st ([120]:TX))),(sv (st ([226,153,173]:TX))),(sv (st ([98]:TX))),(sv (st ([240,157,132,171]:TX)))]] from by rfl)) (Wk.ren2 _ 0 hc0 [0,1,2,3] rfl rfl (by kernel_rfl) (by kernel_rfl))) (show 7-(k+1)<7-k from by show 7-(k+1)<7-k;omega)
   ·exfalso;omega
  refine qR (qV h8)<|zI rfl rfl<|qZ ?_
  exact qq ⟨(g1,a1,n1),⟨by show n1≤s.length;omega,by show 1≤n1;omega,by show -3≤a1;omega,by show a1≤3;omega,by show vK (s.drop n1) a1 n1=vK (s.drop 1) 0 1;exact h1S,by show g1=false→vK (s.drop n1) a1 n1=(true,a1,n1);intro hg;exact sg_none (fun j hj=>(h1f hg).2 j (by omega)) a1 n1⟩⟩ (Wk.ren2 _ 0 hc0 [0,1,2] rfl rfl (by kernel_rfl) (by kernel_rfl)) (show 2*(s.length-n1)+(if g1=true then 1 else 0)<2*(s.length-n)+(if g=true then 1 else 0) from by show 2*(s.length-n1)+(if g1=true then 1 else 0)<2*(s.length-n)+(if g=true then 1 else 0);rw [if_pos h7];exact (Bool.eq_false_or_eq_true g1).elim (fun hgg=>by rw [if_pos hgg];have:=h1t hgg;omega) (fun hgg=>by rw [if_neg (by rw [hgg];decide)];have:=h1f hgg;omega))
 refine qO (b:=g) rfl (Bool.eq_false_iff.2 h7)<|zI rfl rfl<|qB<|qQ qD [(2,.val (.av (.string (st (s.drop n))))),(3,.call [] [(sv (st (s.drop n)))] [] (.tup [(iv ((qI (s.drop n)).1)),(bv ((qI (s.drop n)).2))]) [])] [.d,.k4,.n,.n,.d,.r] [ps 11 (iv ((qI (s.drop n)).1)),ps 12 (bv ((qI (s.drop n)).2))] (oc (by first|omega|(simp <;> omega):(0:Int)≤(n:Int)∧(n:Int)≤(s.length:Int)∧(s.length:Int)≤(s.length:Int)) (oc (ww _ _ _ rfl:(st s).extract (((n:Nat):Int):Int).toNat (((s.length:Nat):Int):Int).toNat=st (s.drop n)) (zO 35 (wq (s.drop n) (by rw [List.length_drop];omega)) oz)))<|qB<|qB<|qH qD [.k5,.d,.n,.r] [ps 97 (bv (!((qI (s.drop n)).2)))] ?_
 by_cases h44:((qI (s.drop n)).2)=true
 ·refine qR (congrArg Bool.not h44)<|qF<|qB ?_
  have hnb:=VH (s.drop n)
  refine qH qD [.k4,.d,.d,.k2,.d,.n] [pb 2 52 [(iv (Lib.indexByte letB (s.getD 0 0))),(iv a),(iv ((qI (s.drop n)).1))]]<|qB<|qB<|yC qD 1 [.k4,.n,.r] [ps 105 (bv (!(Pi.rightB (Lib.indexByte letB (s.getD 0 0)) a ((qI (s.drop n)).1))))] (zO 131 (qaa (Lib.indexByte letB (s.getD 0 0)) a ((qI (s.drop n)).1) (by unfold Pi.I64;omega)) oz) ?_
  by_cases h45:(Pi.rightB (Lib.indexByte letB (s.getD 0 0)) a ((qI (s.drop n)).1))=true
  ·refine qR (congrArg Bool.not h45)<|qF<|qB<|qH qD [.k2,.d,.d,.d,.d,.n,.k1,.d] [pb 0 52 [(iv (Lib.indexByte letB (s.getD 0 0))),(iv a),(iv ((qI (s.drop n)).1))]] ?_
   rw [WT (s:=s) hL0 hL1 (zz h4 hS (hf (by simpa using h7))) h44 h45]
   exact qk hc0 [2,3] [0,1]
  refine qS (congrArg Bool.not (Bool.eq_false_iff.2 h45))<|qB<|qH qD [.k2,.d,.d,.d,.k1,.d,.n,.d] [pb 1 33 [(iv 3),(nv n)]] ?_
  rw [WU (s:=s) hL0 hL1 (zz h4 hS (hf (by simpa using h7))) h44 h45]
  exact qk hc0 [2,3] [0,1]
 refine qS (congrArg Bool.not (Bool.eq_false_iff.2 h44))<|qB<|qH qD [.k2,.d,.d,.d,.d,.k1,.d,.n,.d] [pb 1 33 [(iv 2),(nv n)]] ?_
 rw [WV (s:=s) hL0 hL1 (zz h4 hS (hf (by simpa using h7))) h44]
 exact qk hc0 [2,3] [0,1]
theorem qcs (s:List UInt8) (hs:s.length≤140737488351232):PC Tryz.prog 112 [(sv (st s))] [] ((.tup [(.agg [(iv ((qW s).1.1)),(iv ((qW s).1.2.1)),(iv ((qW s).1.2.2))]),(.agg [(iv ((qW s).2.1)),(iv ((qW s).2.2))])])) []:=qbh [none,none] rfl (fun i=>by rcases i with _|_|i <;> rfl) (qhk s hs)
theorem bad_pc0 (e n:Int):PC Tryz.prog 179 [(iv e),(iv n)] [] (.tup [(.agg [(iv 0),(iv 0),(iv 0)]),(.agg [(iv e),(iv n)])]) [none,none]:=by
 refine zG Tryz.func179 rfl (by kernel_rfl) (Nat.le_of_ble_eq_true rfl) (by kernel_rfl) (l0:=[ps 0 (iv e),ps 1 (iv n)]) rfl (fun c0 Bor hc0=>?_)
 refine qB<|qH qD [.k2,.n,.n,.n,.n] [ps 4 (.opt 0 0),ps 5 (.opt 8 0),pb 0 52 [(iv 0),(iv 0),(iv 0)],pb 8 33 [(iv 0),(iv 0)]]<|qB<|qH qD [.d,.d,.k3,.d,.n] [pb 8 33 [(iv e),(iv n)]] ?_
 exact qk hc0 [4,5] [0,8]
theorem WF (e n:Int):PC Tryz.prog 179 [(iv e),(iv n)] [] ((.tup [(.agg [(iv 0),(iv 0),(iv 0)]),(.agg [(iv e),(iv n)])])) []:=qbh [none,none] rfl (fun i=>by rcases i with _|_|i <;> rfl) (bad_pc0 e n)
theorem read_pc0 (s:List UInt8) (hs:s.length≤9223372036854775807):PC Tryz.prog 165 [(sv (st s))] [] (.tup [(.agg [(iv ((qW s).1.1)),(iv ((qW s).1.2.1)),(iv ((qW s).1.2.2))]),(.agg [(iv ((qW s).2.1)),(iv ((qW s).2.2))])]) [none,none]:=by
 refine zG Tryz.func165 rfl (by kernel_rfl) (Nat.le_of_ble_eq_true rfl) (by kernel_rfl) (l0:=[ps 0 (sv (st s))]) rfl (fun c0 Bor hc0=>?_)
 refine qB<|zD qD [] [ps 0 (sv (st s)),ps 2 (.opt 0 0),ps 3 (.opt 8 0),pb 0 52 [(iv 0),(iv 0),(iv 0)],pb 8 33 [(iv 0),(iv 0)]] (oz)<|qB<|qH qD [.k3,.n,.r] [ps 4 (fv 179)]<|qB<|qB ?_
 by_cases h1:s=([]:TX)
 ·refine qQ qD ([(1,.val (.av (.bool (decide (s=([]:TX))))))]++gy 3 4++[(7,.yes true)]) [.k4,.n,.r] [ps 21 (bv true)] (oc (qv _ _:((st s).toList == (st ([]:TX)).toList)=decide (s=([]:TX))) (on 5 (qT h1) oz))<|qL (b:=true) rfl rfl<|qB<|yC qD 1 [.d,.k2,.d,.d,.k1,.d,.n] [pb 8 33 [(iv 2),(iv 0)]] (zO 96 (WF (2:Int) (0:Int)) oz) ?_
  rw [qcc (s:=s) (.inl h1)]
  exact qk hc0 [2,3] [0,8]
 refine qQ qD [(1,.val (.av (.bool (decide (s=([]:TX)))))),(3,.gd false .no),(4,.gd false (.val (.av (.string (st [s.getD 0 0]))))),(5,.gd false (.call [] [(sv (st letB)),(sv (st [s.getD 0 0]))] [] (bv (decide (0≤Lib.indexByte letB (s.getD 0 0)))) [])),(6,.gd false .no),(7,.yes false)] [.k4,.n,.r] [ps 21 (bv (!(decide (0≤Lib.indexByte letB (s.getD 0 0)))))] (oc (qv _ _:((st s).toList == (st ([]:TX)).toList)=decide (s=([]:TX))) (on 2 (qV h1) (oc (by have:=qhy h1;omega:(0:Int)≤(0:Int)∧(0:Int)≤(1:Int)∧(1:Int)≤(s.length:Int)) (oc (qgs h1:(st s).extract ((0:Int):Int).toNat ((1:Int):Int).toNat=st [s.getD 0 0]) (oc (qV h1) (zO 64 (qkx letB (s.getD 0 0)) (on 2 (qV h1) oz))))))) ?_
 by_cases h2:0≤Lib.indexByte letB (s.getD 0 0)
 ·refine qR (bt h2)<|qF<|qB ?_
  have hp1:=qhy h1
  have hbd:∀ r,-2≤(zZ r).1∧(zZ r).1≤2:=signB_bd
  refine qQ qD [(1,.val (.av (.string (st [s.getD 0 0])))),(2,.call [] [(sv (st letB)),(sv (st [s.getD 0 0]))] [] (iv (Lib.indexByte letB (s.getD 0 0))) [])] [.k4,.n,.d,.k2,.n] [ps 5 (.opt 120 0),pb 120 52 [(iv (Lib.indexByte letB (s.getD 0 0))),(iv 0),(iv 0)]] (oc (by first|omega|(simp <;> omega):(0:Int)≤(0:Int)∧(0:Int)≤(1:Int)∧(1:Int)≤(s.length:Int)) (oc (qgs h1:(st s).extract ((0:Int):Int).toNat ((1:Int):Int).toNat=st [s.getD 0 0]) (zO 104 (index_pc letB (s.getD 0 0)) oz)))<|qB<|qH qD [.k5,.n,.r] [ps 6 (iv 1)]<|qB<|qB<|qQ qD [(2,.val (.av (.string (st (s.drop 1))))),(3,.call [] [(sv (st (s.drop 1))),(sv (st ([226,153,174]:TX)))] [] (bv (Lib.hasPrefix (s.drop 1) ([226,153,174]:TX))) [])] [.k6,.n,.r] [ps 33 (bv (Lib.hasPrefix (s.drop 1) ([226,153,174]:TX)))] (oc (by first|omega|(simp <;> omega):(0:Int)≤(1:Int)∧(1:Int)≤(s.length:Int)∧(s.length:Int)≤(s.length:Int)) (oc (ww _ _ _ rfl:(st s).extract ((1:Int):Int).toNat (((s.length:Nat):Int):Int).toNat=st (s.drop 1)) (zO 168 (qbn (s.drop 1) ([226,153,174]:TX)) oz))) ?_
  by_cases h3:(Lib.hasPrefix (s.drop 1) ([226,153,174]:TX))=true
  ·refine qL (b:=(Lib.hasPrefix (s.drop 1) ([226,153,174]:TX))) rfl h3 ?_
   have hp3:=qjm h3
   rw [List.length_drop] at hp3
   refine qQ qD [] [.k5,.d,.n,.d,.r] [ps 6 (iv 4)] (oc (by simp [InK]:InK .i64 4) oz)<|qB<|qQ qD [(2,.val (.av (.string (st (s.drop 4))))),(3,.call [] [(sv (st (s.drop 4)))] [] (.tup [(iv ((qI (s.drop 4)).1)),(bv ((qI (s.drop 4)).2))]) [])] [.d,.k5,.n,.n,.r] [ps 12 (iv ((qI (s.drop 4)).1)),ps 13 (bv ((qI (s.drop 4)).2))] (oc (by first|omega|(simp <;> omega):(0:Int)≤(4:Int)∧(4:Int)≤(s.length:Int)∧(s.length:Int)≤(s.length:Int)) (oc (ww _ _ _ rfl:(st s).extract ((4:Int):Int).toNat (((s.length:Nat):Int):Int).toNat=st (s.drop 4)) (zO 224 (qcl (s.drop 4) (by rw [List.length_drop];omega)) oz)))<|qB<|qB<|qH qD [.k6,.d,.n,.r] [ps 87 (bv (!((qI (s.drop 4)).2)))] ?_
   by_cases h4:((qI (s.drop 4)).2)=true
   ·refine qR (congrArg Bool.not h4)<|qF<|qB<|qB ?_
    have hnb:=VH (s.drop 4)
    refine qH qD [.k5,.d,.d,.k2,.d,.n] [pb 120 52 [(iv (Lib.indexByte letB (s.getD 0 0))),(iv 0),(iv ((qI (s.drop 4)).1))]]<|qB<|yC qD 1 [.k5,.n,.r] [ps 97 (bv (!(Pi.rightB (Lib.indexByte letB (s.getD 0 0)) 0 ((qI (s.drop 4)).1))))] (zO 320 (qge (Lib.indexByte letB (s.getD 0 0)) 0 ((qI (s.drop 4)).1)) oz) ?_
    by_cases h5:(Pi.rightB (Lib.indexByte letB (s.getD 0 0)) 0 ((qI (s.drop 4)).1))=true
    ·refine qR (congrArg Bool.not h5)<|qF<|qB<|qH qD [.k2,.d,.d,.d,.d,.d,.n,.k1,.d] [pb 0 52 [(iv (Lib.indexByte letB (s.getD 0 0))),(iv 0),(iv ((qI (s.drop 4)).1))]] ?_
     rw [WT (s:=s) h1 h2 (QO h3) h4 h5]
     exact qk hc0 [2,3] [0,8]
    refine qS (congrArg Bool.not (Bool.eq_false_iff.2 h5))<|qB<|yC qD 2 [.k2,.d,.d,.d,.d,.k1,.d,.n,.d] [pb 8 33 [(iv 3),(iv 4)]] (zO 352 (WF (3:Int) (4:Int)) oz) ?_
    rw [WU (s:=s) h1 h2 (QO h3) h4 h5]
    exact qk hc0 [2,3] [0,8]
   refine qS (congrArg Bool.not (Bool.eq_false_iff.2 h4))<|qB<|yC qD 2 [.k2,.d,.d,.d,.d,.d,.k1,.d,.n,.d] [pb 8 33 [(iv 2),(iv 4)]] (zO 304 (WF (2:Int) (4:Int)) oz) ?_
   rw [WV (s:=s) h1 h2 (QO h3) h4]
   exact qk hc0 [2,3] [0,8]
  refine qO (b:=(Lib.hasPrefix (s.drop 1) ([226,153,174]:TX))) rfl (Bool.eq_false_iff.2 h3)<|qB<|qH qD [.k6,.n,.d,.r] [ps 7 (iv 0)]<|qX<|zy (α:={x:Nat × Nat × Int // x.1<x.2.1∧x.2.1≤s.length ∧ -3≤x.2.2∧x.2.2≤3∧vK (s.drop x.2.1) x.2.2 x.2.1=vK (s.drop 1) 0 1}) (fun x=>[ps 0 (sv (st s)),ps 2 (.opt 0 0),ps 3 (.opt 1 0),ps 4 (fv 179),ps 5 (.opt 2 0),ps 6 (nv x.1.2.1),ps 7 (nv x.1.1),pb 0 52 [(iv 0),(iv 0),(iv 0)],pb 1 33 [(iv 0),(iv 0)],pb 2 52 [(iv (Lib.indexByte letB (s.getD 0 0))),(iv x.1.2.2),(iv 0)]]) (fun x=>s.length-x.1.2.1) 3 ⟨(0,1,0),⟨by decide,by show 1≤s.length;omega,by decide,by decide,rfl⟩⟩ (Wk.ren2 _ 0 hc0 [0,8,120] rfl rfl (by kernel_rfl) (by kernel_rfl)) ?_
  rintro ⟨⟨k,n,a⟩,⟨hk,hn,ha1,ha2,hS⟩⟩
  dsimp only at hk hn ha1 ha2 hS
  refine qB<|qX<|qB ?_
  have hdl:=QU (s.drop n)
  rw [List.length_drop] at hdl
  have hby:=hbd (zU (s.drop n):Int)
  have hml:=mul_small (x:=a+(zZ (zU (s.drop n):Int)).1) (y:=(zZ (zU (s.drop n):Int)).1) (by omega) (by omega) hby.1 hby.2
  refine zD qD [(2,.val (.av (.string (st (s.drop n))))),(3,.call [] [(sv (st (s.drop n)))] [] (.tup [(.av (.int .i32 (zU (s.drop n):Int))),(nv (zj (s.drop n)))]) [])] [ps 0 (sv (st s)),ps 2 (.opt 0 0),ps 3 (.opt 1 0),ps 4 (fv 179),ps 5 (.opt 2 0),ps 6 (nv n),ps 7 (nv k),ps 8 (.av (.int .i32 (zU (s.drop n):Int))),ps 9 (nv (zj (s.drop n))),pb 0 52 [(iv 0),(iv 0),(iv 0)],pb 1 33 [(iv 0),(iv 0)],pb 2 52 [(iv (Lib.indexByte letB (s.getD 0 0))),(iv a),(iv 0)]] (oc (by first|omega|(simp <;> omega):(0:Int)≤(n:Int)∧(n:Int)≤(s.length:Int)∧(s.length:Int)≤(s.length:Int)) (oc (ww _ _ _ rfl:(st s).extract (((n:Nat):Int):Int).toNat (((s.length:Nat):Int):Int).toNat=st (s.drop n)) (zO 27 (qgt (s.drop n)) oz)))<|qB<|yC qD 1 [.k7,.d,.k1,.n,.n,.r] [ps 10 (iv ((zZ (zU (s.drop n):Int)).1)),ps 11 (bv ((zZ (zU (s.drop n):Int)).2))] (zO 83 (sign_pc (zU (s.drop n):Int)) oz)<|qB<|qB<|qH qD [.k8,.k1,.d,.n,.r] [ps 51 (bv (!((zZ (zU (s.drop n):Int)).2)))] ?_
  by_cases h6:((zZ (zU (s.drop n):Int)).2)=true
  ·refine qR (congrArg Bool.not h6)<|qF<|qB<|qB<|qQ qD [] [.k8,.k1,.d,.k2,.d,.n] [pb 2 52 [(iv (Lib.indexByte letB (s.getD 0 0))),(iv (a+((zZ (zU (s.drop n):Int)).1))),(iv 0)]] (oi (a+((zZ (zU (s.drop n):Int)).1)) (by omega) oz)<|qB ?_
   by_cases h7:((a+((zZ (zU (s.drop n):Int)).1))*((zZ (zU (s.drop n):Int)).1))<0
   ·refine qQ qD (gy 6 7++[(13,.yes true)]) [.k8,.d,.n,.r] [ps 70 (bv true)] (oi ((a+((zZ (zU (s.drop n):Int)).1))*((zZ (zU (s.drop n):Int)).1)) (by omega) (on 8 (qT h7) oz))<|qL (b:=true) rfl rfl<|qB<|yC qD 2 [.d,.k2,.d,.d,.d,.d,.d,.d,.k1,.d,.n,.d] [pb 1 33 [(iv 3),(iv (n:Int))]] (zO 323 (WF (3:Int) (n:Int)) oz) ?_
    rw [vM (s:=s) h1 h2 (zz h3 hS (qai h6 (.inl h7)))]
    exact yk fun cx_ a_ hI_=>zB (rt hc0 [ps 2 (.opt 0 0),ps 3 (.opt 1 0),pb 0 52 [(iv 0),(iv 0),(iv 0)],pb 1 33 [(iv 3),(iv (n:Int))]] [0,1] hI_)
   refine qQ qD (gn 6 7++[(13,.yes false)]) [.k8,.d,.n,.r] [ps 70 (bv (decide (3<(max (a+((zZ (zU (s.drop n):Int)).1)) (0-(a+((zZ (zU (s.drop n):Int)).1)))))))] (oi ((a+((zZ (zU (s.drop n):Int)).1))*((zZ (zU (s.drop n):Int)).1)) (by omega) (on 5 (qV h7) (oi (0-(a+((zZ (zU (s.drop n):Int)).1))) (by omega) (on 3 (qV h7) oz)))) ?_
   by_cases h8:3<(max (a+((zZ (zU (s.drop n):Int)).1)) (0-(a+((zZ (zU (s.drop n):Int)).1))))
   ·refine qS (qT h8)<|qB<|yC qD 2 [.d,.k2,.d,.d,.d,.d,.d,.d,.k1,.d,.n,.d] [pb 1 33 [(iv 3),(iv (n:Int))]] (zO 323 (WF (3:Int) (n:Int)) oz) ?_
    rw [vM (s:=s) h1 h2 (zz h3 hS (qai h6 (.inr h8)))]
    exact yk fun cx_ a_ hI_=>zB (rt hc0 [ps 2 (.opt 0 0),ps 3 (.opt 1 0),pb 0 52 [(iv 0),(iv 0),(iv 0)],pb 1 33 [(iv 3),(iv (n:Int))]] [0,1] hI_)
   refine qR (qV h8)<|qF<|qQ qD [] [.k5,.d,.n,.k1,.d,.d,.r] [ps 6 (iv (((n:Nat):Int)+(zj (s.drop n):Int)))] (oi (((n:Nat):Int)+(zj (s.drop n):Int)) (by omega) oz)<|qZ<|qQ qD [] [.k6,.d,.n,.r] [ps 7 (iv (((k:Nat):Int)+1))] (oi (((k:Nat):Int)+1) (by omega) oz) ?_
   have hon:=qga (l:=s.drop n) (a:=a) (n:=n) h6 (by rintro (h|h);exact h7 h;exact h8 h)
   rw [List.drop_drop] at hon
   have hd1:=(WP h6).2
   exact qq ⟨(k+1,n+zj (s.drop n),a+(zZ (zU (s.drop n):Int)).1),⟨by show k+1<n+zj (s.drop n);omega,by show n+zj (s.drop n)≤s.length;omega,by show -3≤a+(zZ (zU (s.drop n):Int)).1;omega,by show a+(zZ (zU (s.drop n):Int)).1≤3;omega,hon.symm.trans hS⟩⟩ (Wk.ren2 _ 0 hc0 [0,1,2] rfl rfl (by kernel_rfl) (by kernel_rfl)) (show s.length-(n+zj (s.drop n))<s.length-n from by show s.length-(n+zj (s.drop n))<s.length-n;omega)
  refine qS (congrArg Bool.not (Bool.eq_false_iff.2 h6))<|zI rfl rfl<|qB<|qQ qD [(2,.val (.av (.string (st (s.drop n))))),(3,.call [] [(sv (st (s.drop n)))] [] (.tup [(iv ((qI (s.drop n)).1)),(bv ((qI (s.drop n)).2))]) [])] [.d,.k5,.d,.d,.d,.n,.n,.d,.r] [ps 12 (iv ((qI (s.drop n)).1)),ps 13 (bv ((qI (s.drop n)).2))] (oc (by first|omega|(simp <;> omega):(0:Int)≤(n:Int)∧(n:Int)≤(s.length:Int)∧(s.length:Int)≤(s.length:Int)) (oc (ww _ _ _ rfl:(st s).extract (((n:Nat):Int):Int).toNat (((s.length:Nat):Int):Int).toNat=st (s.drop n)) (zO 171 (qcl (s.drop n) (by rw [List.length_drop];omega)) oz)))<|qB<|qB<|qH qD [.k6,.d,.n,.r] [ps 87 (bv (!((qI (s.drop n)).2)))] ?_
  by_cases h9:((qI (s.drop n)).2)=true
  ·refine qR (congrArg Bool.not h9)<|qF<|qB<|qB ?_
   have hnb:=VH (s.drop n)
   refine qH qD [.k5,.d,.d,.k2,.d,.n] [pb 2 52 [(iv (Lib.indexByte letB (s.getD 0 0))),(iv a),(iv ((qI (s.drop n)).1))]]<|qB<|yC qD 1 [.k5,.n,.r] [ps 97 (bv (!(Pi.rightB (Lib.indexByte letB (s.getD 0 0)) a ((qI (s.drop n)).1))))] (zO 267 (qge (Lib.indexByte letB (s.getD 0 0)) a ((qI (s.drop n)).1)) oz) ?_
   by_cases h10:(Pi.rightB (Lib.indexByte letB (s.getD 0 0)) a ((qI (s.drop n)).1))=true
   ·refine qR (congrArg Bool.not h10)<|qF<|qB<|qH qD [.k2,.d,.d,.d,.d,.d,.n,.k1,.d] [pb 0 52 [(iv (Lib.indexByte letB (s.getD 0 0))),(iv a),(iv ((qI (s.drop n)).1))]] ?_
    rw [WT (s:=s) h1 h2 (zz h3 hS (VC h6)) h9 h10]
    exact qk hc0 [2,3] [0,1]
   refine qS (congrArg Bool.not (Bool.eq_false_iff.2 h10))<|qB<|yC qD 2 [.k2,.d,.d,.d,.d,.k1,.d,.n,.d] [pb 1 33 [(iv 3),(iv (n:Int))]] (zO 299 (WF (3:Int) (n:Int)) oz) ?_
   rw [WU (s:=s) h1 h2 (zz h3 hS (VC h6)) h9 h10]
   exact qk hc0 [2,3] [0,1]
  refine qS (congrArg Bool.not (Bool.eq_false_iff.2 h9))<|qB<|yC qD 2 [.k2,.d,.d,.d,.d,.d,.k1,.d,.n,.d] [pb 1 33 [(iv 2),(iv (n:Int))]] (zO 251 (WF (2:Int) (n:Int)) oz) ?_
  rw [WV (s:=s) h1 h2 (zz h3 hS (VC h6)) h9]
  exact qk hc0 [2,3] [0,1]
 refine qS (bf h2)<|qB<|yC qD 1 [.d,.k2,.d,.d,.k1,.d,.n] [pb 8 33 [(iv 2),(iv 0)]] (zO 96 (WF (2:Int) (0:Int)) oz) ?_
 rw [qcc (s:=s) (.inr h2)]
 exact qk hc0 [2,3] [0,8]
theorem read_pc (s:List UInt8) (hs:s.length≤9223372036854775807):PC Tryz.prog 165 [(sv (st s))] [] ((.tup [(.agg [(iv ((qW s).1.1)),(iv ((qW s).1.2.1)),(iv ((qW s).1.2.2))]),(.agg [(iv ((qW s).2.1)),(iv ((qW s).2.2))])])) []:=qbh [none,none] rfl (fun i=>by rcases i with _|_|i <;> rfl) (read_pc0 s hs)
end Go.Proofs.YtmlnilkbolcknaaGreatDoor.Pm
