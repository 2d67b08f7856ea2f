/-
  SCORE: a bar told: walk. (Printed by wip/pm.) | SCORE: what is wrong: walk. (Printed by wip/pm.) | SCORE: what sounds in a piece: walk. (Printed by wip/pm.) | The document: what sounds in a piece: walk. (Printed by wip/pm.) | The document: a piece written: walk. (Printed by wip/pm.) | THE VALUE MACHINE (Bu): what writes into a place of its own that holds its own address,or none yet;a row of bytes that becomes a text,and is written no more. No program in sight. | strings.Builder within a struct of the program's own: copyCheck,String (the kit's worked walks,turned). | strings.Builder within a struct of the program's own: WriteByte,WriteString,Len: walk. (Printed by wip/pm.) | A piece written: pitches: walk. (Printed by wip/pm.)
-/
import Derived.Test.YtmlnilkbolcknaaGreatDoorJLawSNotes4
import Derived.Test.YtmlnilkbolcknaaGreatDoorJLawSNotes3
import Derived.Test.YtmlnilkbolcknaaGreatDoorJLawSNotes2
import Derived.Test.YtmlnilkbolcknaaGreatDoorJLawSNotes1
import Derived.Lib.Strings
import Derived.Lib.Slices
import Derived.Lib.Walk
import Derived.Lib.Builder
import Derived.Lib.AppendStr
import Derived.Lib.UnsafeStr
import Derived.Laws.Externs
set_option linter.unusedVariables false
set_option linter.unusedSimpArgs false
set_option linter.deprecated false
set_option maxRecDepth 100000
set_option maxHeartbeats 4000000
namespace Go.Proofs.YtmlnilkbolcknaaGreatDoor.Pm
open Go Fr
abbrev yw (y:Br):=Fr.make y.1 y.2.1
abbrev jP (y:Br):=wx (yW (zZ y.2.2)) (yw y).1 (yw y).2.1
abbrev vY (v a b:Int) (y:Br) (N:List Nt) (z:Nat):=zE v a b (jP y) y.2.2 [] (N,z,0)
abbrev aH4 (a b:Int) (y:Br):=Fr.plus a b (yw y).1 (yw y).2.1
theorem qgj (y:Br) (v a b:Int) (T:List Sp) (N:List Nt) (z q r:Nat) (hy:qaw y) (hw:(wF y.2.2 1 4095).1=true) (hne:y.2.2.length≠0) (hok:ZR (N,z,0)) (hN:N.length≤90000000000) (hab:I64 a∧I64 b):PC Tryz.prog 35 [(.opt 0 0),(.agg [(iv y.1),(iv y.2.1),(.ssl (qO (y.2.2)) 0 ((y.2.2).length))])] [some (91,[(iv v),(.osl 1 0 N.length),(nv z),(iv a),(iv b),(.ssl (qG T) (q*5) r)]),some (58,(qj N))] (iv ((vW v y ((a,b),N,z)).1)) [none,none,none]:=by
 obtain ⟨ha,hb⟩:=hab
 have hab:I64 a∧I64 b:=⟨ha,hb⟩
 have hy1:I64 y.1:=hy.1
 have hy2:I64 y.2.1:=hy.2.1
 refine zI Tryz.func35 rfl (by kernel_rfl) (Nat.le_of_ble_eq_true rfl) (by kernel_rfl) (l0:=[ps 0 (.opt 0 0),ps 1 (.agg [(iv y.1),(iv y.2.1),(.ssl (qO (y.2.2)) 0 ((y.2.2).length))]),pb 0 91 [(iv v),(.osl 1 0 N.length),(nv z),(iv a),(iv b),(.ssl (qG T) (q*5) r)],pb 1 58 (qj N)]) rfl (fun c0 Bor hc0=>?_)
 refine qA<|qL qC [.k1,.d,.n,.k2,.n] [ps 3 (.opt 2 0),pb 2 47 [(iv y.1),(iv y.2.1),(.ssl (qO (y.2.2)) 0 ((y.2.2).length))]]<|qA<|vK qC 4 [.k2,.n,.n,.k3,.n] [ps 5 (.opt 82 0),ps 6 (iv ((yw y).2.2)),pb 82 56 [(iv ((yw y).1)),(iv ((yw y).2.1))]] (yD 50 (qjr y.1 y.2.1 (by first|assumption|omega) (by first|assumption|omega)) oz)<|qA<|qA<|qL qC [.k4,.n,.r] [ps 18 (bv (!(decide (((yw y).2.2)=0))))] ?_
 by_cases h1:((yw y).2.2)=0
 ·refine qU (bt h1)<|qF<|qA ?_
  have hmr:=qao h1
  have hmI:=jN hmr
  obtain ⟨hmI1,hmI2⟩:=hmI
  have hmI:=jN hmr
  have hfr:QP (zZ y.2.2):=by unfold zZ;rw [QP];exact ⟨⟨by decide,by decide⟩,by decide,by decide,hy.2.2.1,hy.2.2.2⟩
  refine vK qC 3 [.k3,.d,.n,.d,.k4,.n] [ps 7 (.opt 154 0),pb 154 125 [(iv (kd (yW (zZ y.2.2)))),(iv (sh (yW (zZ y.2.2)))),(.ssl (kc (yW (zZ y.2.2))) 0 ((qM (yW (zZ y.2.2))).length))]] (yD 146 (beat_pc (zZ y.2.2) hfr) oz)<|qA<|qA ?_
  by_cases h2:(yR (yW (zZ y.2.2)) (yw y).1 (yw y).2.1)=0
  ·refine vK qC 3 [.k3,.n,.d,.d,.n,.k3,.d] [ps 6 (iv 0),pb 0 91 [(iv v),(.osl 1 0 N.length),(nv z),(iv a),(iv b),(.ssl (qG (jP y)) 0 (((jP y)).length))]] (yD 194 (by have e:=qbc (yW (zZ y.2.2)) (yw y).1 (yw y).2.1 hmI.1 hmI.2;rw [qah h2] at e;exact e:PC Tryz.prog 67 [(.agg [(iv (kd (yW (zZ y.2.2)))),(iv (sh (yW (zZ y.2.2)))),(.ssl (kc (yW (zZ y.2.2))) 0 ((qM (yW (zZ y.2.2))).length))]),(.agg [(iv ((yw y).1)),(iv ((yw y).2.1))])] [] (.tup [(.ssl (qG (jP y)) 0 (((jP y)).length)),(iv 0)]) []) oz)<|qA<|qL qC [.k4,.n,.r] [ps 34 (bv false)]<|zk (b:=false) rfl rfl<|qF<|qA<|qA ?_
   have hig:=ZA y.2.2 1 4095 (by decide) hw
   have hir:=WQ y.2.2 1 4095 (by decide)
   have hsl:(jP y).length=wv y.2.2:=qck hne hig.1 h2
   have hi0:=hir.2.2 hw
   have hti:=qip (v:=v) (a:=a) (b:=b) (S:=(jP y)) (by omega) hab (all4_at (qag hmr h2)) _ y.2.2 (Nat.lt_succ_self _) [] N z 0 hy.2.2.2 hy.2.2.1 hig.2.1 hok (by omega) (by omega) (by have:=hig.2.2.1 hne;simp only [List.length_nil];omega) (fun i hi=>absurd hi (Nat.not_lt_zero i))
   refine qY (Wk.eq (show _=[ps 0 (.opt 0 0),ps 3 (.opt 2 0),ps 5 (.opt 82 0),ps 6 (iv 0),ps 34 (bv false),pb 0 91 [(iv v),(.osl 1 0 N.length),(nv z),(iv a),(iv b),(.ssl (qG (jP y)) (0*5) ((jP y).length-0))],pb 1 58 (qj N),pb 2 47 [(iv y.1),(iv y.2.1),(.ssl (qO (y.2.2)) 0 ((y.2.2).length))],pb 82 56 [(iv ((yw y).1)),(iv ((yw y).2.1))]] from by rfl)) ?_
   refine zY qC [(3,.call [0,1] [(.opt 0 0),(.ssl (qO (y.2.2)) 0 ((y.2.2).length)),(.ssl (zz ([]:List Iv)) 0 (([]:List Iv).length))] [some (91,[(iv v),(.osl 1 0 N.length),(nv z),(iv a),(iv b),(.ssl (qG (jP y)) (0*5) ((jP y).length-0))]),some (58,(qj N))] (iv ((vY v a b y N z).1)) [some (91,[(iv v),(.osl 2 0 (((vY v a b y N z)).2.1.length)),(nv ((vY v a b y N z).2.2.1)),(iv a),(iv b),(.ssl (qG (jP y)) (((vY v a b y N z).2.2.2)*5) ((jP y).length-(vY v a b y N z).2.2.2))]),none,some (58,(qj ((vY v a b y N z).2.1)))])] [.k1,.d,.k1,.d,.n,.d,.d,.n,.d,.d,.k1,.n] [ps 8 (iv ((vY v a b y N z).1)),pb 0 91 [(iv v),(.osl 298 0 (((vY v a b y N z)).2.1.length)),(nv ((vY v a b y N z).2.2.1)),(iv a),(iv b),(.ssl (qG (jP y)) (((vY v a b y N z).2.2.2)*5) ((jP y).length-(vY v a b y N z).2.2.2))],pb 298 58 (qN (yI [0,1] 298) (qj ((vY v a b y N z).2.1)))] (oc hti (oc (rfl:[(.opt 0 0),(.ssl (qO (y.2.2)) 0 ((y.2.2).length)),(.ssl [] 0 0)]=qN (qZ [0,1] 298) [(.opt 0 0),(.ssl (qO (y.2.2)) 0 ((y.2.2).length)),(.ssl (zz ([]:List Iv)) 0 (([]:List Iv).length))]) (oc (rfl:[(iv v),(.osl 1 0 N.length),(nv z),(iv a),(iv b),(.ssl (qG (jP y)) (0*5) ((jP y).length-0))]=qN (qZ [0,1] 298) [(iv v),(.osl 1 0 N.length),(nv z),(iv a),(iv b),(.ssl (qG (jP y)) (0*5) ((jP y).length-0))]) (oc ((qH (qv _)).symm:(qj N)=qN (qZ [0,1] 298) (qj N)) oz))))<|qY (Wk.eq (show _=[ps 0 (.opt 0 0),ps 5 (.opt 82 0),ps 8 (iv ((vY v a b y N z).1)),pb 0 91 [(iv v),(.osl 298 0 (((vY v a b y N z)).2.1.length)),(nv ((vY v a b y N z).2.2.1)),(iv a),(iv b),(.ssl (qG (jP y)) (((vY v a b y N z).2.2.2)*5) ((jP y).length-(vY v a b y N z).2.2.2))],pb 82 56 [(iv ((yw y).1)),(iv ((yw y).2.1))],pb 298 58 (qj ((vY v a b y N z).2.1))] from by simp only [qH (qv _)])) ?_
   refine qA<|qL qC [.k3,.n,.r] [ps 41 (bv (!(decide (((vY v a b y N z).1)=0))))] ?_
   by_cases h3:((vY v a b y N z).1)=0
   ·refine qU (bt h3)<|qF<|qA<|QK qC [(6,.call [] [(.agg [(iv a),(iv b)]),(.agg [(iv ((yw y).1)),(iv ((yw y).2.1))])] [] (.tup [(.agg [(iv ((Fr.plus a b ((yw y).1) ((yw y).2.1)).1)),(iv ((Fr.plus a b ((yw y).1) ((yw y).2.1)).2.1))]),(iv ((Fr.plus a b ((yw y).1) ((yw y).2.1)).2.2))]) [])] (bfm [[],[],[(1,1)],[(1,2)],[(1,3)],[],[(1,5)],[(1,6)],[(1,7)],[(1,7)],[(0,9)],[(0,9),(10,1)],[(0,9),(10,2)],[(0,13)]]) [([88],[0]),([90],[0]),([92],[90]),([94],[92]),([96],[1,94]),([98],[10,165]),([100],[96,98]),([86],[100]),([102],[86]),([104],[86]),([106],[88]),([108],[106]),([1],[1,102,108]),([12],[104])] [.d,.d,.n,.d,.d,.d,.n,.d,.r] [ps 6 (iv ((Fr.plus a b ((yw y).1) ((yw y).2.1)).2.2)),pb 0 91 [(iv v),(.osl 298 0 (((vY v a b y N z)).2.1.length)),(nv ((vY v a b y N z).2.2.1)),(iv ((Fr.plus a b ((yw y).1) ((yw y).2.1)).1)),(iv ((Fr.plus a b ((yw y).1) ((yw y).2.1)).2.1)),(.ssl (qG (jP y)) (((vY v a b y N z).2.2.2)*5) ((jP y).length-(vY v a b y N z).2.2.2))]] (yD 378 (WK a b ((yw y).1) ((yw y).2.1) (by first|assumption|omega) (by first|assumption|omega) (by first|assumption|omega) (by first|assumption|omega)) oz)<|qA<|qL qC [.n,.d,.r] [ps 4 (iv ((Fr.plus a b ((yw y).1) ((yw y).2.1)).2.2))] ?_
    have hR:(vW v y ((a,b),N,z)).1=((Fr.plus a b ((yw y).1) ((yw y).2.1)).2.2):=by unfold vW;dsimp only;rw [if_pos h1,if_pos h2,if_pos h3]
    rw [hR]
    exact zj fun cx_ a_ hI_=>zV (H':=[none,none,none]) (.inr rfl) (Wk.ren3 [ps 4 (iv ((Fr.plus a b ((yw y).1) ((yw y).2.1)).2.2)),pb 0 91 [(iv v),(.osl 2 0 (((vY v a b y N z)).2.1.length)),(nv ((vY v a b y N z).2.2.1)),(iv ((Fr.plus a b ((yw y).1) ((yw y).2.1)).1)),(iv ((Fr.plus a b ((yw y).1) ((yw y).2.1)).2.1)),(.ssl (qG (jP y)) (((vY v a b y N z).2.2.2)*5) ((jP y).length-(vY v a b y N z).2.2.2))],pb 2 58 (qj ((vY v a b y N z).2.1))] 2 hc0 [0,1,298] [(kb 2,(qj ((vY v a b y N z).2.1)))] (oc (qv _) (oz)) (by kernel_rfl) rfl rfl (by kernel_rfl) (by kernel_rfl)) rfl (oz) (fun cx_ a_ hI_=>zL (l':=[ps 4 (iv ((Fr.plus a b ((yw y).1) ((yw y).2.1)).2.2)),pb 0 91 [(iv v),(.osl 2 0 (((vY v a b y N z)).2.1.length)),(nv ((vY v a b y N z).2.2.1)),(iv ((Fr.plus a b ((yw y).1) ((yw y).2.1)).1)),(iv ((Fr.plus a b ((yw y).1) ((yw y).2.1)).2.1)),(.ssl (qG (jP y)) (((vY v a b y N z).2.2.2)*5) ((jP y).length-(vY v a b y N z).2.2.2))],pb 2 58 (qj ((vY v a b y N z).2.1))]) (by kernel_rfl) cx_ a_ hI_) hI_
   refine qR (bf h3)<|qA<|qL qC [.d,.n,.d,.d,.d,.k1,.d,.r] [ps 4 (iv ((vY v a b y N z).1))] ?_
   have hR:(vW v y ((a,b),N,z)).1=((vY v a b y N z).1):=by unfold vW;dsimp only;rw [if_pos h1,if_pos h2,if_neg h3]
   rw [hR]
   exact zj fun cx_ a_ hI_=>zV (H':=[none,none,none]) (.inr rfl) (Wk.ren3 [ps 4 (iv ((vY v a b y N z).1)),pb 0 91 [(iv v),(.osl 2 0 (((vY v a b y N z)).2.1.length)),(nv ((vY v a b y N z).2.2.1)),(iv a),(iv b),(.ssl (qG (jP y)) (((vY v a b y N z).2.2.2)*5) ((jP y).length-(vY v a b y N z).2.2.2))],pb 2 58 (qj ((vY v a b y N z).2.1))] 2 hc0 [0,1,298] [(kb 2,(qj ((vY v a b y N z).2.1)))] (oc (qv _) (oz)) (by kernel_rfl) rfl rfl (by kernel_rfl) (by kernel_rfl)) rfl (oz) (fun cx_ a_ hI_=>zL (l':=[ps 4 (iv ((vY v a b y N z).1)),pb 0 91 [(iv v),(.osl 2 0 (((vY v a b y N z)).2.1.length)),(nv ((vY v a b y N z).2.2.1)),(iv a),(iv b),(.ssl (qG (jP y)) (((vY v a b y N z).2.2.2)*5) ((jP y).length-(vY v a b y N z).2.2.2))],pb 2 58 (qj ((vY v a b y N z).2.1))]) (by kernel_rfl) cx_ a_ hI_) hI_
  refine vK qC 3 [.k3,.n,.d,.d,.n,.k3,.d] [ps 6 (iv (yR (yW (zZ y.2.2)) (yw y).1 (yw y).2.1)),pb 0 91 [(iv v),(.osl 1 0 N.length),(nv z),(iv a),(iv b),(.ssl [] 0 0)]] (yD 194 (by have e:=qbc (yW (zZ y.2.2)) (yw y).1 (yw y).2.1 hmI.1 hmI.2;rw [Qj rfl h2] at e;exact e:PC Tryz.prog 67 [(.agg [(iv (kd (yW (zZ y.2.2)))),(iv (sh (yW (zZ y.2.2)))),(.ssl (kc (yW (zZ y.2.2))) 0 ((qM (yW (zZ y.2.2))).length))]),(.agg [(iv ((yw y).1)),(iv ((yw y).2.1))])] [] (.tup [(.ssl [] 0 0),(iv (yR (yW (zZ y.2.2)) (yw y).1 (yw y).2.1))]) []) oz)<|qA<|qL qC [.k4,.n,.r] [ps 34 (bv (!(decide ((yR (yW (zZ y.2.2)) (yw y).1 (yw y).2.1)=0))))]<|qR (bf h2)<|qA<|qL qC [.d,.d,.n,.d,.d,.d,.k2,.d,.d] [ps 4 (iv (yR (yW (zZ y.2.2)) (yw y).1 (yw y).2.1))] ?_
  have hR:(vW v y ((a,b),N,z)).1=(yR (yW (zZ y.2.2)) (yw y).1 (yw y).2.1):=by unfold vW;dsimp only;rw [if_pos h1,if_neg h2]
  rw [hR]
  exact zj fun cx_ a_ hI_=>zV (H':=[none,none,none]) (.inr rfl) (Wk.ren3D [ps 4 (iv (yR (yW (zZ y.2.2)) (yw y).1 (yw y).2.1)),pb 0 91 [(iv v),(.osl 2 0 N.length),(nv z),(iv a),(iv b),(.ssl [] 0 0)],pb 2 58 (qj N)] 2 hc0 [0,1,1] [(kb 2,(qj N))] (oc (qv _) (oz)) (by kernel_rfl) rfl (by kernel_rfl) (by kernel_rfl) (by kernel_rfl)) rfl (oz) (fun cx_ a_ hI_=>zL (l':=[ps 4 (iv (yR (yW (zZ y.2.2)) (yw y).1 (yw y).2.1)),pb 0 91 [(iv v),(.osl 2 0 N.length),(nv z),(iv a),(iv b),(.ssl [] 0 0)],pb 2 58 (qj N)]) (by kernel_rfl) cx_ a_ hI_) hI_
 refine qR (bf h1)<|qA<|qL qC [.d,.d,.n,.d,.d,.d,.k2,.d,.d] [ps 4 (iv ((yw y).2.2))] ?_
 have hR:(vW v y ((a,b),N,z)).1=((yw y).2.2):=by unfold vW;dsimp only;rw [if_neg h1]
 rw [hR]
 exact zj fun cx_ a_ hI_=>zV (H':=[none,none,none]) (.inr rfl) (Wk.ren3D [ps 4 (iv ((yw y).2.2)),pb 0 91 [(iv v),(.osl 2 0 N.length),(nv z),(iv a),(iv b),(.ssl (qG T) (q*5) r)],pb 2 58 (qj N)] 2 hc0 [0,1,1] [(kb 2,(qj N))] (oc (qv _) (oz)) (by kernel_rfl) rfl (by kernel_rfl) (by kernel_rfl) (by kernel_rfl)) rfl (oz) (fun cx_ a_ hI_=>zL (l':=[ps 4 (iv ((yw y).2.2)),pb 0 91 [(iv v),(.osl 2 0 N.length),(nv z),(iv a),(iv b),(.ssl (qG T) (q*5) r)],pb 2 58 (qj N)]) (by kernel_rfl) cx_ a_ hI_) hI_
theorem qig (y:Br) (v a b:Int) (T:List Sp) (N:List Nt) (z q r:Nat) (hy:qaw y) (hw:(wF y.2.2 1 4095).1=true) (hne:y.2.2.length≠0) (hok:ZR (N,z,0)) (hN:N.length≤90000000000) (hab:I64 a∧I64 b) (h0:(vW v y ((a,b),N,z)).1=0):PC Tryz.prog 35 [(.opt 0 0),(.agg [(iv y.1),(iv y.2.1),(.ssl (qO (y.2.2)) 0 ((y.2.2).length))])] [some (91,[(iv v),(.osl 1 0 N.length),(nv z),(iv a),(iv b),(.ssl (qG T) (q*5) r)]),some (58,(qj N))] (iv ((vW v y ((a,b),N,z)).1)) [some (91,[(iv v),(.osl 2 0 (((vW v y ((a,b),N,z)).2.2.1).length)),(nv ((vW v y ((a,b),N,z)).2.2.2)),(iv ((vW v y ((a,b),N,z)).2.1.1)),(iv ((vW v y ((a,b),N,z)).2.1.2)),(.ssl (qG (jP y)) (((vY v a b y N z).2.2.2)*5) ((jP y).length-(vY v a b y N z).2.2.2))]),none,some (58,(qj ((vW v y ((a,b),N,z)).2.2.1)))]:=by
 obtain ⟨ha,hb⟩:=hab
 have hab:I64 a∧I64 b:=⟨ha,hb⟩
 have hy1:I64 y.1:=hy.1
 have hy2:I64 y.2.1:=hy.2.1
 refine zI Tryz.func35 rfl (by kernel_rfl) (Nat.le_of_ble_eq_true rfl) (by kernel_rfl) (l0:=[ps 0 (.opt 0 0),ps 1 (.agg [(iv y.1),(iv y.2.1),(.ssl (qO (y.2.2)) 0 ((y.2.2).length))]),pb 0 91 [(iv v),(.osl 1 0 N.length),(nv z),(iv a),(iv b),(.ssl (qG T) (q*5) r)],pb 1 58 (qj N)]) rfl (fun c0 Bor hc0=>?_)
 refine qA<|qL qC [.k1,.d,.n,.k2,.n] [ps 3 (.opt 2 0),pb 2 47 [(iv y.1),(iv y.2.1),(.ssl (qO (y.2.2)) 0 ((y.2.2).length))]]<|qA<|vK qC 4 [.k2,.n,.n,.k3,.n] [ps 5 (.opt 82 0),ps 6 (iv ((yw y).2.2)),pb 82 56 [(iv ((yw y).1)),(iv ((yw y).2.1))]] (yD 50 (qjr y.1 y.2.1 (by first|assumption|omega) (by first|assumption|omega)) oz)<|qA<|qA<|qL qC [.k4,.n,.r] [ps 18 (bv (!(decide (((yw y).2.2)=0))))] ?_
 by_cases h1:((yw y).2.2)=0
 ·refine qU (bt h1)<|qF<|qA ?_
  have hmr:=qao h1
  have hmI:=jN hmr
  obtain ⟨hmI1,hmI2⟩:=hmI
  have hmI:=jN hmr
  have hfr:QP (zZ y.2.2):=by unfold zZ;rw [QP];exact ⟨⟨by decide,by decide⟩,by decide,by decide,hy.2.2.1,hy.2.2.2⟩
  refine vK qC 3 [.k3,.d,.n,.d,.k4,.n] [ps 7 (.opt 154 0),pb 154 125 [(iv (kd (yW (zZ y.2.2)))),(iv (sh (yW (zZ y.2.2)))),(.ssl (kc (yW (zZ y.2.2))) 0 ((qM (yW (zZ y.2.2))).length))]] (yD 146 (beat_pc (zZ y.2.2) hfr) oz)<|qA<|qA ?_
  by_cases h2:(yR (yW (zZ y.2.2)) (yw y).1 (yw y).2.1)=0
  ·refine vK qC 3 [.k3,.n,.d,.d,.n,.k3,.d] [ps 6 (iv 0),pb 0 91 [(iv v),(.osl 1 0 N.length),(nv z),(iv a),(iv b),(.ssl (qG (jP y)) 0 (((jP y)).length))]] (yD 194 (by have e:=qbc (yW (zZ y.2.2)) (yw y).1 (yw y).2.1 hmI.1 hmI.2;rw [qah h2] at e;exact e:PC Tryz.prog 67 [(.agg [(iv (kd (yW (zZ y.2.2)))),(iv (sh (yW (zZ y.2.2)))),(.ssl (kc (yW (zZ y.2.2))) 0 ((qM (yW (zZ y.2.2))).length))]),(.agg [(iv ((yw y).1)),(iv ((yw y).2.1))])] [] (.tup [(.ssl (qG (jP y)) 0 (((jP y)).length)),(iv 0)]) []) oz)<|qA<|qL qC [.k4,.n,.r] [ps 34 (bv false)]<|zk (b:=false) rfl rfl<|qF<|qA<|qA ?_
   have hig:=ZA y.2.2 1 4095 (by decide) hw
   have hir:=WQ y.2.2 1 4095 (by decide)
   have hsl:(jP y).length=wv y.2.2:=qck hne hig.1 h2
   have hi0:=hir.2.2 hw
   have hti:=qip (v:=v) (a:=a) (b:=b) (S:=(jP y)) (by omega) hab (all4_at (qag hmr h2)) _ y.2.2 (Nat.lt_succ_self _) [] N z 0 hy.2.2.2 hy.2.2.1 hig.2.1 hok (by omega) (by omega) (by have:=hig.2.2.1 hne;simp only [List.length_nil];omega) (fun i hi=>absurd hi (Nat.not_lt_zero i))
   refine qY (Wk.eq (show _=[ps 0 (.opt 0 0),ps 3 (.opt 2 0),ps 5 (.opt 82 0),ps 6 (iv 0),ps 34 (bv false),pb 0 91 [(iv v),(.osl 1 0 N.length),(nv z),(iv a),(iv b),(.ssl (qG (jP y)) (0*5) ((jP y).length-0))],pb 1 58 (qj N),pb 2 47 [(iv y.1),(iv y.2.1),(.ssl (qO (y.2.2)) 0 ((y.2.2).length))],pb 82 56 [(iv ((yw y).1)),(iv ((yw y).2.1))]] from by rfl)) ?_
   refine zY qC [(3,.call [0,1] [(.opt 0 0),(.ssl (qO (y.2.2)) 0 ((y.2.2).length)),(.ssl (zz ([]:List Iv)) 0 (([]:List Iv).length))] [some (91,[(iv v),(.osl 1 0 N.length),(nv z),(iv a),(iv b),(.ssl (qG (jP y)) (0*5) ((jP y).length-0))]),some (58,(qj N))] (iv ((vY v a b y N z).1)) [some (91,[(iv v),(.osl 2 0 (((vY v a b y N z)).2.1.length)),(nv ((vY v a b y N z).2.2.1)),(iv a),(iv b),(.ssl (qG (jP y)) (((vY v a b y N z).2.2.2)*5) ((jP y).length-(vY v a b y N z).2.2.2))]),none,some (58,(qj ((vY v a b y N z).2.1)))])] [.k1,.d,.k1,.d,.n,.d,.d,.n,.d,.d,.k1,.n] [ps 8 (iv ((vY v a b y N z).1)),pb 0 91 [(iv v),(.osl 298 0 (((vY v a b y N z)).2.1.length)),(nv ((vY v a b y N z).2.2.1)),(iv a),(iv b),(.ssl (qG (jP y)) (((vY v a b y N z).2.2.2)*5) ((jP y).length-(vY v a b y N z).2.2.2))],pb 298 58 (qN (yI [0,1] 298) (qj ((vY v a b y N z).2.1)))] (oc hti (oc (rfl:[(.opt 0 0),(.ssl (qO (y.2.2)) 0 ((y.2.2).length)),(.ssl [] 0 0)]=qN (qZ [0,1] 298) [(.opt 0 0),(.ssl (qO (y.2.2)) 0 ((y.2.2).length)),(.ssl (zz ([]:List Iv)) 0 (([]:List Iv).length))]) (oc (rfl:[(iv v),(.osl 1 0 N.length),(nv z),(iv a),(iv b),(.ssl (qG (jP y)) (0*5) ((jP y).length-0))]=qN (qZ [0,1] 298) [(iv v),(.osl 1 0 N.length),(nv z),(iv a),(iv b),(.ssl (qG (jP y)) (0*5) ((jP y).length-0))]) (oc ((qH (qv _)).symm:(qj N)=qN (qZ [0,1] 298) (qj N)) oz))))<|qY (Wk.eq (show _=[ps 0 (.opt 0 0),ps 5 (.opt 82 0),ps 8 (iv ((vY v a b y N z).1)),pb 0 91 [(iv v),(.osl 298 0 (((vY v a b y N z)).2.1.length)),(nv ((vY v a b y N z).2.2.1)),(iv a),(iv b),(.ssl (qG (jP y)) (((vY v a b y N z).2.2.2)*5) ((jP y).length-(vY v a b y N z).2.2.2))],pb 82 56 [(iv ((yw y).1)),(iv ((yw y).2.1))],pb 298 58 (qj ((vY v a b y N z).2.1))] from by simp only [qH (qv _)])) ?_
   refine qA<|qL qC [.k3,.n,.r] [ps 41 (bv (!(decide (((vY v a b y N z).1)=0))))] ?_
   by_cases h3:((vY v a b y N z).1)=0
   ·refine qU (bt h3)<|qF<|qA<|QK qC [(6,.call [] [(.agg [(iv a),(iv b)]),(.agg [(iv ((yw y).1)),(iv ((yw y).2.1))])] [] (.tup [(.agg [(iv ((Fr.plus a b ((yw y).1) ((yw y).2.1)).1)),(iv ((Fr.plus a b ((yw y).1) ((yw y).2.1)).2.1))]),(iv ((Fr.plus a b ((yw y).1) ((yw y).2.1)).2.2))]) [])] (bfm [[],[],[(1,1)],[(1,2)],[(1,3)],[],[(1,5)],[(1,6)],[(1,7)],[(1,7)],[(0,9)],[(0,9),(10,1)],[(0,9),(10,2)],[(0,13)]]) [([88],[0]),([90],[0]),([92],[90]),([94],[92]),([96],[1,94]),([98],[10,165]),([100],[96,98]),([86],[100]),([102],[86]),([104],[86]),([106],[88]),([108],[106]),([1],[1,102,108]),([12],[104])] [.d,.d,.n,.d,.d,.d,.n,.d,.r] [ps 6 (iv ((Fr.plus a b ((yw y).1) ((yw y).2.1)).2.2)),pb 0 91 [(iv v),(.osl 298 0 (((vY v a b y N z)).2.1.length)),(nv ((vY v a b y N z).2.2.1)),(iv ((Fr.plus a b ((yw y).1) ((yw y).2.1)).1)),(iv ((Fr.plus a b ((yw y).1) ((yw y).2.1)).2.1)),(.ssl (qG (jP y)) (((vY v a b y N z).2.2.2)*5) ((jP y).length-(vY v a b y N z).2.2.2))]] (yD 378 (WK a b ((yw y).1) ((yw y).2.1) (by first|assumption|omega) (by first|assumption|omega) (by first|assumption|omega) (by first|assumption|omega)) oz)<|qA<|qL qC [.n,.d,.r] [ps 4 (iv ((Fr.plus a b ((yw y).1) ((yw y).2.1)).2.2))] ?_
    have hR:(vW v y ((a,b),N,z))=((aH4 a b y).2.2,((aH4 a b y).1,(aH4 a b y).2.1),(vY v a b y N z).2.1,(vY v a b y N z).2.2.1):=by unfold vW;dsimp only;rw [if_pos h1,if_pos h2,if_pos h3]
    rw [hR]
    rw [hR] at h0
    exact zj fun cx_ a_ hI_=>zV (H':=[some (91,[(iv v),(.osl 2 0 (((vY v a b y N z).2.1).length)),(nv ((vY v a b y N z).2.2.1)),(iv ((aH4 a b y).1)),(iv ((aH4 a b y).2.1)),(.ssl (qG (jP y)) (((vY v a b y N z).2.2.2)*5) ((jP y).length-(vY v a b y N z).2.2.2))]),none,some (58,(qj ((vY v a b y N z).2.1)))]) (.inr rfl) (Wk.ren3 [ps 4 (iv ((Fr.plus a b ((yw y).1) ((yw y).2.1)).2.2)),pb 0 91 [(iv v),(.osl 2 0 (((vY v a b y N z)).2.1.length)),(nv ((vY v a b y N z).2.2.1)),(iv ((Fr.plus a b ((yw y).1) ((yw y).2.1)).1)),(iv ((Fr.plus a b ((yw y).1) ((yw y).2.1)).2.1)),(.ssl (qG (jP y)) (((vY v a b y N z).2.2.2)*5) ((jP y).length-(vY v a b y N z).2.2.2))],pb 2 58 (qj ((vY v a b y N z).2.1))] 2 hc0 [0,1,298] [(kb 2,(qj ((vY v a b y N z).2.1)))] (oc (qv _) (oz)) (by kernel_rfl) rfl rfl (by kernel_rfl) (by kernel_rfl)) rfl (oc rfl (oc rfl (oz))) (fun cx_ a_ hI_=>zL (l':=[ps 4 (iv ((Fr.plus a b ((yw y).1) ((yw y).2.1)).2.2)),pb 0 91 [(iv v),(.osl 2 0 (((vY v a b y N z)).2.1.length)),(nv ((vY v a b y N z).2.2.1)),(iv ((Fr.plus a b ((yw y).1) ((yw y).2.1)).1)),(iv ((Fr.plus a b ((yw y).1) ((yw y).2.1)).2.1)),(.ssl (qG (jP y)) (((vY v a b y N z).2.2.2)*5) ((jP y).length-(vY v a b y N z).2.2.2))],pb 2 58 (qj ((vY v a b y N z).2.1))]) (by kernel_rfl) cx_ a_ hI_) hI_
   refine qR (bf h3)<|qA<|qL qC [.d,.n,.d,.d,.d,.k1,.d,.r] [ps 4 (iv ((vY v a b y N z).1))] ?_
   have hR:(vW v y ((a,b),N,z)).1=((vY v a b y N z).1):=by unfold vW;dsimp only;rw [if_pos h1,if_pos h2,if_neg h3]
   exact absurd (hR.symm.trans h0) h3
  refine vK qC 3 [.k3,.n,.d,.d,.n,.k3,.d] [ps 6 (iv (yR (yW (zZ y.2.2)) (yw y).1 (yw y).2.1)),pb 0 91 [(iv v),(.osl 1 0 N.length),(nv z),(iv a),(iv b),(.ssl [] 0 0)]] (yD 194 (by have e:=qbc (yW (zZ y.2.2)) (yw y).1 (yw y).2.1 hmI.1 hmI.2;rw [Qj rfl h2] at e;exact e:PC Tryz.prog 67 [(.agg [(iv (kd (yW (zZ y.2.2)))),(iv (sh (yW (zZ y.2.2)))),(.ssl (kc (yW (zZ y.2.2))) 0 ((qM (yW (zZ y.2.2))).length))]),(.agg [(iv ((yw y).1)),(iv ((yw y).2.1))])] [] (.tup [(.ssl [] 0 0),(iv (yR (yW (zZ y.2.2)) (yw y).1 (yw y).2.1))]) []) oz)<|qA<|qL qC [.k4,.n,.r] [ps 34 (bv (!(decide ((yR (yW (zZ y.2.2)) (yw y).1 (yw y).2.1)=0))))]<|qR (bf h2)<|qA<|qL qC [.d,.d,.n,.d,.d,.d,.k2,.d,.d] [ps 4 (iv (yR (yW (zZ y.2.2)) (yw y).1 (yw y).2.1))] ?_
  have hR:(vW v y ((a,b),N,z)).1=(yR (yW (zZ y.2.2)) (yw y).1 (yw y).2.1):=by unfold vW;dsimp only;rw [if_pos h1,if_neg h2]
  exact absurd (hR.symm.trans h0) h2
 refine qR (bf h1)<|qA<|qL qC [.d,.d,.n,.d,.d,.d,.k2,.d,.d] [ps 4 (iv ((yw y).2.2))] ?_
 have hR:(vW v y ((a,b),N,z)).1=((yw y).2.2):=by unfold vW;dsimp only;rw [if_neg h1]
 exact absurd (hR.symm.trans h0) h1
end Go.Proofs.YtmlnilkbolcknaaGreatDoor.Pm
set_option maxRecDepth 100000
set_option maxHeartbeats 4000000
namespace Go.Proofs.YtmlnilkbolcknaaGreatDoor.Pm
open Go Go.Proofs.YtmlnilkbolcknaaGreatDoor.Pi
theorem wX (l:List Vo) (hf:qca l):PC Tryz.prog 8 [(.ssl (yJ l) 0 l.length)] [] (iv (qw l)) []:=by
 obtain ⟨hf1,hf2⟩:=hf
 refine zI Tryz.func8 rfl (by kernel_rfl) (Nat.le_of_ble_eq_true rfl) (by kernel_rfl) (l0:=[ps 0 (.ssl (yJ l) 0 l.length)]) rfl (fun c0 Bor hc0=>?_)
 refine qA<|qL qC [.r] []<|qA<|qA<|qL qC [.k1,.n] [ps 10 (bv (decide (64<(l.length:Int))))] ?_
 by_cases h1:64<(l.length:Int)
 ·refine qR (zP h1)<|qA<|qk qC [] [ps 2 (iv 5)] (oz) ?_
  have hT:qw l=5:=by unfold qw;rw [if_pos (by omega)]
  rw [hT]
  exact yA hc0 [2] []
 refine qU (zN h1)<|qF<|qA<|qA<|qk qC [] [ps 11 (.ssl (yJ l) 0 l.length),ps 12 (nv l.length),ps 13 (iv 0)] (oz)<|qV<|yC (α:={x:Nat // x≤l.length∧wN (l.drop x)=wN l}) (fun x=>[ps 11 (.ssl (yJ l) 0 l.length),ps 12 (nv l.length),ps 13 (nv x.1)]) (fun x=>l.length-x.1) 0 ⟨0,⟨Nat.zero_le _,rfl⟩⟩ (Wk.ren2 _ 0 hc0 [] rfl rfl (by kernel_rfl) (by kernel_rfl)) ?_
 rintro ⟨i,⟨hi,hW⟩⟩
 refine qA<|qk qC [] [ps 11 (.ssl (yJ l) 0 l.length),ps 12 (nv l.length),ps 13 (nv i),ps 14 (bv (decide (((i:Nat):Int)<(l.length:Int))))] (oz)<|qA ?_
 by_cases h2:(i:Int)<(l.length:Int)
 ·refine qR (zP h2)<|qF<|qA<|qV<|qA ?_
  obtain ⟨hv1,hv2,hv3⟩:=hf2 i (by omega)
  refine zY qC [(0,.nat (i*2)),(1,.cells [(sv (st ((l.getD i qD).1))),(.ssl (vF ((l.getD i qD).2)) 0 (((l.getD i qD).2).length))])] [.n,.k3,.d,.n] [ps 4 (.opt 24 0),pb 24 44 [(sv (st ((l.getD i qD).1))),(.ssl (vF ((l.getD i qD).2)) 0 (((l.getD i qD).2).length))]] (oc (by omega:(0:Int)≤(i:Int)∧(i:Int)<(l.length:Int)) (oc (by omega:0+(((i:Nat):Int):Int).toNat*2=(i*2)) (oc (yG voC 2 (fun _=>rfl) qD l i 0 2 (by omega) (by decide):(i*2)+2≤((yJ l)).length∧(((yJ l)).drop (i*2)).take 2=[(sv (st ((l.getD i qD).1))),(.ssl (vF ((l.getD i qD).2)) 0 (((l.getD i qD).2).length))]) oz))) ?_
  refine qA<|qA<|vK qC 2 [.k4,.n,.r] [ps 20 (bv (!(wV ((l.getD i qD).1))))] (yD 56 (vname_pc ((l.getD i qD).1) (by omega)) oz) ?_
  by_cases h3:(wV ((l.getD i qD).1))=true
  ·refine qU (congrArg Bool.not h3)<|qF<|qA<|qA<|qL qC [.k4,.d,.n,.r] [ps 24 (bv (decide (1024<((((l.getD i qD).2).length:Nat):Int))))] ?_
   by_cases h4:1024<((((l.getD i qD).2).length:Nat):Int)
   ·refine qR (zP h4)<|qA<|qk qC [] [ps 2 (iv 5)] (oz) ?_
    have hT:qw l=5:=by unfold qw;rw [if_neg (by omega),← hW,yZ (by omega),show zx (l.getD i qD)=5 from by unfold zx;rw [if_pos h3,if_pos (by omega)],if_neg (by decide)]
    rw [hT]
    exact zj fun cx_ a_ hI_=>qy (rt hc0 [ps 2 (iv 5)] [] hI_)
   refine qU (zN h4)<|qF<|qA<|qL qC [.d,.k3,.d,.n,.n,.n,.d] [ps 26 (.ssl (vF ((l.getD i qD).2)) 0 (((l.getD i qD).2).length)),ps 27 (nv (((l.getD i qD).2).length)),ps 28 (iv 0)]<|qV<|yC (α:={x:Nat // x≤(l.getD i qD).2.length∧QX ((l.getD i qD).2.drop x)=QX (l.getD i qD).2}) (fun x=>[ps 11 (.ssl (yJ l) 0 l.length),ps 12 (nv l.length),ps 13 (nv i),ps 26 (.ssl (vF ((l.getD i qD).2)) 0 (((l.getD i qD).2).length)),ps 27 (nv (((l.getD i qD).2).length)),ps 28 (nv x.1)]) (fun x=>(l.getD i qD).2.length-x.1) 0 ⟨0,⟨Nat.zero_le _,rfl⟩⟩ (Wk.ren2 _ 0 hc0 [] rfl rfl (by kernel_rfl) (by kernel_rfl)) ?_
   rintro ⟨j,⟨hj,hR⟩⟩
   refine qA<|qk qC [] [ps 11 (.ssl (yJ l) 0 l.length),ps 12 (nv l.length),ps 13 (nv i),ps 26 (.ssl (vF ((l.getD i qD).2)) 0 (((l.getD i qD).2).length)),ps 27 (nv (((l.getD i qD).2).length)),ps 28 (nv j),ps 29 (bv (decide (((j:Nat):Int)<((((l.getD i qD).2).length:Nat):Int))))] (oz)<|qA ?_
   by_cases h5:(j:Int)<((((l.getD i qD).2).length:Nat):Int)
   ·refine qR (zP h5)<|qF<|qA<|qV<|qA ?_
    obtain ⟨hb1,hb2,hb3,hb4⟩:=hv3 j (by omega)
    refine zY qC [(0,.nat (j*3)),(1,.cells [(iv ((((l.getD i qD).2).getD j zB).1)),(iv ((((l.getD i qD).2).getD j zB).2.1)),(.ssl (qO ((((l.getD i qD).2).getD j zB).2.2)) 0 (((((l.getD i qD).2).getD j zB).2.2).length))])] [.n,.k6,.d,.n] [ps 6 (.opt 24 0),pb 24 47 [(iv ((((l.getD i qD).2).getD j zB).1)),(iv ((((l.getD i qD).2).getD j zB).2.1)),(.ssl (qO ((((l.getD i qD).2).getD j zB).2.2)) 0 (((((l.getD i qD).2).getD j zB).2.2).length))]] (oc (by omega:(0:Int)≤(j:Int)∧(j:Int)<((((l.getD i qD).2).length:Nat):Int)) (oc (by omega:0+(((j:Nat):Int):Int).toNat*3=(j*3)) (oc (yG brC 3 (fun _=>rfl) zB ((l.getD i qD).2) j 0 3 (by omega) (by decide):(j*3)+3≤((vF ((l.getD i qD).2))).length∧(((vF ((l.getD i qD).2))).drop (j*3)).take 3=[(iv ((((l.getD i qD).2).getD j zB).1)),(iv ((((l.getD i qD).2).getD j zB).2.1)),(.ssl (qO ((((l.getD i qD).2).getD j zB).2.2)) 0 (((((l.getD i qD).2).getD j zB).2.2).length))]) oz))) ?_
    refine qA<|qA ?_
    by_cases h6:((((l.getD i qD).2).getD j zB).1)<1
    ·refine zY qC (gy 4 3++[(7,.yes true)]++gy 9 3++gy 14 3) [.k7,.n,.r] [ps 49 (bv true)] (on 4 (zP h6) (on 6 tt oz))<|yK (b:=true) rfl rfl<|qA<|qk qC [] [ps 2 (iv 3)] (oz) ?_
     have hT:qw l=3:=by unfold qw;rw [if_neg (by omega),← hW,yZ (by omega),show zx (l.getD i qD)=3 from by unfold zx;rw [if_pos h3,if_neg (by omega),← hR,wD (by omega),show wK ((l.getD i qD).2.getD j zB)=3 from by unfold wK;rw [if_pos (by omega)],if_neg (by decide)],if_neg (by decide)]
     rw [hT]
     exact zj fun cx_ a_ hI_=>qy (qy (rt hc0 [ps 2 (iv 3)] [] hI_))
    by_cases h7:65536<((((l.getD i qD).2).getD j zB).1)
    ·refine zY qC (gn 4 3++[(7,.yes false)]++gy 9 3++[(12,.yes true)]++gy 14 3) [.k7,.n,.r] [ps 49 (bv true)] (on 4 (zN h6) (on 4 (zP h7) (on 3 tt oz)))<|yK (b:=true) rfl rfl<|qA<|qk qC [] [ps 2 (iv 3)] (oz) ?_
     have hT:qw l=3:=by unfold qw;rw [if_neg (by omega),← hW,yZ (by omega),show zx (l.getD i qD)=3 from by unfold zx;rw [if_pos h3,if_neg (by omega),← hR,wD (by omega),show wK ((l.getD i qD).2.getD j zB)=3 from by unfold wK;rw [if_pos (by omega)],if_neg (by decide)],if_neg (by decide)]
     rw [hT]
     exact zj fun cx_ a_ hI_=>qy (qy (rt hc0 [ps 2 (iv 3)] [] hI_))
    by_cases h8:((((l.getD i qD).2).getD j zB).2.1)<1
    ·refine zY qC (gn 4 3++[(7,.yes false)]++gn 9 3++[(12,.yes false)]++gy 14 3++[(17,.yes true)]) [.k7,.n,.r] [ps 49 (bv true)] (on 4 (zN h6) (on 4 (zN h7) (on 4 (zP h8) oz)))<|yK (b:=true) rfl rfl<|qA<|qk qC [] [ps 2 (iv 3)] (oz) ?_
     have hT:qw l=3:=by unfold qw;rw [if_neg (by omega),← hW,yZ (by omega),show zx (l.getD i qD)=3 from by unfold zx;rw [if_pos h3,if_neg (by omega),← hR,wD (by omega),show wK ((l.getD i qD).2.getD j zB)=3 from by unfold wK;rw [if_pos (by omega)],if_neg (by decide)],if_neg (by decide)]
     rw [hT]
     exact zj fun cx_ a_ hI_=>qy (qy (rt hc0 [ps 2 (iv 3)] [] hI_))
    refine zY qC (gn 4 3++[(7,.yes false)]++gn 9 3++[(12,.yes false)]++gn 14 3++[(17,.yes false)]) [.k7,.n,.r] [ps 49 (bv (decide (65536<((((l.getD i qD).2).getD j zB).2.1))))] (on 4 (zN h6) (on 4 (zN h7) (on 4 (zN h8) oz))) ?_
    by_cases h9:65536<((((l.getD i qD).2).getD j zB).2.1)
    ·refine qR (zP h9)<|qA<|qk qC [] [ps 2 (iv 3)] (oz) ?_
     have hT:qw l=3:=by unfold qw;rw [if_neg (by omega),← hW,yZ (by omega),show zx (l.getD i qD)=3 from by unfold zx;rw [if_pos h3,if_neg (by omega),← hR,wD (by omega),show wK ((l.getD i qD).2.getD j zB)=3 from by unfold wK;rw [if_pos (by omega)],if_neg (by decide)],if_neg (by decide)]
     rw [hT]
     exact zj fun cx_ a_ hI_=>qy (qy (rt hc0 [ps 2 (iv 3)] [] hI_))
    refine qU (zN h9)<|qF<|qA<|qL qC [.k1,.n,.k6,.d,.k1,.n] [ps 7 (.opt 192 0),pb 192 67 [(iv 4095)]]<|qA<|T_k1 qC 3 [.d,.d,.k6,.n,.d,.d] [ps 56 (bv (!(decide ((wF (((l.getD i qD).2.getD j zB).2.2) 1 4095).1=true∧0<(((l.getD i qD).2.getD j zB).2.2).length))))] (oc1 [192] 232 (items_pc (((l.getD i qD).2.getD j zB).2.2) 1 4095 (by decide) (by decide) (by decide) (by decide) hb4 (by omega)) oz) ?_
    by_cases h10:(decide ((wF (((l.getD i qD).2.getD j zB).2.2) 1 4095).1=true∧0<(((l.getD i qD).2.getD j zB).2.2).length))=true
    ·refine qU (congrArg Bool.not h10)<|qF<|zF<|zY qC [] [.k5,.d,.n,.d] [ps 28 (iv (((j:Nat):Int)+1))] (oi (((j:Nat):Int)+1) (by omega) oz) ?_
     exact zR ⟨j+1,⟨by show j+1≤(l.getD i qD).2.length;omega,by have h1:=wD (l:=(l.getD i qD).2) (i:=j) (by omega);have h2:wK ((l.getD i qD).2.getD j zB)=0:=by {unfold wK;rw [if_neg (by omega),if_pos (by simpa using h10)]};rw [if_pos h2] at h1;rw [← hR,h1]⟩⟩ (Wk.trans (Wk.eq (show _=[ps 11 (.ssl (yJ l) 0 l.length),ps 12 (nv l.length),ps 13 (nv i),ps 26 (.ssl (vF ((l.getD i qD).2)) 0 (((l.getD i qD).2).length)),ps 27 (nv (((l.getD i qD).2).length)),ps 28 (nv (j+1))] from by rfl)) (Wk.ren2 _ 0 hc0 [] rfl rfl (by kernel_rfl) (by kernel_rfl))) (show (l.getD i qD).2.length-(j+1)<(l.getD i qD).2.length-j from by show (l.getD i qD).2.length-(j+1)<(l.getD i qD).2.length-j;omega)
    refine qR (congrArg Bool.not (Bool.eq_false_iff.2 h10))<|qA<|qk qC [] [ps 2 (iv 2)] (oz) ?_
    have hT:qw l=2:=by unfold qw;rw [if_neg (by omega),← hW,yZ (by omega),show zx (l.getD i qD)=2 from by unfold zx;rw [if_pos h3,if_neg (by omega),← hR,wD (by omega),show wK ((l.getD i qD).2.getD j zB)=2 from by unfold wK;rw [if_neg (by omega),if_neg (by simpa using h10)],if_neg (by decide)],if_neg (by decide)]
    rw [hT]
    exact zj fun cx_ a_ hI_=>qy (qy (rt hc0 [ps 2 (iv 2)] [] hI_))
   refine qU (zN h5)<|zS rfl rfl<|zF<|zY qC [] [.k2,.d,.n,.d,.d,.d,.d] [ps 13 (iv (((i:Nat):Int)+1))] (oi (((i:Nat):Int)+1) (by omega) oz) ?_
   exact zR ⟨i+1,⟨by show i+1≤l.length;omega,by have h1:=yZ (l:=l) (i:=i) (by omega);have h2:zx (l.getD i qD)=0:=by {unfold zx;rw [if_pos h3,if_neg (by omega),← hR,List.drop_eq_nil_of_le (by omega),QX]};rw [if_pos h2] at h1;rw [← hW,h1]⟩⟩ (Wk.trans (Wk.eq (show _=[ps 11 (.ssl (yJ l) 0 l.length),ps 12 (nv l.length),ps 13 (nv (i+1))] from by rfl)) (Wk.ren2 _ 0 hc0 [] rfl rfl (by kernel_rfl) (by kernel_rfl))) (show l.length-(i+1)<l.length-i from by show l.length-(i+1)<l.length-i;omega)
  refine qR (congrArg Bool.not (Bool.eq_false_iff.2 h3))<|qA<|qk qC [] [ps 2 (iv 7)] (oz) ?_
  have hT:qw l=7:=by unfold qw;rw [if_neg (by omega),← hW,yZ (by omega),show zx (l.getD i qD)=7 from by unfold zx;rw [if_neg h3],if_neg (by decide)]
  rw [hT]
  exact zj fun cx_ a_ hI_=>qy (rt hc0 [ps 2 (iv 7)] [] hI_)
 refine qU (zN h2)<|zS rfl rfl<|qA<|qk qC [] [ps 2 (iv 0)] (oz) ?_
 have hT:qw l=0:=by unfold qw;rw [if_neg (by omega),← hW,List.drop_eq_nil_of_le (by omega),wN]
 rw [hT]
 exact yA hc0 [2] []
end Go.Proofs.YtmlnilkbolcknaaGreatDoor.Pm
set_option maxRecDepth 100000
set_option maxHeartbeats 4000000
namespace Go.Proofs.YtmlnilkbolcknaaGreatDoor.Pm
open Go Fr
abbrev vX (l:List Vo) (i j:Nat):=(l.getD i qD).2.getD j zB
abbrev aI2 (l:List Vo) (i j:Nat):=Fr.make (vX l i j).1 (vX l i j).2.1
abbrev aI3 (l:List Vo) (i j:Nat):=wx (yW (zZ (vX l i j).2.2)) (aI2 l i j).1 (aI2 l i j).2.1
abbrev vw (l:List Vo) (i j:Nat) (a b:Int) (N:List Nt) (z:Nat):=vW (i:Int) (vX l i j) ((a,b),N,z)
abbrev aI5 (l:List Vo) (i j:Nat) (a b:Int) (N:List Nt) (z:Nat):=zE (i:Int) a b (aI3 l i j) (vX l i j).2.2 [] (N,z,0)
theorem qjo (N:List Nt):0+N.length*9≤(qj N).length∧((qj N).drop 0).take (N.length*9)=qj N:=by
 rw [List.drop_zero,List.take_of_length_le (by rw [YG];omega),YG]
 exact ⟨by omega,rfl⟩
theorem qbn (l:List Vo) (hf:qca l) (h0:(zT l).1=0):PC Tryz.prog 12 [(.ssl (yJ l) 0 l.length)] [] (.tup [(.osl 0 0 ((zT l).2.length)),(iv 0)]) [some (58,(qj ((zT l).2)))]:=by
 refine zI Tryz.func12 rfl (by kernel_rfl) (Nat.le_of_ble_eq_true rfl) (by kernel_rfl) (l0:=[ps 0 (.ssl (yJ l) 0 l.length)]) rfl (fun c0 Bor hc0=>?_)
 refine qA<|qL qC [.r] []<|qA<|qA<|vK qC 1 [.k1,.n] [ps 4 (iv (qw l))] (yD 24 (wX l hf) oz)<|qA<|qL qC [.k2,.n] [ps 15 (bv (!(decide ((qw l)=0))))] ?_
 by_cases h1:(qw l)=0
 ·refine qU (bt h1)<|qF<|qA<|qL qC [.k1,.d,.n,.d] [ps 5 sn]<|qA<|qA<|qL qC [.d,.k1,.n,.n,.n] [ps 17 (.ssl (yJ l) 0 l.length),ps 18 (nv l.length),ps 19 (iv 0)]<|qV<|qY (Wk.nil (s:=5) 58 (by kernel_rfl))<|qY (Wk.less (l':=[ps 5 (.osl 88 0 0),ps 17 (.ssl (yJ l) 0 l.length),ps 18 (nv l.length),ps 19 (iv 0),pb 88 58 []]) 89 (by kernel_rfl) (by kernel_rfl)) ?_
  have hwp:=WC h1
  refine qY (Wk.eq (show _=[ps 5 (.osl 88 0 (([]:List Nt).length)),ps 17 (.ssl (yJ l) 0 l.length),ps 18 (nv l.length),ps 19 (iv 0),pb 88 58 (qj ([]:List Nt))] from by rfl)) ?_
  refine yC (α:={x:Nat × List Nt // x.1≤l.length∧wU (l.drop x.1) (x.1:Int) x.2=wU l 0 []∧x.2.length≤x.1*70000000}) (fun x=>[ps 5 (.osl 0 0 x.1.2.length),ps 17 (.ssl (yJ l) 0 l.length),ps 18 (nv l.length),ps 19 (nv x.1.1),pb 0 58 (qj x.1.2)]) (fun x=>l.length-x.1.1) 1 ⟨(0,[]),⟨Nat.zero_le _,rfl,Nat.zero_le _⟩⟩ (Wk.ren3 _ 0 hc0 [88] [(kb 0,(qj ([]:List Nt)))] (oc (qv _) (oz)) (by kernel_rfl) rfl rfl (by kernel_rfl) (by kernel_rfl)) ?_
  rintro ⟨⟨i,M⟩,⟨hi,hT,hM⟩⟩
  dsimp only at hi hT hM
  refine qA<|qk qC [] [ps 5 (.osl 0 0 M.length),ps 17 (.ssl (yJ l) 0 l.length),ps 18 (nv l.length),ps 19 (nv i),ps 20 (bv (decide (((i:Nat):Int)<(l.length:Int)))),pb 0 58 (qj M)] (oz)<|qA ?_
  by_cases h2:(i:Int)<(l.length:Int)
  ·refine qR (zP h2)<|qF<|qA<|qV<|qA ?_
   have hfv:=hf.2 i (by omega)
   have hwv:=(hwp.2 i (by omega)).1
   have hwr:=(hwp.2 i (by omega)).2
   have hl64:=hwp.1
   refine zY qC [(1,.nat (i*2)),(2,.cells [(sv (st ((l.getD i qD).1))),(.ssl (vF ((l.getD i qD).2)) 0 (((l.getD i qD).2).length))])] [.k1,.n,.n,.k3,.d,.k1,.n] [ps 6 (nv i),ps 7 (.opt 33 0),pb 33 44 [(sv (st ((l.getD i qD).1))),(.ssl (vF ((l.getD i qD).2)) 0 (((l.getD i qD).2).length))]] (oc (by omega:(0:Int)≤(i:Int)∧(i:Int)<(l.length:Int)) (oc (by omega:0+(((i:Nat):Int):Int).toNat*2=(i*2)) (oc (yG voC 2 (fun _=>rfl) qD l i 0 2 (by omega) (by decide):(i*2)+2≤((yJ l)).length∧(((yJ l)).drop (i*2)).take 2=[(sv (st ((l.getD i qD).1))),(.ssl (vF ((l.getD i qD).2)) 0 (((l.getD i qD).2).length))]) oz))) ?_
   refine qA<|qL qC [.k1,.d,.k1,.n,.k5,.n] [ps 8 (.opt 81 0),pb 81 91 [(nv i),sn,(iv 0),(iv 0),(iv 1),sn]]<|qA<|qA<|qL qC [.k1,.d,.k4,.n,.n,.n,.k1,.d,.r] [ps 29 (.ssl (vF ((l.getD i qD).2)) 0 (((l.getD i qD).2).length)),ps 30 (nv (((l.getD i qD).2).length)),ps 31 (iv 0)]<|qV<|qY (Wk.nilc (B:=91) (cells:=[(nv i),sn,(iv 0),(iv 0),(iv 1),sn]) 81 1 58 (by kernel_rfl) rfl)<|qY (Wk.less (l':=[ps 5 (.osl 0 0 M.length),ps 8 (.opt 81 0),ps 17 (.ssl (yJ l) 0 l.length),ps 18 (nv l.length),ps 19 (nv i),ps 29 (.ssl (vF ((l.getD i qD).2)) 0 (((l.getD i qD).2).length)),ps 30 (nv (((l.getD i qD).2).length)),ps 31 (iv 0),pb 0 58 (qj M),pb 81 91 [(nv i),(.osl 129 0 0),(iv 0),(iv 0),(iv 1),sn],pb 129 58 []]) 130 (by kernel_rfl) (by kernel_rfl))<|qY (Wk.nilc (B:=91) (cells:=[(nv i),(.osl 129 0 0),(iv 0),(iv 0),(iv 1),sn]) 81 5 187 (by kernel_rfl) rfl)<|qY (Wk.less (l':=[ps 5 (.osl 0 0 M.length),ps 8 (.opt 81 0),ps 17 (.ssl (yJ l) 0 l.length),ps 18 (nv l.length),ps 19 (nv i),ps 29 (.ssl (vF ((l.getD i qD).2)) 0 (((l.getD i qD).2).length)),ps 30 (nv (((l.getD i qD).2).length)),ps 31 (iv 0),pb 0 58 (qj M),pb 81 91 [(nv i),(.osl 129 0 0),(iv 0),(iv 0),(iv 1),(.osl 130 0 0)],pb 129 58 [],pb 130 187 []]) 131 (by kernel_rfl) (by kernel_rfl))<|qY (Wk.frz2 (l':=[ps 5 (.osl 0 0 M.length),ps 8 (.opt 81 0),ps 17 (.ssl (yJ l) 0 l.length),ps 18 (nv l.length),ps 19 (nv i),ps 29 (.ssl (vF ((l.getD i qD).2)) 0 (((l.getD i qD).2).length)),ps 30 (nv (((l.getD i qD).2).length)),ps 31 (iv 0),pb 0 58 (qj M),pb 81 91 [(nv i),(.osl 129 0 0),(iv 0),(iv 0),(iv 1),(.ssl [] 0 0)],pb 129 58 [],(kb 130,none)]) 130 (T:=187) (cs:=[]) [(kb 0,(qj M))] (oc (qv _) (oz)) (by kernel_rfl) (by kernel_rfl) (fun p hp=>List.all_eq_true.1 (show [].all PV.shd=true from rfl) p hp) (by kernel_rfl)) ?_
   refine qY (Wk.less (l':=[ps 5 (.osl 0 0 M.length),ps 8 (.opt 81 0),ps 17 (.ssl (yJ l) 0 l.length),ps 18 (nv l.length),ps 19 (nv i),ps 29 (.ssl (vF ((l.getD i qD).2)) 0 (((l.getD i qD).2).length)),ps 30 (nv (((l.getD i qD).2).length)),ps 31 (iv 0),pb 0 58 (qj M),pb 81 91 [(nv i),(.osl 129 0 0),(iv 0),(iv 0),(iv 1),(.ssl [] 0 0)],pb 129 58 []]) 131 (by kernel_rfl) (by kernel_rfl))<|qY (Wk.eq (show _=[ps 5 (.osl 0 0 M.length),ps 8 (.opt 81 0),ps 17 (.ssl (yJ l) 0 l.length),ps 18 (nv l.length),ps 19 (nv i),ps 29 (.ssl (vF ((l.getD i qD).2)) 0 (((l.getD i qD).2).length)),ps 30 (nv (((l.getD i qD).2).length)),ps 31 (iv 0),pb 0 58 (qj M),pb 81 91 [(iv (i:Int)),(.osl 129 0 (([]:List Nt).length)),(nv 0),(iv 0),(iv 1),(.ssl (qG ([]:List Sp)) (0*5) 0)],pb 129 58 (qj ([]:List Nt))] from by rfl)) ?_
   refine yC (α:={x:Nat × Int × Int × List Nt × Nat × List Sp × Nat × Nat // x.1≤(l.getD i qD).2.length∧vk (i:Int) ((l.getD i qD).2.drop x.1) ((x.2.1,x.2.2.1),x.2.2.2.1,x.2.2.2.2.1)=vk (i:Int) (l.getD i qD).2 ((0,1),[],0)∧ZR (x.2.2.2.1,x.2.2.2.2.1,0)∧x.2.2.2.1.length≤x.1*65536∧I64 x.2.1∧I64 x.2.2.1}) (fun x=>[ps 5 (.osl 0 0 M.length),ps 8 (.opt 1 0),ps 17 (.ssl (yJ l) 0 l.length),ps 18 (nv l.length),ps 19 (nv i),ps 29 (.ssl (vF ((l.getD i qD).2)) 0 (((l.getD i qD).2).length)),ps 30 (nv (((l.getD i qD).2).length)),ps 31 (nv x.1.1),pb 0 58 (qj M),pb 1 91 [(iv (i:Int)),(.osl 2 0 x.1.2.2.2.1.length),(nv x.1.2.2.2.2.1),(iv x.1.2.1),(iv x.1.2.2.1),(.ssl (qG x.1.2.2.2.2.2.1) (x.1.2.2.2.2.2.2.1*5) x.1.2.2.2.2.2.2.2)],pb 2 58 (qj x.1.2.2.2.1)]) (fun x=>(l.getD i qD).2.length-x.1.1) 3 ⟨(0,0,1,[],0,[],0,0),⟨Nat.zero_le _,rfl,⟨Nat.le_refl _,fun n hn=>by cases hn⟩,Nat.zero_le _,by unfold I64;decide,by unfold I64;decide⟩⟩ (Wk.ren3 _ 0 hc0 [0,81,129] [(kb 0,(qj M)),(kb 2,(qj ([]:List Nt)))] (oc (qv _) (oc (qv _) (oz))) (by kernel_rfl) rfl rfl (by kernel_rfl) (by kernel_rfl)) ?_
   rintro ⟨⟨j,a,b,N,z,T,q,r⟩,⟨hj,hBt,hok,hNl,ha,hb⟩⟩
   dsimp only at hj hBt hok hNl ha hb
   refine qA<|qk qC [] [ps 5 (.osl 0 0 M.length),ps 8 (.opt 1 0),ps 17 (.ssl (yJ l) 0 l.length),ps 18 (nv l.length),ps 19 (nv i),ps 29 (.ssl (vF ((l.getD i qD).2)) 0 (((l.getD i qD).2).length)),ps 30 (nv (((l.getD i qD).2).length)),ps 31 (nv j),ps 32 (bv (decide (((j:Nat):Int)<((((l.getD i qD).2).length:Nat):Int)))),pb 0 58 (qj M),pb 1 91 [(iv (i:Int)),(.osl 2 0 N.length),(nv z),(iv a),(iv b),(.ssl (qG T) (q*5) r)],pb 2 58 (qj N)] (oz)<|qA ?_
   by_cases h3:(j:Int)<((((l.getD i qD).2).length:Nat):Int)
   ·refine qR (zP h3)<|qF<|qA<|qV<|qA<|zY qC [(0,.nat (j*3)),(1,.cells [(iv ((vX l i j).1)),(iv ((vX l i j).2.1)),(.ssl (qO ((vX l i j).2.2)) 0 (((vX l i j).2.2).length))])] [.k2,.n,.k6,.d,.k3,.n] [ps 10 (.opt 27 0),pb 27 47 [(iv ((vX l i j).1)),(iv ((vX l i j).2.1)),(.ssl (qO ((vX l i j).2.2)) 0 (((vX l i j).2.2).length))]] (oc (by omega:(0:Int)≤(j:Int)∧(j:Int)<((((l.getD i qD).2).length:Nat):Int)) (oc (by omega:0+(((j:Nat):Int):Int).toNat*3=(j*3)) (oc (yG brC 3 (fun _=>rfl) zB ((l.getD i qD).2) j 0 3 (by omega) (by decide):(j*3)+3≤((vF ((l.getD i qD).2))).length∧(((vF ((l.getD i qD).2))).drop (j*3)).take 3=[(iv ((vX l i j).1)),(iv ((vX l i j).2.1)),(.ssl (qO ((vX l i j).2.2)) 0 (((vX l i j).2.2).length))]) oz))) ?_
    refine qA ?_
    have hyf:=hfv.2.2 j (by omega)
    by_cases h4:((vw l i j a b N z).1)=0
    ·refine zY qC [(2,.call [1,2] [(.opt 0 0),(.agg [(iv ((vX l i j).1)),(iv ((vX l i j).2.1)),(.ssl (qO ((vX l i j).2.2)) 0 (((vX l i j).2.2).length))])] [some (91,[(iv (i:Int)),(.osl 1 0 N.length),(nv z),(iv a),(iv b),(.ssl (qG T) (q*5) r)]),some (58,(qj N))] (iv ((vw l i j a b N z).1)) [some (91,[(iv (i:Int)),(.osl 2 0 (((vw l i j a b N z).2.2.1).length)),(nv ((vw l i j a b N z).2.2.2)),(iv ((vw l i j a b N z).2.1.1)),(iv ((vw l i j a b N z).2.1.2)),(.ssl (qG (aI3 l i j)) (((aI5 l i j a b N z).2.2.2)*5) ((aI3 l i j).length-(aI5 l i j a b N z).2.2.2))]),none,some (58,(qj ((vw l i j a b N z).2.2.1)))])] [.k2,.d,.n,.k7,.d,.n,.d,.d,.n] [ps 11 (iv ((vw l i j a b N z).1)),pb 1 91 [(iv (i:Int)),(.osl 59 0 (((vw l i j a b N z).2.2.1).length)),(nv ((vw l i j a b N z).2.2.2)),(iv ((vw l i j a b N z).2.1.1)),(iv ((vw l i j a b N z).2.1.2)),(.ssl (qG (aI3 l i j)) (((aI5 l i j a b N z).2.2.2)*5) ((aI3 l i j).length-(aI5 l i j a b N z).2.2.2))],pb 59 58 (qN (yI [1,2] 59) (qj ((vw l i j a b N z).2.2.1)))] (oc (qig (vX l i j) (i:Int) a b T N z q r hyf (hwr j (by omega)).1 (hwr j (by omega)).2 hok (by omega) ⟨ha,hb⟩ h4:PC Tryz.prog 35 [(.opt 0 0),(.agg [(iv ((vX l i j).1)),(iv ((vX l i j).2.1)),(.ssl (qO ((vX l i j).2.2)) 0 (((vX l i j).2.2).length))])] [some (91,[(iv (i:Int)),(.osl 1 0 N.length),(nv z),(iv a),(iv b),(.ssl (qG T) (q*5) r)]),some (58,(qj N))] (iv ((vw l i j a b N z).1)) [some (91,[(iv (i:Int)),(.osl 2 0 (((vw l i j a b N z).2.2.1).length)),(nv ((vw l i j a b N z).2.2.2)),(iv ((vw l i j a b N z).2.1.1)),(iv ((vw l i j a b N z).2.1.2)),(.ssl (qG (aI3 l i j)) (((aI5 l i j a b N z).2.2.2)*5) ((aI3 l i j).length-(aI5 l i j a b N z).2.2.2))]),none,some (58,(qj ((vw l i j a b N z).2.2.1)))]) (oc (rfl:[(.opt 1 0),(.agg [(iv ((vX l i j).1)),(iv ((vX l i j).2.1)),(.ssl (qO ((vX l i j).2.2)) 0 (((vX l i j).2.2).length))])]=qN (qZ [1,2] 59) [(.opt 0 0),(.agg [(iv ((vX l i j).1)),(iv ((vX l i j).2.1)),(.ssl (qO ((vX l i j).2.2)) 0 (((vX l i j).2.2).length))])]) (oc (rfl:[(iv (i:Int)),(.osl 2 0 N.length),(nv z),(iv a),(iv b),(.ssl (qG T) (q*5) r)]=qN (qZ [1,2] 59) [(iv (i:Int)),(.osl 1 0 N.length),(nv z),(iv a),(iv b),(.ssl (qG T) (q*5) r)]) (oc ((qH (qv _)).symm:(qj N)=qN (qZ [1,2] 59) (qj N)) oz))))<|qY (Wk.eq (show _=[ps 5 (.osl 0 0 M.length),ps 8 (.opt 1 0),ps 11 (iv ((vw l i j a b N z).1)),ps 17 (.ssl (yJ l) 0 l.length),ps 18 (nv l.length),ps 19 (nv i),ps 29 (.ssl (vF ((l.getD i qD).2)) 0 (((l.getD i qD).2).length)),ps 30 (nv (((l.getD i qD).2).length)),ps 31 (nv j),pb 0 58 (qj M),pb 1 91 [(iv (i:Int)),(.osl 59 0 (((vw l i j a b N z).2.2.1).length)),(nv ((vw l i j a b N z).2.2.2)),(iv ((vw l i j a b N z).2.1.1)),(iv ((vw l i j a b N z).2.1.2)),(.ssl (qG (aI3 l i j)) (((aI5 l i j a b N z).2.2.2)*5) ((aI3 l i j).length-(aI5 l i j a b N z).2.2.2))],pb 59 58 (qj ((vw l i j a b N z).2.2.1))] from by simp only [qH (qv _)])) ?_
     refine qA<|qL qC [.k8,.k1,.n,.r] [ps 39 (bv (!(decide (((vw l i j a b N z).1)=0))))]<|qU (bt h4)<|qF<|zF<|zY qC [] [.k2,.d,.k5,.d,.n,.d,.r] [ps 31 (iv (((j:Nat):Int)+1))] (oi (((j:Nat):Int)+1) (by omega) oz) ?_
     have hkp:=qce (hwr j (by omega)).1 (hwr j (by omega)).2 hok h4
     exact zR ⟨(j+1,((vw l i j a b N z).2.1.1),((vw l i j a b N z).2.1.2),((vw l i j a b N z).2.2.1),((vw l i j a b N z).2.2.2),(aI3 l i j),((aI5 l i j a b N z).2.2.2),((aI3 l i j).length-(aI5 l i j a b N z).2.2.2)),⟨by show j+1≤(l.getD i qD).2.length;omega,by rw [ZE (by omega),if_pos h4] at hBt;exact hBt,hkp.1,by show ((vw l i j a b N z).2.2.1).length≤(j+1)*65536;have hk2:((vw l i j a b N z).2.2.1).length≤N.length+65536:=hkp.2.1;omega,hkp.2.2.1,hkp.2.2.2⟩⟩ (Wk.trans (Wk.eq (show _=[ps 5 (.osl 0 0 M.length),ps 8 (.opt 1 0),ps 17 (.ssl (yJ l) 0 l.length),ps 18 (nv l.length),ps 19 (nv i),ps 29 (.ssl (vF ((l.getD i qD).2)) 0 (((l.getD i qD).2).length)),ps 30 (nv (((l.getD i qD).2).length)),ps 31 (nv (j+1)),pb 0 58 (qj M),pb 1 91 [(iv (i:Int)),(.osl 59 0 (((vw l i j a b N z).2.2.1).length)),(nv ((vw l i j a b N z).2.2.2)),(iv ((vw l i j a b N z).2.1.1)),(iv ((vw l i j a b N z).2.1.2)),(.ssl (qG (aI3 l i j)) (((aI5 l i j a b N z).2.2.2)*5) ((aI3 l i j).length-(aI5 l i j a b N z).2.2.2))],pb 59 58 (qj ((vw l i j a b N z).2.2.1))] from by rfl)) (Wk.ren3 _ 0 hc0 [0,1,59] [(kb 0,(qj M)),(kb 2,(qj ((vw l i j a b N z).2.2.1)))] (oc (qv _) (oc (qv _) (oz))) (by kernel_rfl) rfl rfl (by kernel_rfl) (by kernel_rfl))) (show (l.getD i qD).2.length-(j+1)<(l.getD i qD).2.length-j from by show (l.getD i qD).2.length-(j+1)<(l.getD i qD).2.length-j;omega)
    refine zY qC [(2,.call [1,2] [(.opt 0 0),(.agg [(iv ((vX l i j).1)),(iv ((vX l i j).2.1)),(.ssl (qO ((vX l i j).2.2)) 0 (((vX l i j).2.2).length))])] [some (91,[(iv (i:Int)),(.osl 1 0 N.length),(nv z),(iv a),(iv b),(.ssl (qG T) (q*5) r)]),some (58,(qj N))] (iv ((vw l i j a b N z).1)) [none,none,none])] [.k2,.d,.n,.k7,.d,.d,.d] [ps 11 (iv ((vw l i j a b N z).1))] (oc (qgj (vX l i j) (i:Int) a b T N z q r hyf (hwr j (by omega)).1 (hwr j (by omega)).2 hok (by omega) ⟨ha,hb⟩:PC Tryz.prog 35 [(.opt 0 0),(.agg [(iv ((vX l i j).1)),(iv ((vX l i j).2.1)),(.ssl (qO ((vX l i j).2.2)) 0 (((vX l i j).2.2).length))])] [some (91,[(iv (i:Int)),(.osl 1 0 N.length),(nv z),(iv a),(iv b),(.ssl (qG T) (q*5) r)]),some (58,(qj N))] (iv ((vw l i j a b N z).1)) [none,none,none]) (oc (rfl:[(.opt 1 0),(.agg [(iv ((vX l i j).1)),(iv ((vX l i j).2.1)),(.ssl (qO ((vX l i j).2.2)) 0 (((vX l i j).2.2).length))])]=qN (qZ [1,2] 59) [(.opt 0 0),(.agg [(iv ((vX l i j).1)),(iv ((vX l i j).2.1)),(.ssl (qO ((vX l i j).2.2)) 0 (((vX l i j).2.2).length))])]) (oc (rfl:[(iv (i:Int)),(.osl 2 0 N.length),(nv z),(iv a),(iv b),(.ssl (qG T) (q*5) r)]=qN (qZ [1,2] 59) [(iv (i:Int)),(.osl 1 0 N.length),(nv z),(iv a),(iv b),(.ssl (qG T) (q*5) r)]) (oc ((qH (qv _)).symm:(qj N)=qN (qZ [1,2] 59) (qj N)) oz))))<|qA<|qL qC [.k8,.k1,.n,.r] [ps 39 (bv (!(decide (((vw l i j a b N z).1)=0))))]<|qR (bf h4)<|qA<|qk qC [] [ps 2 sn,ps 3 (iv ((vw l i j a b N z).1))] (oz) ?_
    have hbE:vk (i:Int) (l.getD i qD).2 ((0,1),[],0)=(vw l i j a b N z):=by rw [← hBt,ZE (by omega),if_neg h4]
    have hR1:(zT l).1=(vw l i j a b N z).1:=by unfold zT;rw [if_pos h1,← hT,jk (by omega),hbE,if_neg h4]
    exact absurd (hR1.symm.trans h0) h4
   refine qU (zN h3)<|zS rfl rfl ?_
   have hbt:vk (i:Int) (l.getD i qD).2 ((0,1),[],0)=(0,(a,b),N,z):=by rw [← hBt,List.drop_eq_nil_of_le (by omega),vk]
   refine zY qC [(5,.app (some (qj N)) (some (qj (M++N))))] [.d,.n,.d,.k3,.d,.d,.d,.d,.d,.d,.d,.n] [ps 5 (.osl 51 0 (M.length+N.length)),pb 51 58 (qj (M++N))] (oc (qjo N:0+N.length*9≤((qj N)).length∧(((qj N)).drop 0).take (N.length*9)=(qj N)) (oc (YG _:((qj M)).length=M.length*9) (oc (by omega:(M.length+N.length)*80≤140737488355328∧M.length+N.length≤9223372036854775807) (oc ((wz noC M N).symm:(qj M)++(qj N)=(qj (M++N))) oz))))<|zF<|zY qC [] [.k3,.d,.n,.r] [ps 19 (iv (((i:Nat):Int)+1))] (oi (((i:Nat):Int)+1) (by omega) oz) ?_
   exact zR ⟨(i+1,M++N),⟨by show i+1≤l.length;omega,by rw [jk (by omega),hbt,if_pos rfl] at hT;rw [show (((i+1:Nat):Nat):Int)=(i:Int)+1 from by omega];exact hT,by show (M++N).length≤(i+1)*70000000;rw [List.length_append];omega⟩⟩ (Wk.trans (Wk.eq (show _=[ps 5 (.osl 51 0 ((M++N).length)),ps 17 (.ssl (yJ l) 0 l.length),ps 18 (nv l.length),ps 19 (nv (i+1)),pb 51 58 (qj (M++N))] from by rw [List.length_append];rfl)) (Wk.ren3 _ 0 hc0 [51] [(kb 0,(qj (M++N)))] (oc (qv _) (oz)) (by kernel_rfl) rfl rfl (by kernel_rfl) (by kernel_rfl))) (show l.length-(i+1)<l.length-i from by show l.length-(i+1)<l.length-i;omega)
  refine qU (zN h2)<|zS rfl rfl<|qA<|qk qC [] [ps 2 (.osl 0 0 M.length),ps 3 (iv 0),pb 0 58 (qj M)] (oz) ?_
  have hR:zT l=(0,M):=by unfold zT;rw [if_pos h1,← hT,List.drop_eq_nil_of_le (by omega),wU]
  rw [hR]
  exact zj fun cx_ a_ hI_=>zV (H':=[some (58,(qj M))]) (.inr rfl) (Wk.ren3 [ps 2 (.osl 0 0 M.length),ps 3 (iv 0),pb 0 58 (qj M)] 0 hc0 [0] [(kb 0,(qj M))] (oc (qv _) (oz)) (by kernel_rfl) rfl rfl (by kernel_rfl) (by kernel_rfl)) rfl (oc rfl (oz)) (fun cx_ a_ hI_=>zL (l':=[ps 2 (.osl 0 0 M.length),ps 3 (iv 0),pb 0 58 (qj M)]) (by kernel_rfl) cx_ a_ hI_) hI_
 refine qR (bf h1)<|qA<|qk qC [] [ps 2 sn,ps 3 (iv (qw l))] (oz) ?_
 have hR1:(zT l).1=qw l:=by unfold zT;rw [if_neg h1]
 exact absurd (hR1.symm.trans h0) h1
theorem qbo (l:List Vo) (hf:qca l) (h0:¬ (zT l).1=0):PC Tryz.prog 12 [(.ssl (yJ l) 0 l.length)] [] (.tup [(.ssl [] 0 0),(iv ((zT l).1))]) []:=by
 refine zI Tryz.func12 rfl (by kernel_rfl) (Nat.le_of_ble_eq_true rfl) (by kernel_rfl) (l0:=[ps 0 (.ssl (yJ l) 0 l.length)]) rfl (fun c0 Bor hc0=>?_)
 refine qA<|qL qC [.r] []<|qA<|qA<|vK qC 1 [.k1,.n] [ps 4 (iv (qw l))] (yD 24 (wX l hf) oz)<|qA<|qL qC [.k2,.n] [ps 15 (bv (!(decide ((qw l)=0))))] ?_
 by_cases h1:(qw l)=0
 ·refine qU (bt h1)<|qF<|qA<|qL qC [.k1,.d,.n,.d] [ps 5 sn]<|qA<|qA<|qL qC [.d,.k1,.n,.n,.n] [ps 17 (.ssl (yJ l) 0 l.length),ps 18 (nv l.length),ps 19 (iv 0)]<|qV<|qY (Wk.nil (s:=5) 58 (by kernel_rfl))<|qY (Wk.less (l':=[ps 5 (.osl 88 0 0),ps 17 (.ssl (yJ l) 0 l.length),ps 18 (nv l.length),ps 19 (iv 0),pb 88 58 []]) 89 (by kernel_rfl) (by kernel_rfl)) ?_
  have hwp:=WC h1
  refine qY (Wk.eq (show _=[ps 5 (.osl 88 0 (([]:List Nt).length)),ps 17 (.ssl (yJ l) 0 l.length),ps 18 (nv l.length),ps 19 (iv 0),pb 88 58 (qj ([]:List Nt))] from by rfl)) ?_
  refine yC (α:={x:Nat × List Nt // x.1≤l.length∧wU (l.drop x.1) (x.1:Int) x.2=wU l 0 []∧x.2.length≤x.1*70000000}) (fun x=>[ps 5 (.osl 0 0 x.1.2.length),ps 17 (.ssl (yJ l) 0 l.length),ps 18 (nv l.length),ps 19 (nv x.1.1),pb 0 58 (qj x.1.2)]) (fun x=>l.length-x.1.1) 1 ⟨(0,[]),⟨Nat.zero_le _,rfl,Nat.zero_le _⟩⟩ (Wk.ren3 _ 0 hc0 [88] [(kb 0,(qj ([]:List Nt)))] (oc (qv _) (oz)) (by kernel_rfl) rfl rfl (by kernel_rfl) (by kernel_rfl)) ?_
  rintro ⟨⟨i,M⟩,⟨hi,hT,hM⟩⟩
  dsimp only at hi hT hM
  refine qA<|qk qC [] [ps 5 (.osl 0 0 M.length),ps 17 (.ssl (yJ l) 0 l.length),ps 18 (nv l.length),ps 19 (nv i),ps 20 (bv (decide (((i:Nat):Int)<(l.length:Int)))),pb 0 58 (qj M)] (oz)<|qA ?_
  by_cases h2:(i:Int)<(l.length:Int)
  ·refine qR (zP h2)<|qF<|qA<|qV<|qA ?_
   have hfv:=hf.2 i (by omega)
   have hwv:=(hwp.2 i (by omega)).1
   have hwr:=(hwp.2 i (by omega)).2
   have hl64:=hwp.1
   refine zY qC [(1,.nat (i*2)),(2,.cells [(sv (st ((l.getD i qD).1))),(.ssl (vF ((l.getD i qD).2)) 0 (((l.getD i qD).2).length))])] [.k1,.n,.n,.k3,.d,.k1,.n] [ps 6 (nv i),ps 7 (.opt 33 0),pb 33 44 [(sv (st ((l.getD i qD).1))),(.ssl (vF ((l.getD i qD).2)) 0 (((l.getD i qD).2).length))]] (oc (by omega:(0:Int)≤(i:Int)∧(i:Int)<(l.length:Int)) (oc (by omega:0+(((i:Nat):Int):Int).toNat*2=(i*2)) (oc (yG voC 2 (fun _=>rfl) qD l i 0 2 (by omega) (by decide):(i*2)+2≤((yJ l)).length∧(((yJ l)).drop (i*2)).take 2=[(sv (st ((l.getD i qD).1))),(.ssl (vF ((l.getD i qD).2)) 0 (((l.getD i qD).2).length))]) oz))) ?_
   refine qA<|qL qC [.k1,.d,.k1,.n,.k5,.n] [ps 8 (.opt 81 0),pb 81 91 [(nv i),sn,(iv 0),(iv 0),(iv 1),sn]]<|qA<|qA<|qL qC [.k1,.d,.k4,.n,.n,.n,.k1,.d,.r] [ps 29 (.ssl (vF ((l.getD i qD).2)) 0 (((l.getD i qD).2).length)),ps 30 (nv (((l.getD i qD).2).length)),ps 31 (iv 0)]<|qV<|qY (Wk.nilc (B:=91) (cells:=[(nv i),sn,(iv 0),(iv 0),(iv 1),sn]) 81 1 58 (by kernel_rfl) rfl)<|qY (Wk.less (l':=[ps 5 (.osl 0 0 M.length),ps 8 (.opt 81 0),ps 17 (.ssl (yJ l) 0 l.length),ps 18 (nv l.length),ps 19 (nv i),ps 29 (.ssl (vF ((l.getD i qD).2)) 0 (((l.getD i qD).2).length)),ps 30 (nv (((l.getD i qD).2).length)),ps 31 (iv 0),pb 0 58 (qj M),pb 81 91 [(nv i),(.osl 129 0 0),(iv 0),(iv 0),(iv 1),sn],pb 129 58 []]) 130 (by kernel_rfl) (by kernel_rfl))<|qY (Wk.nilc (B:=91) (cells:=[(nv i),(.osl 129 0 0),(iv 0),(iv 0),(iv 1),sn]) 81 5 187 (by kernel_rfl) rfl)<|qY (Wk.less (l':=[ps 5 (.osl 0 0 M.length),ps 8 (.opt 81 0),ps 17 (.ssl (yJ l) 0 l.length),ps 18 (nv l.length),ps 19 (nv i),ps 29 (.ssl (vF ((l.getD i qD).2)) 0 (((l.getD i qD).2).length)),ps 30 (nv (((l.getD i qD).2).length)),ps 31 (iv 0),pb 0 58 (qj M),pb 81 91 [(nv i),(.osl 129 0 0),(iv 0),(iv 0),(iv 1),(.osl 130 0 0)],pb 129 58 [],pb 130 187 []]) 131 (by kernel_rfl) (by kernel_rfl))<|qY (Wk.frz2 (l':=[ps 5 (.osl 0 0 M.length),ps 8 (.opt 81 0),ps 17 (.ssl (yJ l) 0 l.length),ps 18 (nv l.length),ps 19 (nv i),ps 29 (.ssl (vF ((l.getD i qD).2)) 0 (((l.getD i qD).2).length)),ps 30 (nv (((l.getD i qD).2).length)),ps 31 (iv 0),pb 0 58 (qj M),pb 81 91 [(nv i),(.osl 129 0 0),(iv 0),(iv 0),(iv 1),(.ssl [] 0 0)],pb 129 58 [],(kb 130,none)]) 130 (T:=187) (cs:=[]) [(kb 0,(qj M))] (oc (qv _) (oz)) (by kernel_rfl) (by kernel_rfl) (fun p hp=>List.all_eq_true.1 (show [].all PV.shd=true from rfl) p hp) (by kernel_rfl)) ?_
   refine qY (Wk.less (l':=[ps 5 (.osl 0 0 M.length),ps 8 (.opt 81 0),ps 17 (.ssl (yJ l) 0 l.length),ps 18 (nv l.length),ps 19 (nv i),ps 29 (.ssl (vF ((l.getD i qD).2)) 0 (((l.getD i qD).2).length)),ps 30 (nv (((l.getD i qD).2).length)),ps 31 (iv 0),pb 0 58 (qj M),pb 81 91 [(nv i),(.osl 129 0 0),(iv 0),(iv 0),(iv 1),(.ssl [] 0 0)],pb 129 58 []]) 131 (by kernel_rfl) (by kernel_rfl))<|qY (Wk.eq (show _=[ps 5 (.osl 0 0 M.length),ps 8 (.opt 81 0),ps 17 (.ssl (yJ l) 0 l.length),ps 18 (nv l.length),ps 19 (nv i),ps 29 (.ssl (vF ((l.getD i qD).2)) 0 (((l.getD i qD).2).length)),ps 30 (nv (((l.getD i qD).2).length)),ps 31 (iv 0),pb 0 58 (qj M),pb 81 91 [(iv (i:Int)),(.osl 129 0 (([]:List Nt).length)),(nv 0),(iv 0),(iv 1),(.ssl (qG ([]:List Sp)) (0*5) 0)],pb 129 58 (qj ([]:List Nt))] from by rfl)) ?_
   refine yC (α:={x:Nat × Int × Int × List Nt × Nat × List Sp × Nat × Nat // x.1≤(l.getD i qD).2.length∧vk (i:Int) ((l.getD i qD).2.drop x.1) ((x.2.1,x.2.2.1),x.2.2.2.1,x.2.2.2.2.1)=vk (i:Int) (l.getD i qD).2 ((0,1),[],0)∧ZR (x.2.2.2.1,x.2.2.2.2.1,0)∧x.2.2.2.1.length≤x.1*65536∧I64 x.2.1∧I64 x.2.2.1}) (fun x=>[ps 5 (.osl 0 0 M.length),ps 8 (.opt 1 0),ps 17 (.ssl (yJ l) 0 l.length),ps 18 (nv l.length),ps 19 (nv i),ps 29 (.ssl (vF ((l.getD i qD).2)) 0 (((l.getD i qD).2).length)),ps 30 (nv (((l.getD i qD).2).length)),ps 31 (nv x.1.1),pb 0 58 (qj M),pb 1 91 [(iv (i:Int)),(.osl 2 0 x.1.2.2.2.1.length),(nv x.1.2.2.2.2.1),(iv x.1.2.1),(iv x.1.2.2.1),(.ssl (qG x.1.2.2.2.2.2.1) (x.1.2.2.2.2.2.2.1*5) x.1.2.2.2.2.2.2.2)],pb 2 58 (qj x.1.2.2.2.1)]) (fun x=>(l.getD i qD).2.length-x.1.1) 3 ⟨(0,0,1,[],0,[],0,0),⟨Nat.zero_le _,rfl,⟨Nat.le_refl _,fun n hn=>by cases hn⟩,Nat.zero_le _,by unfold I64;decide,by unfold I64;decide⟩⟩ (Wk.ren3 _ 0 hc0 [0,81,129] [(kb 0,(qj M)),(kb 2,(qj ([]:List Nt)))] (oc (qv _) (oc (qv _) (oz))) (by kernel_rfl) rfl rfl (by kernel_rfl) (by kernel_rfl)) ?_
   rintro ⟨⟨j,a,b,N,z,T,q,r⟩,⟨hj,hBt,hok,hNl,ha,hb⟩⟩
   dsimp only at hj hBt hok hNl ha hb
   refine qA<|qk qC [] [ps 5 (.osl 0 0 M.length),ps 8 (.opt 1 0),ps 17 (.ssl (yJ l) 0 l.length),ps 18 (nv l.length),ps 19 (nv i),ps 29 (.ssl (vF ((l.getD i qD).2)) 0 (((l.getD i qD).2).length)),ps 30 (nv (((l.getD i qD).2).length)),ps 31 (nv j),ps 32 (bv (decide (((j:Nat):Int)<((((l.getD i qD).2).length:Nat):Int)))),pb 0 58 (qj M),pb 1 91 [(iv (i:Int)),(.osl 2 0 N.length),(nv z),(iv a),(iv b),(.ssl (qG T) (q*5) r)],pb 2 58 (qj N)] (oz)<|qA ?_
   by_cases h3:(j:Int)<((((l.getD i qD).2).length:Nat):Int)
   ·refine qR (zP h3)<|qF<|qA<|qV<|qA<|zY qC [(0,.nat (j*3)),(1,.cells [(iv ((vX l i j).1)),(iv ((vX l i j).2.1)),(.ssl (qO ((vX l i j).2.2)) 0 (((vX l i j).2.2).length))])] [.k2,.n,.k6,.d,.k3,.n] [ps 10 (.opt 27 0),pb 27 47 [(iv ((vX l i j).1)),(iv ((vX l i j).2.1)),(.ssl (qO ((vX l i j).2.2)) 0 (((vX l i j).2.2).length))]] (oc (by omega:(0:Int)≤(j:Int)∧(j:Int)<((((l.getD i qD).2).length:Nat):Int)) (oc (by omega:0+(((j:Nat):Int):Int).toNat*3=(j*3)) (oc (yG brC 3 (fun _=>rfl) zB ((l.getD i qD).2) j 0 3 (by omega) (by decide):(j*3)+3≤((vF ((l.getD i qD).2))).length∧(((vF ((l.getD i qD).2))).drop (j*3)).take 3=[(iv ((vX l i j).1)),(iv ((vX l i j).2.1)),(.ssl (qO ((vX l i j).2.2)) 0 (((vX l i j).2.2).length))]) oz))) ?_
    refine qA ?_
    have hyf:=hfv.2.2 j (by omega)
    by_cases h4:((vw l i j a b N z).1)=0
    ·refine zY qC [(2,.call [1,2] [(.opt 0 0),(.agg [(iv ((vX l i j).1)),(iv ((vX l i j).2.1)),(.ssl (qO ((vX l i j).2.2)) 0 (((vX l i j).2.2).length))])] [some (91,[(iv (i:Int)),(.osl 1 0 N.length),(nv z),(iv a),(iv b),(.ssl (qG T) (q*5) r)]),some (58,(qj N))] (iv ((vw l i j a b N z).1)) [some (91,[(iv (i:Int)),(.osl 2 0 (((vw l i j a b N z).2.2.1).length)),(nv ((vw l i j a b N z).2.2.2)),(iv ((vw l i j a b N z).2.1.1)),(iv ((vw l i j a b N z).2.1.2)),(.ssl (qG (aI3 l i j)) (((aI5 l i j a b N z).2.2.2)*5) ((aI3 l i j).length-(aI5 l i j a b N z).2.2.2))]),none,some (58,(qj ((vw l i j a b N z).2.2.1)))])] [.k2,.d,.n,.k7,.d,.n,.d,.d,.n] [ps 11 (iv ((vw l i j a b N z).1)),pb 1 91 [(iv (i:Int)),(.osl 59 0 (((vw l i j a b N z).2.2.1).length)),(nv ((vw l i j a b N z).2.2.2)),(iv ((vw l i j a b N z).2.1.1)),(iv ((vw l i j a b N z).2.1.2)),(.ssl (qG (aI3 l i j)) (((aI5 l i j a b N z).2.2.2)*5) ((aI3 l i j).length-(aI5 l i j a b N z).2.2.2))],pb 59 58 (qN (yI [1,2] 59) (qj ((vw l i j a b N z).2.2.1)))] (oc (qig (vX l i j) (i:Int) a b T N z q r hyf (hwr j (by omega)).1 (hwr j (by omega)).2 hok (by omega) ⟨ha,hb⟩ h4:PC Tryz.prog 35 [(.opt 0 0),(.agg [(iv ((vX l i j).1)),(iv ((vX l i j).2.1)),(.ssl (qO ((vX l i j).2.2)) 0 (((vX l i j).2.2).length))])] [some (91,[(iv (i:Int)),(.osl 1 0 N.length),(nv z),(iv a),(iv b),(.ssl (qG T) (q*5) r)]),some (58,(qj N))] (iv ((vw l i j a b N z).1)) [some (91,[(iv (i:Int)),(.osl 2 0 (((vw l i j a b N z).2.2.1).length)),(nv ((vw l i j a b N z).2.2.2)),(iv ((vw l i j a b N z).2.1.1)),(iv ((vw l i j a b N z).2.1.2)),(.ssl (qG (aI3 l i j)) (((aI5 l i j a b N z).2.2.2)*5) ((aI3 l i j).length-(aI5 l i j a b N z).2.2.2))]),none,some (58,(qj ((vw l i j a b N z).2.2.1)))]) (oc (rfl:[(.opt 1 0),(.agg [(iv ((vX l i j).1)),(iv ((vX l i j).2.1)),(.ssl (qO ((vX l i j).2.2)) 0 (((vX l i j).2.2).length))])]=qN (qZ [1,2] 59) [(.opt 0 0),(.agg [(iv ((vX l i j).1)),(iv ((vX l i j).2.1)),(.ssl (qO ((vX l i j).2.2)) 0 (((vX l i j).2.2).length))])]) (oc (rfl:[(iv (i:Int)),(.osl 2 0 N.length),(nv z),(iv a),(iv b),(.ssl (qG T) (q*5) r)]=qN (qZ [1,2] 59) [(iv (i:Int)),(.osl 1 0 N.length),(nv z),(iv a),(iv b),(.ssl (qG T) (q*5) r)]) (oc ((qH (qv _)).symm:(qj N)=qN (qZ [1,2] 59) (qj N)) oz))))<|qY (Wk.eq (show _=[ps 5 (.osl 0 0 M.length),ps 8 (.opt 1 0),ps 11 (iv ((vw l i j a b N z).1)),ps 17 (.ssl (yJ l) 0 l.length),ps 18 (nv l.length),ps 19 (nv i),ps 29 (.ssl (vF ((l.getD i qD).2)) 0 (((l.getD i qD).2).length)),ps 30 (nv (((l.getD i qD).2).length)),ps 31 (nv j),pb 0 58 (qj M),pb 1 91 [(iv (i:Int)),(.osl 59 0 (((vw l i j a b N z).2.2.1).length)),(nv ((vw l i j a b N z).2.2.2)),(iv ((vw l i j a b N z).2.1.1)),(iv ((vw l i j a b N z).2.1.2)),(.ssl (qG (aI3 l i j)) (((aI5 l i j a b N z).2.2.2)*5) ((aI3 l i j).length-(aI5 l i j a b N z).2.2.2))],pb 59 58 (qj ((vw l i j a b N z).2.2.1))] from by simp only [qH (qv _)])) ?_
     refine qA<|qL qC [.k8,.k1,.n,.r] [ps 39 (bv (!(decide (((vw l i j a b N z).1)=0))))]<|qU (bt h4)<|qF<|zF<|zY qC [] [.k2,.d,.k5,.d,.n,.d,.r] [ps 31 (iv (((j:Nat):Int)+1))] (oi (((j:Nat):Int)+1) (by omega) oz) ?_
     have hkp:=qce (hwr j (by omega)).1 (hwr j (by omega)).2 hok h4
     exact zR ⟨(j+1,((vw l i j a b N z).2.1.1),((vw l i j a b N z).2.1.2),((vw l i j a b N z).2.2.1),((vw l i j a b N z).2.2.2),(aI3 l i j),((aI5 l i j a b N z).2.2.2),((aI3 l i j).length-(aI5 l i j a b N z).2.2.2)),⟨by show j+1≤(l.getD i qD).2.length;omega,by rw [ZE (by omega),if_pos h4] at hBt;exact hBt,hkp.1,by show ((vw l i j a b N z).2.2.1).length≤(j+1)*65536;have hk2:((vw l i j a b N z).2.2.1).length≤N.length+65536:=hkp.2.1;omega,hkp.2.2.1,hkp.2.2.2⟩⟩ (Wk.trans (Wk.eq (show _=[ps 5 (.osl 0 0 M.length),ps 8 (.opt 1 0),ps 17 (.ssl (yJ l) 0 l.length),ps 18 (nv l.length),ps 19 (nv i),ps 29 (.ssl (vF ((l.getD i qD).2)) 0 (((l.getD i qD).2).length)),ps 30 (nv (((l.getD i qD).2).length)),ps 31 (nv (j+1)),pb 0 58 (qj M),pb 1 91 [(iv (i:Int)),(.osl 59 0 (((vw l i j a b N z).2.2.1).length)),(nv ((vw l i j a b N z).2.2.2)),(iv ((vw l i j a b N z).2.1.1)),(iv ((vw l i j a b N z).2.1.2)),(.ssl (qG (aI3 l i j)) (((aI5 l i j a b N z).2.2.2)*5) ((aI3 l i j).length-(aI5 l i j a b N z).2.2.2))],pb 59 58 (qj ((vw l i j a b N z).2.2.1))] from by rfl)) (Wk.ren3 _ 0 hc0 [0,1,59] [(kb 0,(qj M)),(kb 2,(qj ((vw l i j a b N z).2.2.1)))] (oc (qv _) (oc (qv _) (oz))) (by kernel_rfl) rfl rfl (by kernel_rfl) (by kernel_rfl))) (show (l.getD i qD).2.length-(j+1)<(l.getD i qD).2.length-j from by show (l.getD i qD).2.length-(j+1)<(l.getD i qD).2.length-j;omega)
    refine zY qC [(2,.call [1,2] [(.opt 0 0),(.agg [(iv ((vX l i j).1)),(iv ((vX l i j).2.1)),(.ssl (qO ((vX l i j).2.2)) 0 (((vX l i j).2.2).length))])] [some (91,[(iv (i:Int)),(.osl 1 0 N.length),(nv z),(iv a),(iv b),(.ssl (qG T) (q*5) r)]),some (58,(qj N))] (iv ((vw l i j a b N z).1)) [none,none,none])] [.k2,.d,.n,.k7,.d,.d,.d] [ps 11 (iv ((vw l i j a b N z).1))] (oc (qgj (vX l i j) (i:Int) a b T N z q r hyf (hwr j (by omega)).1 (hwr j (by omega)).2 hok (by omega) ⟨ha,hb⟩:PC Tryz.prog 35 [(.opt 0 0),(.agg [(iv ((vX l i j).1)),(iv ((vX l i j).2.1)),(.ssl (qO ((vX l i j).2.2)) 0 (((vX l i j).2.2).length))])] [some (91,[(iv (i:Int)),(.osl 1 0 N.length),(nv z),(iv a),(iv b),(.ssl (qG T) (q*5) r)]),some (58,(qj N))] (iv ((vw l i j a b N z).1)) [none,none,none]) (oc (rfl:[(.opt 1 0),(.agg [(iv ((vX l i j).1)),(iv ((vX l i j).2.1)),(.ssl (qO ((vX l i j).2.2)) 0 (((vX l i j).2.2).length))])]=qN (qZ [1,2] 59) [(.opt 0 0),(.agg [(iv ((vX l i j).1)),(iv ((vX l i j).2.1)),(.ssl (qO ((vX l i j).2.2)) 0 (((vX l i j).2.2).length))])]) (oc (rfl:[(iv (i:Int)),(.osl 2 0 N.length),(nv z),(iv a),(iv b),(.ssl (qG T) (q*5) r)]=qN (qZ [1,2] 59) [(iv (i:Int)),(.osl 1 0 N.length),(nv z),(iv a),(iv b),(.ssl (qG T) (q*5) r)]) (oc ((qH (qv _)).symm:(qj N)=qN (qZ [1,2] 59) (qj N)) oz))))<|qA<|qL qC [.k8,.k1,.n,.r] [ps 39 (bv (!(decide (((vw l i j a b N z).1)=0))))]<|qR (bf h4)<|qA<|qk qC [] [ps 2 sn,ps 3 (iv ((vw l i j a b N z).1))] (oz) ?_
    have hbE:vk (i:Int) (l.getD i qD).2 ((0,1),[],0)=(vw l i j a b N z):=by rw [← hBt,ZE (by omega),if_neg h4]
    have hR1:(zT l).1=(vw l i j a b N z).1:=by unfold zT;rw [if_pos h1,← hT,jk (by omega),hbE,if_neg h4]
    rw [hR1]
    exact zj fun cx_ a_ hI_=>qy (qy (rt hc0 [ps 2 sn,ps 3 (iv ((vw l i j a b N z).1))] [] hI_))
   refine qU (zN h3)<|zS rfl rfl ?_
   have hbt:vk (i:Int) (l.getD i qD).2 ((0,1),[],0)=(0,(a,b),N,z):=by rw [← hBt,List.drop_eq_nil_of_le (by omega),vk]
   refine zY qC [(5,.app (some (qj N)) (some (qj (M++N))))] [.d,.n,.d,.k3,.d,.d,.d,.d,.d,.d,.d,.n] [ps 5 (.osl 51 0 (M.length+N.length)),pb 51 58 (qj (M++N))] (oc (qjo N:0+N.length*9≤((qj N)).length∧(((qj N)).drop 0).take (N.length*9)=(qj N)) (oc (YG _:((qj M)).length=M.length*9) (oc (by omega:(M.length+N.length)*80≤140737488355328∧M.length+N.length≤9223372036854775807) (oc ((wz noC M N).symm:(qj M)++(qj N)=(qj (M++N))) oz))))<|zF<|zY qC [] [.k3,.d,.n,.r] [ps 19 (iv (((i:Nat):Int)+1))] (oi (((i:Nat):Int)+1) (by omega) oz) ?_
   exact zR ⟨(i+1,M++N),⟨by show i+1≤l.length;omega,by rw [jk (by omega),hbt,if_pos rfl] at hT;rw [show (((i+1:Nat):Nat):Int)=(i:Int)+1 from by omega];exact hT,by show (M++N).length≤(i+1)*70000000;rw [List.length_append];omega⟩⟩ (Wk.trans (Wk.eq (show _=[ps 5 (.osl 51 0 ((M++N).length)),ps 17 (.ssl (yJ l) 0 l.length),ps 18 (nv l.length),ps 19 (nv (i+1)),pb 51 58 (qj (M++N))] from by rw [List.length_append];rfl)) (Wk.ren3 _ 0 hc0 [51] [(kb 0,(qj (M++N)))] (oc (qv _) (oz)) (by kernel_rfl) rfl rfl (by kernel_rfl) (by kernel_rfl))) (show l.length-(i+1)<l.length-i from by show l.length-(i+1)<l.length-i;omega)
  refine qU (zN h2)<|zS rfl rfl<|qA<|qk qC [] [ps 2 (.osl 0 0 M.length),ps 3 (iv 0),pb 0 58 (qj M)] (oz) ?_
  have hR:zT l=(0,M):=by unfold zT;rw [if_pos h1,← hT,List.drop_eq_nil_of_le (by omega),wU]
  exact absurd (congrArg Prod.fst hR) h0
 refine qR (bf h1)<|qA<|qk qC [] [ps 2 sn,ps 3 (iv (qw l))] (oz) ?_
 have hR1:(zT l).1=qw l:=by unfold zT;rw [if_neg h1]
 rw [hR1]
 exact yA hc0 [2,3] []
abbrev jJ (l:List Vo) (i j:Nat):=(l.getD i qD).2.getD j zB
abbrev aE2 (l:List Vo) (i j:Nat):=Fr.make (jJ l i j).1 (jJ l i j).2.1
abbrev aE3 (l:List Vo) (i j:Nat) (a b:Int):=Fr.plus a b (aE2 l i j).1 (aE2 l i j).2.1
abbrev Yw (l:List Vo) (i j:Nat) (a b:Int) (N:List Nt) (z:Nat):=nbT (i:Int) (jJ l i j) ((a,b),N,z)
theorem qhl (l:List Vo) (hf:qca l) (hwd:wdVs l):PC Tryz.prog 13 [(.ssl (yJ l) 0 l.length)] [] (if (zT l).1=0 then (.tup [(.osl 0 0 ((zT l).2.length)),(iv 0)]) else (.tup [(.ssl [] 0 0),(iv ((zT l).1))])) (if (zT l).1=0 then [some (58,(qj ((zT l).2)))] else []):=by
 refine zI Tryz.func13 rfl (by kernel_rfl) (le_if (Nat.le_of_ble_eq_true rfl) (Nat.le_of_ble_eq_true rfl)) (by kernel_rfl) (l0:=[ps 0 (.ssl (yJ l) 0 l.length)]) rfl (fun c0 Bor hc0=>?_)
 refine qA<|qk qC [] [ps 0 (.ssl (yJ l) 0 l.length)] (oz)<|qA<|qA<|ZF qC 1 [ps 0 (.ssl (yJ l) 0 l.length),ps 4 (iv (qw l))] (yD 24 (qcs l hf hwd) oz)<|qA<|qk qC [] [ps 0 (.ssl (yJ l) 0 l.length),ps 4 (iv (qw l)),ps 17 (bv (!(decide ((qw l)=0))))] (oz) ?_
 by_cases h1:(qw l)=0
 ·refine qU (bt h1)<|qF<|qA<|qk qC [] [ps 0 (.ssl (yJ l) 0 l.length),ps 5 sn] (oz)<|qA<|qA<|qk qC [] [ps 5 sn,ps 19 (.ssl (yJ l) 0 l.length),ps 20 (nv l.length),ps 21 (iv 0)] (oz)<|qV ?_
  have hwE:qw l=0:=h1
  have hwp:=WC hwE
  refine qY (Wk.nil (s:=5) 58 (by kernel_rfl))<|qY (Wk.less (l':=[ps 5 (.osl 88 0 0),ps 19 (.ssl (yJ l) 0 l.length),ps 20 (nv l.length),ps 21 (iv 0),pb 88 58 []]) 89 (by kernel_rfl) (by kernel_rfl))<|qY (Wk.eq (show _=[ps 5 (.osl 88 0 (([]:List Nt).length)),ps 19 (.ssl (yJ l) 0 l.length),ps 20 (nv l.length),ps 21 (iv 0),pb 88 58 (qj ([]:List Nt))] from by rfl)) ?_
  refine yC (α:={x:Nat × List Nt // x.1≤l.length∧wU (l.drop x.1) (x.1:Int) x.2=wU l 0 []∧x.2.length≤x.1*70000000}) (fun x=>[ps 5 (.osl 0 0 x.1.2.length),ps 19 (.ssl (yJ l) 0 l.length),ps 20 (nv l.length),ps 21 (nv x.1.1),pb 0 58 (qj x.1.2)]) (fun x=>l.length-x.1.1) 1 ⟨(0,[]),⟨Nat.zero_le _,rfl,Nat.zero_le _⟩⟩ (Wk.ren3 _ 0 hc0 [88] [(kb 0,(qj ([]:List Nt)))] (oc (qv _) (oz)) (by kernel_rfl) rfl rfl (by kernel_rfl) (by kernel_rfl)) ?_
  rintro ⟨⟨i,M⟩,⟨hi,hT,hM⟩⟩
  dsimp only at hi hT hM
  refine qA<|qk qC [] [ps 5 (.osl 0 0 M.length),ps 19 (.ssl (yJ l) 0 l.length),ps 20 (nv l.length),ps 21 (nv i),ps 22 (bv (decide (((i:Nat):Int)<(l.length:Int)))),pb 0 58 (qj M)] (oz)<|qA ?_
  by_cases h2:(i:Int)<(l.length:Int)
  ·refine qR (zP h2)<|qF<|qA<|qV<|qA ?_
   have hfv:=hf.2 i (by omega)
   refine qk qC [(1,.nat (i*2)),(2,.cells [(sv (st ((l.getD i qD).1))),(.ssl (vF ((l.getD i qD).2)) 0 (((l.getD i qD).2).length))])] [ps 5 (.osl 0 0 M.length),ps 6 (nv i),ps 7 (.opt 33 0),ps 19 (.ssl (yJ l) 0 l.length),ps 20 (nv l.length),ps 21 (nv i),pb 0 58 (qj M),pb 33 44 [(sv (st ((l.getD i qD).1))),(.ssl (vF ((l.getD i qD).2)) 0 (((l.getD i qD).2).length))]] (oc (by omega:(0:Int)≤(i:Int)∧(i:Int)<(l.length:Int)) (oc (by omega:0+(((i:Nat):Int):Int).toNat*2=(i*2)) (oc (yG voC 2 (fun _=>rfl) qD l i 0 2 (by omega) (by decide):(i*2)+2≤((yJ l)).length∧(((yJ l)).drop (i*2)).take 2=[(sv (st ((l.getD i qD).1))),(.ssl (vF ((l.getD i qD).2)) 0 (((l.getD i qD).2).length))]) oz))) ?_
   refine qA<|qk qC [] [ps 5 (.osl 0 0 M.length),ps 6 (nv i),ps 7 (.opt 33 0),ps 8 sn,ps 19 (.ssl (yJ l) 0 l.length),ps 20 (nv l.length),ps 21 (nv i),pb 0 58 (qj M),pb 33 44 [(sv (st ((l.getD i qD).1))),(.ssl (vF ((l.getD i qD).2)) 0 (((l.getD i qD).2).length))]] (oz)<|qA<|qk qC [] [ps 5 (.osl 0 0 M.length),ps 6 (nv i),ps 7 (.opt 33 0),ps 8 sn,ps 9 (iv 0),ps 10 (.opt 73 0),ps 19 (.ssl (yJ l) 0 l.length),ps 20 (nv l.length),ps 21 (nv i),pb 0 58 (qj M),pb 33 44 [(sv (st ((l.getD i qD).1))),(.ssl (vF ((l.getD i qD).2)) 0 (((l.getD i qD).2).length))],pb 73 56 [(iv 0),(iv 1)]] (oz)<|qA<|qA<|qk qC [] [ps 5 (.osl 0 0 M.length),ps 6 (nv i),ps 8 sn,ps 9 (iv 0),ps 10 (.opt 73 0),ps 19 (.ssl (yJ l) 0 l.length),ps 20 (nv l.length),ps 21 (nv i),ps 28 (.ssl (vF ((l.getD i qD).2)) 0 (((l.getD i qD).2).length)),ps 29 (nv (((l.getD i qD).2).length)),ps 30 (iv 0),pb 0 58 (qj M),pb 73 56 [(iv 0),(iv 1)]] (oz)<|qV ?_
   have hwv:=(hwp.2 i (by omega)).1
   have hwr:=(hwp.2 i (by omega)).2
   have hl64:=hwp.1
   refine qY (Wk.nil (s:=8) 58 (by kernel_rfl))<|qY (Wk.less (l':=[ps 5 (.osl 0 0 M.length),ps 6 (nv i),ps 8 (.osl 129 0 0),ps 9 (iv 0),ps 10 (.opt 73 0),ps 19 (.ssl (yJ l) 0 l.length),ps 20 (nv l.length),ps 21 (nv i),ps 28 (.ssl (vF ((l.getD i qD).2)) 0 (((l.getD i qD).2).length)),ps 29 (nv (((l.getD i qD).2).length)),ps 30 (iv 0),pb 0 58 (qj M),pb 73 56 [(iv 0),(iv 1)],pb 129 58 []]) 130 (by kernel_rfl) (by kernel_rfl))<|qY (Wk.eq (show _=[ps 5 (.osl 0 0 M.length),ps 6 (nv i),ps 8 (.osl 129 0 (([]:List Nt).length)),ps 9 (iv 0),ps 10 (.opt 73 0),ps 19 (.ssl (yJ l) 0 l.length),ps 20 (nv l.length),ps 21 (nv i),ps 28 (.ssl (vF ((l.getD i qD).2)) 0 (((l.getD i qD).2).length)),ps 29 (nv (((l.getD i qD).2).length)),ps 30 (iv 0),pb 0 58 (qj M),pb 73 56 [(iv 0),(iv 1)],pb 129 58 (qj ([]:List Nt))] from by rfl)) ?_
   refine yC (α:={x:Nat × Int × Int × List Nt × Nat // x.1≤(l.getD i qD).2.length∧vk (i:Int) ((l.getD i qD).2.drop x.1) ((x.2.1,x.2.2.1),x.2.2.2.1,x.2.2.2.2)=vk (i:Int) (l.getD i qD).2 ((0,1),[],0)∧ZR (x.2.2.2.1,x.2.2.2.2,0)∧x.2.2.2.1.length≤x.1*65536∧I64 x.2.1∧I64 x.2.2.1}) (fun x=>[ps 5 (.osl 0 0 M.length),ps 6 (nv i),ps 8 (.osl 2 0 x.1.2.2.2.1.length),ps 9 (nv x.1.2.2.2.2),ps 10 (.opt 1 0),ps 19 (.ssl (yJ l) 0 l.length),ps 20 (nv l.length),ps 21 (nv i),ps 28 (.ssl (vF ((l.getD i qD).2)) 0 (((l.getD i qD).2).length)),ps 29 (nv (((l.getD i qD).2).length)),ps 30 (nv x.1.1),pb 0 58 (qj M),pb 1 56 [(iv x.1.2.1),(iv x.1.2.2.1)],pb 2 58 (qj x.1.2.2.2.1)]) (fun x=>(l.getD i qD).2.length-x.1.1) 3 ⟨(0,0,1,[],0),⟨Nat.zero_le _,rfl,⟨Nat.le_refl _,fun n hn=>(by cases hn)⟩,Nat.zero_le _,by show I64 0;unfold I64;decide,by show I64 1;unfold I64;decide⟩⟩ (Wk.ren3 _ 0 hc0 [0,73,129] [(kb 0,(qj M)),(kb 2,(qj ([]:List Nt)))] (oc (qv _) (oc (qv _) (oz))) (by kernel_rfl) rfl rfl (by kernel_rfl) (by kernel_rfl)) ?_
   rintro ⟨⟨j,a,b,N,z⟩,⟨hj,hBt,hok,hNl,ha,hb⟩⟩
   dsimp only at hj hBt hok hNl ha hb
   refine qA<|qk qC [] [ps 5 (.osl 0 0 M.length),ps 6 (nv i),ps 8 (.osl 2 0 N.length),ps 9 (nv z),ps 10 (.opt 1 0),ps 19 (.ssl (yJ l) 0 l.length),ps 20 (nv l.length),ps 21 (nv i),ps 28 (.ssl (vF ((l.getD i qD).2)) 0 (((l.getD i qD).2).length)),ps 29 (nv (((l.getD i qD).2).length)),ps 30 (nv j),ps 31 (bv (decide (((j:Nat):Int)<((((l.getD i qD).2).length:Nat):Int)))),pb 0 58 (qj M),pb 1 56 [(iv a),(iv b)],pb 2 58 (qj N)] (oz)<|qA ?_
   by_cases h3:(j:Int)<((((l.getD i qD).2).length:Nat):Int)
   ·refine qR (zP h3)<|qF<|qA<|qV<|qA ?_
    have hbg:BarG (jJ l i j):=bar_g (hfv.2.2 j (by omega)) (hwd i (by omega) j (by omega)).1 (hwr j (by omega)).1 (hwr j (by omega)).2
    refine qk qC [(0,.nat (j*3)),(1,.cells [(iv ((jJ l i j).1)),(iv ((jJ l i j).2.1)),(.ssl (qO ((jJ l i j).2.2)) 0 (((jJ l i j).2.2).length))])] [ps 5 (.osl 0 0 M.length),ps 6 (nv i),ps 8 (.osl 2 0 N.length),ps 9 (nv z),ps 10 (.opt 1 0),ps 12 (.opt 27 0),ps 19 (.ssl (yJ l) 0 l.length),ps 20 (nv l.length),ps 21 (nv i),ps 28 (.ssl (vF ((l.getD i qD).2)) 0 (((l.getD i qD).2).length)),ps 29 (nv (((l.getD i qD).2).length)),ps 30 (nv j),pb 0 58 (qj M),pb 1 56 [(iv a),(iv b)],pb 2 58 (qj N),pb 27 47 [(iv ((jJ l i j).1)),(iv ((jJ l i j).2.1)),(.ssl (qO ((jJ l i j).2.2)) 0 (((jJ l i j).2.2).length))]] (oc (by omega:(0:Int)≤(j:Int)∧(j:Int)<((((l.getD i qD).2).length:Nat):Int)) (oc (by omega:0+(((j:Nat):Int):Int).toNat*3=(j*3)) (oc (yG brC 3 (fun _=>rfl) zB ((l.getD i qD).2) j 0 3 (by omega) (by decide):(j*3)+3≤((vF ((l.getD i qD).2))).length∧(((vF ((l.getD i qD).2))).drop (j*3)).take 3=[(iv ((jJ l i j).1)),(iv ((jJ l i j).2.1)),(.ssl (qO ((jJ l i j).2.2)) 0 (((jJ l i j).2.2).length))]) oz))) ?_
    refine qA<|qk qC [] [ps 5 (.osl 0 0 M.length),ps 6 (nv i),ps 8 (.osl 2 0 N.length),ps 9 (nv z),ps 10 (.opt 1 0),ps 12 (.opt 27 0),ps 19 (.ssl (yJ l) 0 l.length),ps 20 (nv l.length),ps 21 (nv i),ps 28 (.ssl (vF ((l.getD i qD).2)) 0 (((l.getD i qD).2).length)),ps 29 (nv (((l.getD i qD).2).length)),ps 30 (nv j),pb 0 58 (qj M),pb 1 56 [(iv a),(iv b)],pb 2 58 (qj N),pb 27 47 [(iv ((jJ l i j).1)),(iv ((jJ l i j).2.1)),(.ssl (qO ((jJ l i j).2.2)) 0 (((jJ l i j).2.2).length))]] (oz)<|qA ?_
    by_cases h4:((Yw l i j a b N z).1)=0
    ·refine qk qC [(5,.call [2] [(nv i),(.agg [(iv ((jJ l i j).1)),(iv ((jJ l i j).2.1)),(.ssl (qO ((jJ l i j).2.2)) 0 (((jJ l i j).2.2).length))]),(.osl 0 0 N.length),(nv z),(.agg [(iv a),(iv b)])] [some (58,(qj N))] (.tup [(.osl 1 0 ((Yw l i j a b N z).2.1.length)),(nv ((Yw l i j a b N z).2.2)),(.agg [(iv ((aE3 l i j a b).1)),(iv ((aE3 l i j a b).2.1))]),(iv ((aE3 l i j a b).2.2))]) [none,some (58,(qj ((Yw l i j a b N z).2.1))),none])] [ps 5 (.osl 0 0 M.length),ps 6 (nv i),ps 8 (.osl 91 0 ((Yw l i j a b N z).2.1.length)),ps 9 (nv ((Yw l i j a b N z).2.2)),ps 10 (.opt 1 0),ps 13 (iv ((aE3 l i j a b).2.2)),ps 19 (.ssl (yJ l) 0 l.length),ps 20 (nv l.length),ps 21 (nv i),ps 28 (.ssl (vF ((l.getD i qD).2)) 0 (((l.getD i qD).2).length)),ps 29 (nv (((l.getD i qD).2).length)),ps 30 (nv j),pb 0 58 (qj M),pb 1 56 [(iv ((aE3 l i j a b).1)),(iv ((aE3 l i j a b).2.1))],pb 91 58 (qN (yI [2] 91) (qj ((Yw l i j a b N z).2.1)))] (oc (pc_yes (qih (jJ l i j) (i:Int) a b N z hbg hok (by omega) ⟨ha,hb⟩ _ rfl (Yw l i j a b N z) rfl) h4:PC Tryz.prog 36 [(nv i),(.agg [(iv ((jJ l i j).1)),(iv ((jJ l i j).2.1)),(.ssl (qO ((jJ l i j).2.2)) 0 (((jJ l i j).2.2).length))]),(.osl 0 0 N.length),(nv z),(.agg [(iv a),(iv b)])] [some (58,(qj N))] (.tup [(.osl 1 0 ((Yw l i j a b N z).2.1.length)),(nv ((Yw l i j a b N z).2.2)),(.agg [(iv ((aE3 l i j a b).1)),(iv ((aE3 l i j a b).2.1))]),(iv ((aE3 l i j a b).2.2))]) [none,some (58,(qj ((Yw l i j a b N z).2.1))),none]) (oc (rfl:[(nv i),(.agg [(iv ((jJ l i j).1)),(iv ((jJ l i j).2.1)),(.ssl (qO ((jJ l i j).2.2)) 0 (((jJ l i j).2.2).length))]),(.osl 2 0 N.length),(nv z),(.agg [(iv a),(iv b)])]=qN (qZ [2] 91) [(nv i),(.agg [(iv ((jJ l i j).1)),(iv ((jJ l i j).2.1)),(.ssl (qO ((jJ l i j).2.2)) 0 (((jJ l i j).2.2).length))]),(.osl 0 0 N.length),(nv z),(.agg [(iv a),(iv b)])]) (oc ((qH (qv _)).symm:(qj N)=qN (qZ [2] 91) (qj N)) oz)))<|qY (Wk.eq (show _=[ps 5 (.osl 0 0 M.length),ps 6 (nv i),ps 8 (.osl 91 0 ((Yw l i j a b N z).2.1.length)),ps 9 (nv ((Yw l i j a b N z).2.2)),ps 10 (.opt 1 0),ps 13 (iv ((aE3 l i j a b).2.2)),ps 19 (.ssl (yJ l) 0 l.length),ps 20 (nv l.length),ps 21 (nv i),ps 28 (.ssl (vF ((l.getD i qD).2)) 0 (((l.getD i qD).2).length)),ps 29 (nv (((l.getD i qD).2).length)),ps 30 (nv j),pb 0 58 (qj M),pb 1 56 [(iv ((aE3 l i j a b).1)),(iv ((aE3 l i j a b).2.1))],pb 91 58 (qj ((Yw l i j a b N z).2.1))] from by simp only [qH (qv _)])) ?_
     refine qA<|qk qC [] [ps 5 (.osl 0 0 M.length),ps 6 (nv i),ps 8 (.osl 91 0 ((Yw l i j a b N z).2.1.length)),ps 9 (nv ((Yw l i j a b N z).2.2)),ps 10 (.opt 1 0),ps 13 (iv ((aE3 l i j a b).2.2)),ps 19 (.ssl (yJ l) 0 l.length),ps 20 (nv l.length),ps 21 (nv i),ps 28 (.ssl (vF ((l.getD i qD).2)) 0 (((l.getD i qD).2).length)),ps 29 (nv (((l.getD i qD).2).length)),ps 30 (nv j),ps 46 (bv (!(decide (((aE3 l i j a b).2.2)=0)))),pb 0 58 (qj M),pb 1 56 [(iv ((aE3 l i j a b).1)),(iv ((aE3 l i j a b).2.1))],pb 91 58 (qj ((Yw l i j a b N z).2.1))] (oz) ?_
     by_cases h5:((aE3 l i j a b).2.2)=0
     ·refine qU (bt h5)<|qF<|zF<|qk qC [] [ps 5 (.osl 0 0 M.length),ps 6 (nv i),ps 8 (.osl 91 0 ((Yw l i j a b N z).2.1.length)),ps 9 (nv ((Yw l i j a b N z).2.2)),ps 10 (.opt 1 0),ps 19 (.ssl (yJ l) 0 l.length),ps 20 (nv l.length),ps 21 (nv i),ps 28 (.ssl (vF ((l.getD i qD).2)) 0 (((l.getD i qD).2).length)),ps 29 (nv (((l.getD i qD).2).length)),ps 30 (iv (((j:Nat):Int)+1)),pb 0 58 (qj M),pb 1 56 [(iv ((aE3 l i j a b).1)),(iv ((aE3 l i j a b).2.1))],pb 91 58 (qj ((Yw l i j a b N z).2.1))] (oi (((j:Nat):Int)+1) (by omega) oz) ?_
      have hbT:=qkq (v:=(i:Int)) (y:=(jJ l i j)) (s:=((a,b),N,z)) (barE_of hwE (by omega) (by omega))
      rw [if_pos h4] at hbT
      have hb0:(vW (i:Int) (jJ l i j) ((a,b),N,z)).1=0:=by rw [hbT];exact h5
      have hkp:=qce (hwr j (by omega)).1 (hwr j (by omega)).2 hok hb0
      rw [hbT] at hkp
      exact zR ⟨(j+1,(aE3 l i j a b).1,(aE3 l i j a b).2.1,(Yw l i j a b N z).2.1,(Yw l i j a b N z).2.2),⟨by show j+1≤(l.getD i qD).2.length;omega,by rw [ZE (by omega),if_pos hb0,hbT] at hBt;exact hBt,hkp.1,by have h3:((Yw l i j a b N z).2.1).length≤N.length+65536:=hkp.2.1;show ((Yw l i j a b N z).2.1).length≤(j+1)*65536;omega,hkp.2.2.1,hkp.2.2.2⟩⟩ (Wk.trans (Wk.eq (show _=[ps 5 (.osl 0 0 M.length),ps 6 (nv i),ps 8 (.osl 91 0 ((Yw l i j a b N z).2.1.length)),ps 9 (nv ((Yw l i j a b N z).2.2)),ps 10 (.opt 1 0),ps 19 (.ssl (yJ l) 0 l.length),ps 20 (nv l.length),ps 21 (nv i),ps 28 (.ssl (vF ((l.getD i qD).2)) 0 (((l.getD i qD).2).length)),ps 29 (nv (((l.getD i qD).2).length)),ps 30 (nv (j+1)),pb 0 58 (qj M),pb 1 56 [(iv ((aE3 l i j a b).1)),(iv ((aE3 l i j a b).2.1))],pb 91 58 (qj ((Yw l i j a b N z).2.1))] from by rfl)) (Wk.ren3 _ 0 hc0 [0,1,91] [(kb 0,(qj M)),(kb 2,(qj ((Yw l i j a b N z).2.1)))] (oc (qv _) (oc (qv _) (oz))) (by kernel_rfl) rfl rfl (by kernel_rfl) (by kernel_rfl))) (show (l.getD i qD).2.length-(j+1)<(l.getD i qD).2.length-j from by show (l.getD i qD).2.length-(j+1)<(l.getD i qD).2.length-j;omega)
     refine qR (bf h5)<|qA<|qk qC [] [ps 2 sn,ps 3 (iv ((aE3 l i j a b).2.2))] (oz) ?_
     have hbT:=qkq (v:=(i:Int)) (y:=(jJ l i j)) (s:=((a,b),N,z)) (barE_of hwE (by omega) (by omega))
     rw [if_pos h4] at hbT
     have hb1:(vW (i:Int) (jJ l i j) ((a,b),N,z)).1=((aE3 l i j a b).2.2):=by rw [hbT]
     have hbn:¬ (vW (i:Int) (jJ l i j) ((a,b),N,z)).1=0:=by rw [hb1];exact h5
     have hbE:vk (i:Int) (l.getD i qD).2 ((0,1),[],0)=(vW (i:Int) (jJ l i j) ((a,b),N,z)):=by rw [← hBt,ZE (by omega),if_neg hbn]
     have hR1:(zT l).1=((aE3 l i j a b).2.2):=by unfold zT;rw [if_pos h1,← hT,jk (by omega),hbE,if_neg hbn];exact hb1
     have hn:¬ (zT l).1=0:=by rw [hR1];exact h5
     rw [if_neg hn,if_neg hn,hR1]
     exact zj fun cx_ a_ hI_=>qy (qy (rt hc0 [ps 2 sn,ps 3 (iv ((aE3 l i j a b).2.2))] [] hI_))
    refine qk qC [(5,.call [2] [(nv i),(.agg [(iv ((jJ l i j).1)),(iv ((jJ l i j).2.1)),(.ssl (qO ((jJ l i j).2.2)) 0 (((jJ l i j).2.2).length))]),(.osl 0 0 N.length),(nv z),(.agg [(iv a),(iv b)])] [some (58,(qj N))] (.tup [(.ssl [] 0 0),(iv 0),(.agg [(iv a),(iv b)]),(iv ((Yw l i j a b N z).1))]) [none,none])] [ps 5 (.osl 0 0 M.length),ps 6 (nv i),ps 8 (.ssl [] 0 0),ps 9 (iv 0),ps 10 (.opt 1 0),ps 13 (iv ((Yw l i j a b N z).1)),ps 19 (.ssl (yJ l) 0 l.length),ps 20 (nv l.length),ps 21 (nv i),ps 28 (.ssl (vF ((l.getD i qD).2)) 0 (((l.getD i qD).2).length)),ps 29 (nv (((l.getD i qD).2).length)),ps 30 (nv j),pb 0 58 (qj M),pb 1 56 [(iv a),(iv b)]] (oc (pc_no (qih (jJ l i j) (i:Int) a b N z hbg hok (by omega) ⟨ha,hb⟩ _ rfl (Yw l i j a b N z) rfl) h4:PC Tryz.prog 36 [(nv i),(.agg [(iv ((jJ l i j).1)),(iv ((jJ l i j).2.1)),(.ssl (qO ((jJ l i j).2.2)) 0 (((jJ l i j).2.2).length))]),(.osl 0 0 N.length),(nv z),(.agg [(iv a),(iv b)])] [some (58,(qj N))] (.tup [(.ssl [] 0 0),(iv 0),(.agg [(iv a),(iv b)]),(iv ((Yw l i j a b N z).1))]) [none,none]) (oc (rfl:[(nv i),(.agg [(iv ((jJ l i j).1)),(iv ((jJ l i j).2.1)),(.ssl (qO ((jJ l i j).2.2)) 0 (((jJ l i j).2.2).length))]),(.osl 2 0 N.length),(nv z),(.agg [(iv a),(iv b)])]=qN (qZ [2] 91) [(nv i),(.agg [(iv ((jJ l i j).1)),(iv ((jJ l i j).2.1)),(.ssl (qO ((jJ l i j).2.2)) 0 (((jJ l i j).2.2).length))]),(.osl 0 0 N.length),(nv z),(.agg [(iv a),(iv b)])]) (oc ((qH (qv _)).symm:(qj N)=qN (qZ [2] 91) (qj N)) oz)))<|qA<|qk qC [] [ps 5 (.osl 0 0 M.length),ps 6 (nv i),ps 8 (.ssl [] 0 0),ps 9 (iv 0),ps 10 (.opt 1 0),ps 13 (iv ((Yw l i j a b N z).1)),ps 19 (.ssl (yJ l) 0 l.length),ps 20 (nv l.length),ps 21 (nv i),ps 28 (.ssl (vF ((l.getD i qD).2)) 0 (((l.getD i qD).2).length)),ps 29 (nv (((l.getD i qD).2).length)),ps 30 (nv j),ps 46 (bv (!(decide (((Yw l i j a b N z).1)=0)))),pb 0 58 (qj M),pb 1 56 [(iv a),(iv b)]] (oz)<|qR (bf h4)<|qA<|qk qC [] [ps 2 sn,ps 3 (iv ((Yw l i j a b N z).1))] (oz) ?_
    have hbT:=qkq (v:=(i:Int)) (y:=(jJ l i j)) (s:=((a,b),N,z)) (barE_of hwE (by omega) (by omega))
    rw [if_neg h4] at hbT
    have hb1:(vW (i:Int) (jJ l i j) ((a,b),N,z)).1=((Yw l i j a b N z).1):=by rw [hbT]
    have hbn:¬ (vW (i:Int) (jJ l i j) ((a,b),N,z)).1=0:=by rw [hb1];exact h4
    have hbE:vk (i:Int) (l.getD i qD).2 ((0,1),[],0)=(vW (i:Int) (jJ l i j) ((a,b),N,z)):=by rw [← hBt,ZE (by omega),if_neg hbn]
    have hR1:(zT l).1=((Yw l i j a b N z).1):=by unfold zT;rw [if_pos h1,← hT,jk (by omega),hbE,if_neg hbn];exact hb1
    have hn:¬ (zT l).1=0:=by rw [hR1];exact h4
    rw [if_neg hn,if_neg hn,hR1]
    exact zj fun cx_ a_ hI_=>qy (qy (rt hc0 [ps 2 sn,ps 3 (iv ((Yw l i j a b N z).1))] [] hI_))
   refine qU (zN h3)<|zS rfl rfl ?_
   have hbt:vk (i:Int) (l.getD i qD).2 ((0,1),[],0)=(0,(a,b),N,z):=by rw [← hBt,List.drop_eq_nil_of_le (by omega),vk]
   refine qk qC [(2,.app (some (qj N)) (some (qj (M++N))))] [ps 5 (.osl 27 0 (M.length+N.length)),ps 19 (.ssl (yJ l) 0 l.length),ps 20 (nv l.length),ps 21 (nv i),pb 27 58 (qj (M++N))] (oc (qjo N:0+N.length*9≤((qj N)).length∧(((qj N)).drop 0).take (N.length*9)=(qj N)) (oc (YG _:((qj M)).length=M.length*9) (oc (by omega:(M.length+N.length)*80≤140737488355328∧M.length+N.length≤9223372036854775807) (oc ((wz noC M N).symm:(qj M)++(qj N)=(qj (M++N))) oz))))<|zF<|qk qC [] [ps 5 (.osl 27 0 (M.length+N.length)),ps 19 (.ssl (yJ l) 0 l.length),ps 20 (nv l.length),ps 21 (iv (((i:Nat):Int)+1)),pb 27 58 (qj (M++N))] (oi (((i:Nat):Int)+1) (by omega) oz) ?_
   exact zR ⟨(i+1,M++N),⟨by show i+1≤l.length;omega,by rw [jk (by omega),hbt,if_pos rfl] at hT;rw [show (((i+1:Nat):Nat):Int)=(i:Int)+1 from by omega];exact hT,by show (M++N).length≤(i+1)*70000000;rw [List.length_append];omega⟩⟩ (Wk.trans (Wk.eq (show _=[ps 5 (.osl 27 0 ((M++N).length)),ps 19 (.ssl (yJ l) 0 l.length),ps 20 (nv l.length),ps 21 (nv (i+1)),pb 27 58 (qj (M++N))] from by rw [List.length_append];rfl)) (Wk.ren3 _ 0 hc0 [27] [(kb 0,(qj (M++N)))] (oc (qv _) (oz)) (by kernel_rfl) rfl rfl (by kernel_rfl) (by kernel_rfl))) (show l.length-(i+1)<l.length-i from by show l.length-(i+1)<l.length-i;omega)
  refine qU (zN h2)<|zS rfl rfl<|qA<|qk qC [] [ps 2 (.osl 0 0 M.length),ps 3 (iv 0),pb 0 58 (qj M)] (oz) ?_
  have hR:zT l=(0,M):=by unfold zT;rw [if_pos h1,← hT,List.drop_eq_nil_of_le (by omega),wU]
  rw [hR,if_pos rfl,if_pos rfl]
  exact zj fun cx_ a_ hI_=>zV (H':=[some (58,(qj M))]) (.inr rfl) (Wk.ren3 [ps 2 (.osl 0 0 M.length),ps 3 (iv 0),pb 0 58 (qj M)] 0 hc0 [0] [(kb 0,(qj M))] (oc (qv _) (oz)) (by kernel_rfl) rfl rfl (by kernel_rfl) (by kernel_rfl)) rfl (oc rfl (oz)) (fun cx_ a_ hI_=>zL (l':=[ps 2 (.osl 0 0 M.length),ps 3 (iv 0),pb 0 58 (qj M)]) (by kernel_rfl) cx_ a_ hI_) hI_
 refine qR (bf h1)<|qA<|qk qC [] [ps 2 sn,ps 3 (iv (qw l))] (oz) ?_
 have hR1:(zT l).1=qw l:=by unfold zT;rw [if_neg h1]
 have hn:¬ (zT l).1=0:=by rw [hR1];exact h1
 rw [if_neg hn,if_neg hn,hR1]
 exact yA hc0 [2,3] []
end Go.Proofs.YtmlnilkbolcknaaGreatDoor.Pm
set_option maxRecDepth 100000
set_option maxHeartbeats 4000000
namespace Go.Proofs.YtmlnilkbolcknaaGreatDoor.Pm
open Go Go.Proofs.YtmlnilkbolcknaaGreatDoor.Pi
theorem text_step (l:List It) (ih:∀ (c:List It),SizeOf.sizeOf c<SizeOf.sizeOf l→(qq c).length≤140737488355328→wy c→wdL c→c.length≤1466015503658→prL c→PC Tryz.prog 34 [.ssl (qO c) 0 c.length] [] (sv (st (qq c))) []) (hb:(qq l).length≤140737488355328) (hfl:wy l) (hwl:wdL l) (hll:l.length≤1466015503658) (hpl:prL l):PC Tryz.prog 34 [(.ssl (qO l) 0 l.length)] [] (sv (st (qq l))) []:=by
 refine zI Tryz.func34 rfl (by kernel_rfl) (Nat.le_of_ble_eq_true rfl) (by kernel_rfl) (l0:=[ps 0 (.ssl (qO l) 0 l.length)]) rfl (fun c0 Bor hc0=>?_)
 refine qA<|qL qC [.r] []<|qA<|qL qC [.k1,.n] [ps 3 se]<|qA<|qA<|qL qC [.d,.k1,.n,.n,.n] [ps 13 (.ssl (qO l) 0 l.length),ps 14 (nv l.length),ps 15 (iv 0)]<|qV<|qY (Wk.eq (show _=[ps 3 (sv (st (qq (l.take 0)))),ps 13 (.ssl (qO l) 0 l.length),ps 14 (nv l.length),ps 15 (iv 0)] from by rw [List.take_zero,QF])) ?_
 refine yC (α:={x:Nat // x≤l.length}) (fun x=>[ps 3 (sv (st (qq (l.take x.1)))),ps 13 (.ssl (qO l) 0 l.length),ps 14 (nv l.length),ps 15 (nv x.1)]) (fun x=>l.length-x.1) 0 ⟨0,Nat.zero_le _⟩ (Wk.ren2 _ 0 hc0 [] rfl rfl (by kernel_rfl) (by kernel_rfl)) ?_
 rintro ⟨i,hi⟩
 refine qA<|qk qC [] [ps 3 (sv (st (qq (l.take i)))),ps 13 (.ssl (qO l) 0 l.length),ps 14 (nv l.length),ps 15 (nv i),ps 16 (bv (decide (((i:Nat):Int)<(l.length:Int))))] (oz)<|qA ?_
 by_cases h1:(i:Int)<(l.length:Int)
 ·refine qR (zP h1)<|qF<|qA<|qV<|qA ?_
  obtain ⟨hx1,hx2,hx3,hx4,hx5⟩:=(jI (l.getD i qB)).1 (jM hfl (show i<l.length from by omega))
  obtain ⟨hw1,hw2⟩:=(qcg (l.getD i qB)).1 (wd_at hwl (show i<l.length from by omega))
  have hpr:=pr_item (hpl i (by omega))
  have hrm:=preT_room (show i<l.length from by omega)
  have hrn:=its_room (show i<l.length from by omega)
  have hL1:=it_len (l.getD i qB)
  have hple:=qjz l i
  refine zY qC [(1,.nat (i*7)),(2,.cells [(iv (iK (l.getD i qB))),(iv (iS (l.getD i qB))),(.ssl (zG (iP (l.getD i qB))) 0 ((iP (l.getD i qB)).length)),(iv ((iB (l.getD i qB)).1)),(iv ((iB (l.getD i qB)).2)),(sv (st (iL (l.getD i qB)))),(.ssl (qO (iC (l.getD i qB))) 0 ((iC (l.getD i qB)).length))])] [.k1,.n,.n,.k3,.d,.n] [ps 4 (nv i),ps 5 (.opt 32 0),pb 32 50 [(iv (iK (l.getD i qB))),(iv (iS (l.getD i qB))),(.ssl (zG (iP (l.getD i qB))) 0 ((iP (l.getD i qB)).length)),(iv ((iB (l.getD i qB)).1)),(iv ((iB (l.getD i qB)).2)),(sv (st (iL (l.getD i qB)))),(.ssl (qO (iC (l.getD i qB))) 0 ((iC (l.getD i qB)).length))]] (oc (by omega:(0:Int)≤(i:Int)∧(i:Int)<(l.length:Int)) (oc (by omega:0+(((i:Nat):Int):Int).toNat*7=(i*7)) (oc (YN l i 0 7 (by omega) (by decide):(i*7)+7≤((qO l)).length∧(((qO l)).drop (i*7)).take 7=[(iv (iK (l.getD i qB))),(iv (iS (l.getD i qB))),(.ssl (zG (iP (l.getD i qB))) 0 ((iP (l.getD i qB)).length)),(iv ((iB (l.getD i qB)).1)),(iv ((iB (l.getD i qB)).2)),(sv (st (iL (l.getD i qB)))),(.ssl (qO (iC (l.getD i qB))) 0 ((iC (l.getD i qB)).length))]) oz)))<|qA<|qA<|qL qC [.k1,.d,.k4,.n,.r] [ps 21 (bv (decide (0<(i:Int))))]<|T_f1 96 [ps 3 (sv (st (zM l i))),ps 5 (.opt 32 0),ps 13 (.ssl (qO l) 0 l.length),ps 14 (nv l.length),ps 15 (nv i),pb 32 50 [(iv (iK (l.getD i qB))),(iv (iS (l.getD i qB))),(.ssl (zG (iP (l.getD i qB))) 0 ((iP (l.getD i qB)).length)),(iv ((iB (l.getD i qB)).1)),(iv ((iB (l.getD i qB)).2)),(sv (st (iL (l.getD i qB)))),(.ssl (qO (iC (l.getD i qB))) 0 ((iC (l.getD i qB)).length))]] ?_ fun hk1=>?_
  ·refine qA<|qA<|qk qC [] [ps 3 (sv (st (zM l i))),ps 5 (.opt 32 0),ps 13 (.ssl (qO l) 0 l.length),ps 14 (nv l.length),ps 15 (nv i),ps 26 (bv (decide ((iK (l.getD i qB))=2))),pb 32 50 [(iv (iK (l.getD i qB))),(iv (iS (l.getD i qB))),(.ssl (zG (iP (l.getD i qB))) 0 ((iP (l.getD i qB)).length)),(iv ((iB (l.getD i qB)).1)),(iv ((iB (l.getD i qB)).2)),(sv (st (iL (l.getD i qB)))),(.ssl (qO (iC (l.getD i qB))) 0 ((iC (l.getD i qB)).length))]] (oz)<|T_f3 528 [ps 3 (sv (st (zM l i++zQ (l.getD i qB)))),ps 13 (.ssl (qO l) 0 l.length),ps 14 (nv l.length),ps 15 (nv i)] ?_ fun hk7=>?_
   ·refine qk qC [] [ps 3 (sv (st (zM l i++zQ (l.getD i qB)))),ps 13 (.ssl (qO l) 0 l.length),ps 14 (nv l.length),ps 15 (iv (((i:Nat):Int)+1))] (oi (((i:Nat):Int)+1) (by omega) oz) ?_
    exact zR ⟨i+1,by show i+1≤l.length;omega⟩ (Wk.trans (Wk.eq (show _=[ps 3 (sv (st (qq (l.take (i+1))))),ps 13 (.ssl (qO l) 0 l.length),ps 14 (nv l.length),ps 15 (nv (i+1))] from by rw [qht (show i<l.length from by omega)];rfl)) (Wk.ren2 _ 0 hc0 [] rfl rfl (by kernel_rfl) (by kernel_rfl))) (show l.length-(i+1)<l.length-i from by show l.length-(i+1)<l.length-i;omega)
   refine T_f1 368 [ps 3 (sv (st (zM l i++qE (l.getD i qB)))),ps 5 (.opt 32 0),ps 13 (.ssl (qO l) 0 l.length),ps 14 (nv l.length),ps 15 (nv i),pb 32 50 [(iv (iK (l.getD i qB))),(iv (iS (l.getD i qB))),(.ssl (zG (iP (l.getD i qB))) 0 ((iP (l.getD i qB)).length)),(iv ((iB (l.getD i qB)).1)),(iv ((iB (l.getD i qB)).2)),(sv (st (iL (l.getD i qB)))),(.ssl (qO (iC (l.getD i qB))) 0 ((iC (l.getD i qB)).length))]] ?_ fun hk2=>?_
   ·refine qA<|qA<|qk qC [] [ps 3 (sv (st (zM l i++qE (l.getD i qB)))),ps 5 (.opt 32 0),ps 13 (.ssl (qO l) 0 l.length),ps 14 (nv l.length),ps 15 (nv i),ps 91 (bv (decide (1<(iS (l.getD i qB))))),pb 32 50 [(iv (iK (l.getD i qB))),(iv (iS (l.getD i qB))),(.ssl (zG (iP (l.getD i qB))) 0 ((iP (l.getD i qB)).length)),(iv ((iB (l.getD i qB)).1)),(iv ((iB (l.getD i qB)).2)),(sv (st (iL (l.getD i qB)))),(.ssl (qO (iC (l.getD i qB))) 0 ((iC (l.getD i qB)).length))]] (oz)<|T_f1 448 [ps 3 (sv (st (zM l i++qE (l.getD i qB)++qI (iS (l.getD i qB))))),ps 5 (.opt 32 0),ps 13 (.ssl (qO l) 0 l.length),ps 14 (nv l.length),ps 15 (nv i),pb 32 50 [(iv (iK (l.getD i qB))),(iv (iS (l.getD i qB))),(.ssl (zG (iP (l.getD i qB))) 0 ((iP (l.getD i qB)).length)),(iv ((iB (l.getD i qB)).1)),(iv ((iB (l.getD i qB)).2)),(sv (st (iL (l.getD i qB)))),(.ssl (qO (iC (l.getD i qB))) 0 ((iC (l.getD i qB)).length))]] ?_ fun hk5=>?_
    ·refine qA<|qk qC [(2,.val (.av (.bool (!decide ((iL (l.getD i qB))=([]:TX))))))] [ps 3 (sv (st (zM l i++qE (l.getD i qB)++qI (iS (l.getD i qB))))),ps 5 (.opt 32 0),ps 13 (.ssl (qO l) 0 l.length),ps 14 (nv l.length),ps 15 (nv i),ps 100 (bv (!(decide ((iL (l.getD i qB))=([]:TX))))),pb 32 50 [(iv (iK (l.getD i qB))),(iv (iS (l.getD i qB))),(.ssl (zG (iP (l.getD i qB))) 0 ((iP (l.getD i qB)).length)),(iv ((iB (l.getD i qB)).1)),(iv ((iB (l.getD i qB)).2)),(sv (st (iL (l.getD i qB)))),(.ssl (qO (iC (l.getD i qB))) 0 ((iC (l.getD i qB)).length))]] (oc (jB _ _:(!((st (iL (l.getD i qB))).toList == (st ([]:TX)).toList)) = !decide ((iL (l.getD i qB))=([]:TX))) oz) ?_
     by_cases h23:(iL (l.getD i qB))=([]:TX)
     ·refine qU (bt h23)<|qF<|zF<|qY (Wk.eq (show _=[ps 3 (sv (st (zM l i++zQ (l.getD i qB)))),ps 5 (.opt 32 0),ps 13 (.ssl (qO l) 0 l.length),ps 14 (nv l.length),ps 15 (nv i),ps 100 (bv (!(decide ((iL (l.getD i qB))=([]:TX))))),pb 32 50 [(iv (iK (l.getD i qB))),(iv (iS (l.getD i qB))),(.ssl (zG (iP (l.getD i qB))) 0 ((iP (l.getD i qB)).length)),(iv ((iB (l.getD i qB)).1)),(iv ((iB (l.getD i qB)).2)),(sv (st (iL (l.getD i qB)))),(.ssl (qO (iC (l.getD i qB))) 0 ((iC (l.getD i qB)).length))]] from by rw [yV,show lyT (iL (l.getD i qB))=[] from if_pos (by assumption),List.append_nil,List.append_assoc])) ?_
      exact vE hk7
     refine qR (bf h23) ?_
     have hY:lyT (iL (l.getD i qB))=[32,34]++iL (l.getD i qB)++[34]:=if_neg (by assumption)
     have hY2:=congrArg List.length hY
     simp only [List.length_append,List.length_cons,List.length_nil] at hY2
     refine zY qC [(1,.val (.av (.string (st ((zM l i++qE (l.getD i qB)++qI (iS (l.getD i qB)))++([32,34]:TX)))))),(4,.val (.av (.string (st (((zM l i++qE (l.getD i qB)++qI (iS (l.getD i qB)))++([32,34]:TX))++(iL (l.getD i qB))))))),(5,.val (.av (.string (st ((((zM l i++qE (l.getD i qB)++qI (iS (l.getD i qB)))++([32,34]:TX))++(iL (l.getD i qB)))++([34]:TX))))))] [.d,.n,.d,.k3,.d,.d] [ps 3 (sv (st ((((zM l i++qE (l.getD i qB)++qI (iS (l.getD i qB)))++([32,34]:TX))++(iL (l.getD i qB)))++([34]:TX))))] (oc (by first|omega|(simp only [List.length_append,List.length_cons,List.length_nil];omega):(((zM l i++qE (l.getD i qB)++qI (iS (l.getD i qB))).length+([32,34]:TX).length:Nat):Int)≤9223372036854775807) (oc (qK _ _:st (zM l i++qE (l.getD i qB)++qI (iS (l.getD i qB)))++st ([32,34]:TX)=st ((zM l i++qE (l.getD i qB)++qI (iS (l.getD i qB)))++([32,34]:TX))) (oc (by first|omega|(simp only [List.length_append,List.length_cons,List.length_nil];omega):((((zM l i++qE (l.getD i qB)++qI (iS (l.getD i qB)))++([32,34]:TX)).length+(iL (l.getD i qB)).length:Nat):Int)≤9223372036854775807) (oc (qK _ _:st ((zM l i++qE (l.getD i qB)++qI (iS (l.getD i qB)))++([32,34]:TX))++st (iL (l.getD i qB))=st (((zM l i++qE (l.getD i qB)++qI (iS (l.getD i qB)))++([32,34]:TX))++(iL (l.getD i qB)))) (oc (by first|omega|(simp only [List.length_append,List.length_cons,List.length_nil];omega):(((((zM l i++qE (l.getD i qB)++qI (iS (l.getD i qB)))++([32,34]:TX))++(iL (l.getD i qB))).length+([34]:TX).length:Nat):Int)≤9223372036854775807) (oc (qK _ _:st (((zM l i++qE (l.getD i qB)++qI (iS (l.getD i qB)))++([32,34]:TX))++(iL (l.getD i qB)))++st ([34]:TX)=st ((((zM l i++qE (l.getD i qB)++qI (iS (l.getD i qB)))++([32,34]:TX))++(iL (l.getD i qB)))++([34]:TX))) oz))))))<|zF<|qY (Wk.eq (show _=[ps 3 (sv (st (zM l i++zQ (l.getD i qB)))),ps 13 (.ssl (qO l) 0 l.length),ps 14 (nv l.length),ps 15 (nv i)] from by rw [yV,hY];simp only [List.append_assoc])) ?_
     exact vE hk7
    by_cases h22:1<(iS (l.getD i qB))
    ·refine qR (zP h22) ?_
     have hS:qI (iS (l.getD i qB))=[42]++Lib.itoa (iS (l.getD i qB)):=if_neg (by omega)
     have hS2:=congrArg List.length hS
     simp only [List.length_append,List.length_cons,List.length_nil] at hS2
     refine zY qC [(1,.val (.av (.string (st ((zM l i++qE (l.getD i qB))++([42]:TX)))))),(4,.call [] [(iv (iS (l.getD i qB)))] [] (sv (st (Lib.itoa (iS (l.getD i qB))))) []),(5,.val (.av (.string (st (((zM l i++qE (l.getD i qB))++([42]:TX))++(Lib.itoa (iS (l.getD i qB))))))))] [.d,.n,.k4,.d,.r] [ps 3 (sv (st (((zM l i++qE (l.getD i qB))++([42]:TX))++(Lib.itoa (iS (l.getD i qB))))))] (oc (by first|omega|(simp only [List.length_append,List.length_cons,List.length_nil];omega):(((zM l i++qE (l.getD i qB)).length+([42]:TX).length:Nat):Int)≤9223372036854775807) (oc (qK _ _:st (zM l i++qE (l.getD i qB))++st ([42]:TX)=st ((zM l i++qE (l.getD i qB))++([42]:TX))) (yD 424 (vV (iS (l.getD i qB)) (by omega) (by omega)) (oc (by first|omega|(simp only [List.length_append,List.length_cons,List.length_nil];omega):((((zM l i++qE (l.getD i qB))++([42]:TX)).length+(Lib.itoa (iS (l.getD i qB))).length:Nat):Int)≤9223372036854775807) (oc (qK _ _:st ((zM l i++qE (l.getD i qB))++([42]:TX))++st (Lib.itoa (iS (l.getD i qB)))=st (((zM l i++qE (l.getD i qB))++([42]:TX))++(Lib.itoa (iS (l.getD i qB))))) oz)))))<|qY (Wk.eq (show _=[ps 3 (sv (st (zM l i++qE (l.getD i qB)++qI (iS (l.getD i qB))))),ps 5 (.opt 32 0),ps 13 (.ssl (qO l) 0 l.length),ps 14 (nv l.length),ps 15 (nv i),pb 32 50 [(iv (iK (l.getD i qB))),(iv (iS (l.getD i qB))),(.ssl (zG (iP (l.getD i qB))) 0 ((iP (l.getD i qB)).length)),(iv ((iB (l.getD i qB)).1)),(iv ((iB (l.getD i qB)).2)),(sv (st (iL (l.getD i qB)))),(.ssl (qO (iC (l.getD i qB))) 0 ((iC (l.getD i qB)).length))]] from by rw [hS];simp only [List.append_assoc])) ?_
     exact vE hk5
    refine qU (zN h22)<|qF<|qY (Wk.eq (show _=[ps 3 (sv (st (zM l i++qE (l.getD i qB)++qI (iS (l.getD i qB))))),ps 5 (.opt 32 0),ps 13 (.ssl (qO l) 0 l.length),ps 14 (nv l.length),ps 15 (nv i),ps 91 (bv (decide (1<(iS (l.getD i qB))))),pb 32 50 [(iv (iK (l.getD i qB))),(iv (iS (l.getD i qB))),(.ssl (zG (iP (l.getD i qB))) 0 ((iP (l.getD i qB)).length)),(iv ((iB (l.getD i qB)).1)),(iv ((iB (l.getD i qB)).2)),(sv (st (iL (l.getD i qB)))),(.ssl (qO (iC (l.getD i qB))) 0 ((iC (l.getD i qB)).length))]] from by rw [show qI (iS (l.getD i qB))=[] from if_pos (by omega),List.append_nil])) ?_
    exact vE hk5
   by_cases h3:(iK (l.getD i qB))=2
   ·refine qR (zP h3) ?_
    have hM:qE (l.getD i qB)=[45]:=by unfold qE;rw [if_pos (by omega)]
    have hM2:=congrArg List.length hM
    try simp only [List.length_append,List.length_cons,List.length_nil] at hM2
    refine zY qC [(1,.val (.av (.string (st ((zM l i)++([45]:TX))))))] [.d,.n,.k4,.d,.r] [ps 3 (sv (st ((zM l i)++([45]:TX))))] (oc (by first|omega|(simp <;> omega):(((zM l i).length+([45]:TX).length:Nat):Int)≤9223372036854775807) (oc (qK _ _:st (zM l i)++st ([45]:TX)=st ((zM l i)++([45]:TX))) oz))<|qY (Wk.eq (show _=[ps 3 (sv (st (zM l i++qE (l.getD i qB)))),ps 5 (.opt 32 0),ps 13 (.ssl (qO l) 0 l.length),ps 14 (nv l.length),ps 15 (nv i),pb 32 50 [(iv (iK (l.getD i qB))),(iv (iS (l.getD i qB))),(.ssl (zG (iP (l.getD i qB))) 0 ((iP (l.getD i qB)).length)),(iv ((iB (l.getD i qB)).1)),(iv ((iB (l.getD i qB)).2)),(sv (st (iL (l.getD i qB)))),(.ssl (qO (iC (l.getD i qB))) 0 ((iC (l.getD i qB)).length))]] from by rw [hM];try simp only [List.append_assoc,List.cons_append,List.nil_append])) ?_
    exact vE hk2
   refine qU (zN h3)<|qA<|qL qC [.k5,.d,.n,.r] [ps 31 (bv (decide ((iK (l.getD i qB))=3)))] ?_
   by_cases h7:(iK (l.getD i qB))=3
   ·refine qR (zP h7) ?_
    have hM:qE (l.getD i qB)=[126]:=by unfold qE;rw [if_neg (by omega),if_pos (by omega)]
    have hM2:=congrArg List.length hM
    try simp only [List.length_append,List.length_cons,List.length_nil] at hM2
    refine zY qC [(1,.val (.av (.string (st ((zM l i)++([126]:TX))))))] [.d,.n,.k4,.d,.r] [ps 3 (sv (st ((zM l i)++([126]:TX))))] (oc (by first|omega|(simp <;> omega):(((zM l i).length+([126]:TX).length:Nat):Int)≤9223372036854775807) (oc (qK _ _:st (zM l i)++st ([126]:TX)=st ((zM l i)++([126]:TX))) oz))<|qY (Wk.eq (show _=[ps 3 (sv (st (zM l i++qE (l.getD i qB)))),ps 5 (.opt 32 0),ps 13 (.ssl (qO l) 0 l.length),ps 14 (nv l.length),ps 15 (nv i),pb 32 50 [(iv (iK (l.getD i qB))),(iv (iS (l.getD i qB))),(.ssl (zG (iP (l.getD i qB))) 0 ((iP (l.getD i qB)).length)),(iv ((iB (l.getD i qB)).1)),(iv ((iB (l.getD i qB)).2)),(sv (st (iL (l.getD i qB)))),(.ssl (qO (iC (l.getD i qB))) 0 ((iC (l.getD i qB)).length))]] from by rw [hM];try simp only [List.append_assoc,List.cons_append,List.nil_append])) ?_
    exact vE hk2
   refine qU (zN h7)<|qA<|qL qC [.k5,.d,.n,.r] [ps 36 (bv (decide ((iK (l.getD i qB))=1)))] ?_
   by_cases h11:(iK (l.getD i qB))=1
   ·refine qR (zP h11)<|qA ?_
    have hM:qE (l.getD i qB)=Qw (iP (l.getD i qB)):=by unfold qE;rw [if_neg (by omega),if_neg (by omega),if_pos (by omega)]
    have hM2:=congrArg List.length hM
    try simp only [List.length_append,List.length_cons,List.length_nil] at hM2
    have hcl:=ch_len (iP (l.getD i qB))
    have hcl2:(zC (iP (l.getD i qB))).length≤(Qw (iP (l.getD i qB))).length:=by rw [hcl];exact Nat.le_add_right _ _
    refine qL qC [.k2,.n,.k3,.d,.r] [ps 6 se]<|qA<|qA<|qL qC [.k6,.n,.n,.n,.r] [ps 38 (.ssl (zG (iP (l.getD i qB))) 0 ((iP (l.getD i qB)).length)),ps 39 (nv ((iP (l.getD i qB)).length)),ps 40 (iv 0)]<|qV<|qY (Wk.eq (show _=[ps 3 (sv (st (zM l i))),ps 5 (.opt 32 0),ps 6 (sv (st (zC ((iP (l.getD i qB)).take 0)))),ps 13 (.ssl (qO l) 0 l.length),ps 14 (nv l.length),ps 15 (nv i),ps 38 (.ssl (zG (iP (l.getD i qB))) 0 ((iP (l.getD i qB)).length)),ps 39 (nv ((iP (l.getD i qB)).length)),ps 40 (iv 0),pb 32 50 [(iv (iK (l.getD i qB))),(iv (iS (l.getD i qB))),(.ssl (zG (iP (l.getD i qB))) 0 ((iP (l.getD i qB)).length)),(iv ((iB (l.getD i qB)).1)),(iv ((iB (l.getD i qB)).2)),(sv (st (iL (l.getD i qB)))),(.ssl (qO (iC (l.getD i qB))) 0 ((iC (l.getD i qB)).length))]] from by rw [List.take_zero];rfl)) ?_
    refine yC (α:={x:Nat // x≤(iP (l.getD i qB)).length}) (fun x=>[ps 3 (sv (st (zM l i))),ps 5 (.opt 0 0),ps 6 (sv (st (zC ((iP (l.getD i qB)).take x.1)))),ps 13 (.ssl (qO l) 0 l.length),ps 14 (nv l.length),ps 15 (nv i),ps 38 (.ssl (zG (iP (l.getD i qB))) 0 ((iP (l.getD i qB)).length)),ps 39 (nv ((iP (l.getD i qB)).length)),ps 40 (nv x.1),pb 0 50 [(iv (iK (l.getD i qB))),(iv (iS (l.getD i qB))),(.ssl (zG (iP (l.getD i qB))) 0 ((iP (l.getD i qB)).length)),(iv ((iB (l.getD i qB)).1)),(iv ((iB (l.getD i qB)).2)),(sv (st (iL (l.getD i qB)))),(.ssl (qO (iC (l.getD i qB))) 0 ((iC (l.getD i qB)).length))]]) (fun x=>(iP (l.getD i qB)).length-x.1) 1 ⟨0,Nat.zero_le _⟩ (Wk.ren2 _ 0 hc0 [32] rfl rfl (by kernel_rfl) (by kernel_rfl)) ?_
    rintro ⟨k,hk⟩
    refine qA<|qk qC [] [ps 3 (sv (st (zM l i))),ps 5 (.opt 0 0),ps 6 (sv (st (zC ((iP (l.getD i qB)).take k)))),ps 13 (.ssl (qO l) 0 l.length),ps 14 (nv l.length),ps 15 (nv i),ps 38 (.ssl (zG (iP (l.getD i qB))) 0 ((iP (l.getD i qB)).length)),ps 39 (nv ((iP (l.getD i qB)).length)),ps 40 (nv k),ps 41 (bv (decide (((k:Nat):Int)<(((iP (l.getD i qB)).length:Nat):Int)))),pb 0 50 [(iv (iK (l.getD i qB))),(iv (iS (l.getD i qB))),(.ssl (zG (iP (l.getD i qB))) 0 ((iP (l.getD i qB)).length)),(iv ((iB (l.getD i qB)).1)),(iv ((iB (l.getD i qB)).2)),(sv (st (iL (l.getD i qB)))),(.ssl (qO (iC (l.getD i qB))) 0 ((iC (l.getD i qB)).length))]] (oz)<|qA ?_
    by_cases h12:(k:Int)<(((iP (l.getD i qB)).length:Nat):Int)
    ·refine qR (zP h12)<|qF<|qA<|qV<|qA ?_
     have hpm:=preP_room (show k<(iP (l.getD i qB)).length from by omega)
     have hpn:=qfb (show k<(iP (l.getD i qB)).length from by omega)
     have hpp:=qfc (iP (l.getD i qB)) k
     have hpt:(vv ((iP (l.getD i qB)).getD k zU).1 ((iP (l.getD i qB)).getD k zU).2.1 ((iP (l.getD i qB)).getD k zU).2.2).1=wY ((iP (l.getD i qB)).getD k zU):=rfl
     have hpt2:=congrArg List.length hpt
     refine zY qC [(1,.nat (k*3)),(2,.cells [(iv (((iP (l.getD i qB)).getD k zU).1)),(iv (((iP (l.getD i qB)).getD k zU).2.1)),(iv (((iP (l.getD i qB)).getD k zU).2.2))])] [.k3,.n,.n,.k6,.d,.k1,.n] [ps 7 (nv k),ps 8 (.opt 33 0),pb 33 52 [(iv (((iP (l.getD i qB)).getD k zU).1)),(iv (((iP (l.getD i qB)).getD k zU).2.1)),(iv (((iP (l.getD i qB)).getD k zU).2.2))]] (oc (by omega:(0:Int)≤(k:Int)∧(k:Int)<(((iP (l.getD i qB)).length:Nat):Int)) (oc (by omega:0+(((k:Nat):Int):Int).toNat*3=(k*3)) (oc (yG ptC 3 (fun _=>rfl) zU (iP (l.getD i qB)) k 0 3 (by omega) (by decide):(k*3)+3≤((zG (iP (l.getD i qB)))).length∧(((zG (iP (l.getD i qB)))).drop (k*3)).take 3=[(iv (((iP (l.getD i qB)).getD k zU).1)),(iv (((iP (l.getD i qB)).getD k zU).2.1)),(iv (((iP (l.getD i qB)).getD k zU).2.2))]) oz))) ?_
     refine qA<|qA<|qL qC [.k3,.d,.k7,.n,.r] [ps 46 (bv (decide (0<(k:Int))))]<|T_f1 97 [ps 3 (sv (st (zM l i))),ps 5 (.opt 0 0),ps 6 (sv (st (preP (iP (l.getD i qB)) k))),ps 8 (.opt 33 0),ps 13 (.ssl (qO l) 0 l.length),ps 14 (nv l.length),ps 15 (nv i),ps 38 (.ssl (zG (iP (l.getD i qB))) 0 ((iP (l.getD i qB)).length)),ps 39 (nv ((iP (l.getD i qB)).length)),ps 40 (nv k),pb 0 50 [(iv (iK (l.getD i qB))),(iv (iS (l.getD i qB))),(.ssl (zG (iP (l.getD i qB))) 0 ((iP (l.getD i qB)).length)),(iv ((iB (l.getD i qB)).1)),(iv ((iB (l.getD i qB)).2)),(sv (st (iL (l.getD i qB)))),(.ssl (qO (iC (l.getD i qB))) 0 ((iC (l.getD i qB)).length))],pb 33 52 [(iv (((iP (l.getD i qB)).getD k zU).1)),(iv (((iP (l.getD i qB)).getD k zU).2.1)),(iv (((iP (l.getD i qB)).getD k zU).2.2))]] ?_ fun hk6=>?_
     ·refine qA<|ZF qC 1 [ps 3 (sv (st (zM l i))),ps 5 (.opt 0 0),ps 6 (sv (st (preP (iP (l.getD i qB)) k))),ps 9 (sv (st ((vv (((iP (l.getD i qB)).getD k zU).1) (((iP (l.getD i qB)).getD k zU).2.1) (((iP (l.getD i qB)).getD k zU).2.2)).1))),ps 13 (.ssl (qO l) 0 l.length),ps 14 (nv l.length),ps 15 (nv i),ps 38 (.ssl (zG (iP (l.getD i qB))) 0 ((iP (l.getD i qB)).length)),ps 39 (nv ((iP (l.getD i qB)).length)),ps 40 (nv k),pb 0 50 [(iv (iK (l.getD i qB))),(iv (iS (l.getD i qB))),(.ssl (zG (iP (l.getD i qB))) 0 ((iP (l.getD i qB)).length)),(iv ((iB (l.getD i qB)).1)),(iv ((iB (l.getD i qB)).2)),(sv (st (iL (l.getD i qB)))),(.ssl (qO (iC (l.getD i qB))) 0 ((iC (l.getD i qB)).length))]] (yD 105 (qjc (((iP (l.getD i qB)).getD k zU).1) (((iP (l.getD i qB)).getD k zU).2.1) (((iP (l.getD i qB)).getD k zU).2.2) (hw1 k (by omega))) oz)<|zY qC [(2,.val (.av (.string (st ((preP (iP (l.getD i qB)) k)++((vv (((iP (l.getD i qB)).getD k zU).1) (((iP (l.getD i qB)).getD k zU).2.1) (((iP (l.getD i qB)).getD k zU).2.2)).1))))))] [.k2,.d,.n,.d,.r] [ps 6 (sv (st ((preP (iP (l.getD i qB)) k)++((vv (((iP (l.getD i qB)).getD k zU).1) (((iP (l.getD i qB)).getD k zU).2.1) (((iP (l.getD i qB)).getD k zU).2.2)).1))))] (oc (by first|omega|(simp only [List.length_append,List.length_cons,List.length_nil];omega):(((preP (iP (l.getD i qB)) k).length+((vv (((iP (l.getD i qB)).getD k zU).1) (((iP (l.getD i qB)).getD k zU).2.1) (((iP (l.getD i qB)).getD k zU).2.2)).1).length:Nat):Int)≤9223372036854775807) (oc (qK _ _:st (preP (iP (l.getD i qB)) k)++st ((vv (((iP (l.getD i qB)).getD k zU).1) (((iP (l.getD i qB)).getD k zU).2.1) (((iP (l.getD i qB)).getD k zU).2.2)).1)=st ((preP (iP (l.getD i qB)) k)++((vv (((iP (l.getD i qB)).getD k zU).1) (((iP (l.getD i qB)).getD k zU).2.1) (((iP (l.getD i qB)).getD k zU).2.2)).1))) oz))<|zF<|zY qC [] [.k8,.d,.n,.r] [ps 40 (iv (((k:Nat):Int)+1))] (oi (((k:Nat):Int)+1) (by omega) oz) ?_
      exact zR ⟨k+1,by show k+1≤(iP (l.getD i qB)).length;omega⟩ (Wk.trans (Wk.eq (show _=[ps 3 (sv (st (zM l i))),ps 5 (.opt 0 0),ps 6 (sv (st (zC ((iP (l.getD i qB)).take (k+1))))),ps 13 (.ssl (qO l) 0 l.length),ps 14 (nv l.length),ps 15 (nv i),ps 38 (.ssl (zG (iP (l.getD i qB))) 0 ((iP (l.getD i qB)).length)),ps 39 (nv ((iP (l.getD i qB)).length)),ps 40 (nv (k+1)),pb 0 50 [(iv (iK (l.getD i qB))),(iv (iS (l.getD i qB))),(.ssl (zG (iP (l.getD i qB))) 0 ((iP (l.getD i qB)).length)),(iv ((iB (l.getD i qB)).1)),(iv ((iB (l.getD i qB)).2)),(sv (st (iL (l.getD i qB)))),(.ssl (qO (iC (l.getD i qB))) 0 ((iC (l.getD i qB)).length))]] from by rw [qhg (show k<(iP (l.getD i qB)).length from by omega)];rfl)) (Wk.ren2 _ 0 hc0 [0] rfl rfl (by kernel_rfl) (by kernel_rfl))) (show (iP (l.getD i qB)).length-(k+1)<(iP (l.getD i qB)).length-k from by show (iP (l.getD i qB)).length-(k+1)<(iP (l.getD i qB)).length-k;omega)
     by_cases h13:0<(k:Int)
     ·refine qR (zP h13) ?_
      have hpn2:=hpn.1
      rw [if_neg (show ¬ k=0 from by omega)] at hpn2
      refine zY qC [(1,.val (.av (.string (st ((zC ((iP (l.getD i qB)).take k))++([32]:TX))))))] [.k2,.d,.n,.k7,.d,.r] [ps 6 (sv (st ((zC ((iP (l.getD i qB)).take k))++([32]:TX))))] (oc (by first|omega|(simp only [List.length_append,List.length_cons,List.length_nil];omega):(((zC ((iP (l.getD i qB)).take k)).length+([32]:TX).length:Nat):Int)≤9223372036854775807) (oc (qK _ _:st (zC ((iP (l.getD i qB)).take k))++st ([32]:TX)=st ((zC ((iP (l.getD i qB)).take k))++([32]:TX))) oz))<|qY (Wk.eq (show _=[ps 3 (sv (st (zM l i))),ps 5 (.opt 0 0),ps 6 (sv (st (preP (iP (l.getD i qB)) k))),ps 8 (.opt 33 0),ps 13 (.ssl (qO l) 0 l.length),ps 14 (nv l.length),ps 15 (nv i),ps 38 (.ssl (zG (iP (l.getD i qB))) 0 ((iP (l.getD i qB)).length)),ps 39 (nv ((iP (l.getD i qB)).length)),ps 40 (nv k),pb 0 50 [(iv (iK (l.getD i qB))),(iv (iS (l.getD i qB))),(.ssl (zG (iP (l.getD i qB))) 0 ((iP (l.getD i qB)).length)),(iv ((iB (l.getD i qB)).1)),(iv ((iB (l.getD i qB)).2)),(sv (st (iL (l.getD i qB)))),(.ssl (qO (iC (l.getD i qB))) 0 ((iC (l.getD i qB)).length))],pb 33 52 [(iv (((iP (l.getD i qB)).getD k zU).1)),(iv (((iP (l.getD i qB)).getD k zU).2.1)),(iv (((iP (l.getD i qB)).getD k zU).2.2))]] from by rw [preP_p (show ¬ k=0 from by omega)])) ?_
      exact vE hk6
     refine qU (zN h13)<|qF<|qY (Wk.eq (show _=[ps 3 (sv (st (zM l i))),ps 5 (.opt 0 0),ps 6 (sv (st (preP (iP (l.getD i qB)) k))),ps 8 (.opt 33 0),ps 13 (.ssl (qO l) 0 l.length),ps 14 (nv l.length),ps 15 (nv i),ps 38 (.ssl (zG (iP (l.getD i qB))) 0 ((iP (l.getD i qB)).length)),ps 39 (nv ((iP (l.getD i qB)).length)),ps 40 (nv k),ps 46 (bv (decide (0<(k:Int)))),pb 0 50 [(iv (iK (l.getD i qB))),(iv (iS (l.getD i qB))),(.ssl (zG (iP (l.getD i qB))) 0 ((iP (l.getD i qB)).length)),(iv ((iB (l.getD i qB)).1)),(iv ((iB (l.getD i qB)).2)),(sv (st (iL (l.getD i qB)))),(.ssl (qO (iC (l.getD i qB))) 0 ((iC (l.getD i qB)).length))],pb 33 52 [(iv (((iP (l.getD i qB)).getD k zU).1)),(iv (((iP (l.getD i qB)).getD k zU).2.1)),(iv (((iP (l.getD i qB)).getD k zU).2.2))]] from by rw [preP_0 (show k=0 from by omega)])) ?_
     exact vE hk6
    refine qU (zN h12)<|zS rfl rfl<|qA<|qA<|qY (Wk.eq (show _=[ps 3 (sv (st (zM l i))),ps 5 (.opt 0 0),ps 6 (sv (st (zC (iP (l.getD i qB))))),ps 13 (.ssl (qO l) 0 l.length),ps 14 (nv l.length),ps 15 (nv i),ps 38 (.ssl (zG (iP (l.getD i qB))) 0 ((iP (l.getD i qB)).length)),ps 39 (nv ((iP (l.getD i qB)).length)),ps 40 (nv k),ps 41 (bv (decide (((k:Nat):Int)<(((iP (l.getD i qB)).length:Nat):Int)))),pb 0 50 [(iv (iK (l.getD i qB))),(iv (iS (l.getD i qB))),(.ssl (zG (iP (l.getD i qB))) 0 ((iP (l.getD i qB)).length)),(iv ((iB (l.getD i qB)).1)),(iv ((iB (l.getD i qB)).2)),(sv (st (iL (l.getD i qB)))),(.ssl (qO (iC (l.getD i qB))) 0 ((iC (l.getD i qB)).length))]] from by rw [List.take_of_length_le (show (iP (l.getD i qB)).length≤k from by omega)])) ?_
    refine qL qC [.k6,.d,.d,.d,.d,.n,.r] [ps 61 (bv (decide (1<(((iP (l.getD i qB)).length:Nat):Int))))]<|T_f1 73 [ps 3 (sv (st (zM l i))),ps 5 (.opt 0 0),ps 6 (sv (st (Qw (iP (l.getD i qB))))),ps 13 (.ssl (qO l) 0 l.length),ps 14 (nv l.length),ps 15 (nv i),pb 0 50 [(iv (iK (l.getD i qB))),(iv (iS (l.getD i qB))),(.ssl (zG (iP (l.getD i qB))) 0 ((iP (l.getD i qB)).length)),(iv ((iB (l.getD i qB)).1)),(iv ((iB (l.getD i qB)).2)),(sv (st (iL (l.getD i qB)))),(.ssl (qO (iC (l.getD i qB))) 0 ((iC (l.getD i qB)).length))]] ?_ fun hk3=>?_
    ·refine qk qC [(2,.val (.av (.string (st ((zM l i)++(Qw (iP (l.getD i qB))))))))] [ps 3 (sv (st ((zM l i)++(Qw (iP (l.getD i qB)))))),ps 5 (.opt 0 0),ps 13 (.ssl (qO l) 0 l.length),ps 14 (nv l.length),ps 15 (nv i),pb 0 50 [(iv (iK (l.getD i qB))),(iv (iS (l.getD i qB))),(.ssl (zG (iP (l.getD i qB))) 0 ((iP (l.getD i qB)).length)),(iv ((iB (l.getD i qB)).1)),(iv ((iB (l.getD i qB)).2)),(sv (st (iL (l.getD i qB)))),(.ssl (qO (iC (l.getD i qB))) 0 ((iC (l.getD i qB)).length))]] (oc (by first|omega|(simp only [List.length_append,List.length_cons,List.length_nil];omega):(((zM l i).length+(Qw (iP (l.getD i qB))).length:Nat):Int)≤9223372036854775807) (oc (qK _ _:st (zM l i)++st (Qw (iP (l.getD i qB)))=st ((zM l i)++(Qw (iP (l.getD i qB))))) oz))<|qY (Wk.eq (show _=[ps 3 (sv (st (zM l i++qE (l.getD i qB)))),ps 5 (.opt 0 0),ps 13 (.ssl (qO l) 0 l.length),ps 14 (nv l.length),ps 15 (nv i),pb 0 50 [(iv (iK (l.getD i qB))),(iv (iS (l.getD i qB))),(.ssl (zG (iP (l.getD i qB))) 0 ((iP (l.getD i qB)).length)),(iv ((iB (l.getD i qB)).1)),(iv ((iB (l.getD i qB)).2)),(sv (st (iL (l.getD i qB)))),(.ssl (qO (iC (l.getD i qB))) 0 ((iC (l.getD i qB)).length))]] from by rw [hM];try simp only [List.append_assoc,List.cons_append,List.nil_append])) ?_
     refine qA<|qA<|qL qC [.k5,.n,.r] [ps 91 (bv (decide (1<(iS (l.getD i qB)))))]<|T_f1 185 [ps 3 (sv (st (zM l i++qE (l.getD i qB)++qI (iS (l.getD i qB))))),ps 5 (.opt 0 0),ps 13 (.ssl (qO l) 0 l.length),ps 14 (nv l.length),ps 15 (nv i),pb 0 50 [(iv (iK (l.getD i qB))),(iv (iS (l.getD i qB))),(.ssl (zG (iP (l.getD i qB))) 0 ((iP (l.getD i qB)).length)),(iv ((iB (l.getD i qB)).1)),(iv ((iB (l.getD i qB)).2)),(sv (st (iL (l.getD i qB)))),(.ssl (qO (iC (l.getD i qB))) 0 ((iC (l.getD i qB)).length))]] ?_ fun hk4=>?_
     ·refine qA<|qk qC [(2,.val (.av (.bool (!decide ((iL (l.getD i qB))=([]:TX))))))] [ps 3 (sv (st (zM l i++qE (l.getD i qB)++qI (iS (l.getD i qB))))),ps 5 (.opt 0 0),ps 13 (.ssl (qO l) 0 l.length),ps 14 (nv l.length),ps 15 (nv i),ps 100 (bv (!(decide ((iL (l.getD i qB))=([]:TX))))),pb 0 50 [(iv (iK (l.getD i qB))),(iv (iS (l.getD i qB))),(.ssl (zG (iP (l.getD i qB))) 0 ((iP (l.getD i qB)).length)),(iv ((iB (l.getD i qB)).1)),(iv ((iB (l.getD i qB)).2)),(sv (st (iL (l.getD i qB)))),(.ssl (qO (iC (l.getD i qB))) 0 ((iC (l.getD i qB)).length))]] (oc (jB _ _:(!((st (iL (l.getD i qB))).toList == (st ([]:TX)).toList)) = !decide ((iL (l.getD i qB))=([]:TX))) oz) ?_
      by_cases h16:(iL (l.getD i qB))=([]:TX)
      ·refine qU (bt h16)<|qF<|zF<|qY (Wk.eq (show _=[ps 3 (sv (st (zM l i++zQ (l.getD i qB)))),ps 5 (.opt 0 0),ps 13 (.ssl (qO l) 0 l.length),ps 14 (nv l.length),ps 15 (nv i),ps 100 (bv (!(decide ((iL (l.getD i qB))=([]:TX))))),pb 0 50 [(iv (iK (l.getD i qB))),(iv (iS (l.getD i qB))),(.ssl (zG (iP (l.getD i qB))) 0 ((iP (l.getD i qB)).length)),(iv ((iB (l.getD i qB)).1)),(iv ((iB (l.getD i qB)).2)),(sv (st (iL (l.getD i qB)))),(.ssl (qO (iC (l.getD i qB))) 0 ((iC (l.getD i qB)).length))]] from by rw [yV,show lyT (iL (l.getD i qB))=[] from if_pos (by assumption),List.append_nil,List.append_assoc])) ?_
       exact vE hk7
      refine qR (bf h16) ?_
      have hY:lyT (iL (l.getD i qB))=[32,34]++iL (l.getD i qB)++[34]:=if_neg (by assumption)
      have hY2:=congrArg List.length hY
      simp only [List.length_append,List.length_cons,List.length_nil] at hY2
      refine zY qC [(1,.val (.av (.string (st ((zM l i++qE (l.getD i qB)++qI (iS (l.getD i qB)))++([32,34]:TX)))))),(4,.val (.av (.string (st (((zM l i++qE (l.getD i qB)++qI (iS (l.getD i qB)))++([32,34]:TX))++(iL (l.getD i qB))))))),(5,.val (.av (.string (st ((((zM l i++qE (l.getD i qB)++qI (iS (l.getD i qB)))++([32,34]:TX))++(iL (l.getD i qB)))++([34]:TX))))))] [.d,.n,.d,.k3,.d,.d] [ps 3 (sv (st ((((zM l i++qE (l.getD i qB)++qI (iS (l.getD i qB)))++([32,34]:TX))++(iL (l.getD i qB)))++([34]:TX))))] (oc (by first|omega|(simp only [List.length_append,List.length_cons,List.length_nil];omega):(((zM l i++qE (l.getD i qB)++qI (iS (l.getD i qB))).length+([32,34]:TX).length:Nat):Int)≤9223372036854775807) (oc (qK _ _:st (zM l i++qE (l.getD i qB)++qI (iS (l.getD i qB)))++st ([32,34]:TX)=st ((zM l i++qE (l.getD i qB)++qI (iS (l.getD i qB)))++([32,34]:TX))) (oc (by first|omega|(simp only [List.length_append,List.length_cons,List.length_nil];omega):((((zM l i++qE (l.getD i qB)++qI (iS (l.getD i qB)))++([32,34]:TX)).length+(iL (l.getD i qB)).length:Nat):Int)≤9223372036854775807) (oc (qK _ _:st ((zM l i++qE (l.getD i qB)++qI (iS (l.getD i qB)))++([32,34]:TX))++st (iL (l.getD i qB))=st (((zM l i++qE (l.getD i qB)++qI (iS (l.getD i qB)))++([32,34]:TX))++(iL (l.getD i qB)))) (oc (by first|omega|(simp only [List.length_append,List.length_cons,List.length_nil];omega):(((((zM l i++qE (l.getD i qB)++qI (iS (l.getD i qB)))++([32,34]:TX))++(iL (l.getD i qB))).length+([34]:TX).length:Nat):Int)≤9223372036854775807) (oc (qK _ _:st (((zM l i++qE (l.getD i qB)++qI (iS (l.getD i qB)))++([32,34]:TX))++(iL (l.getD i qB)))++st ([34]:TX)=st ((((zM l i++qE (l.getD i qB)++qI (iS (l.getD i qB)))++([32,34]:TX))++(iL (l.getD i qB)))++([34]:TX))) oz))))))<|zF<|qY (Wk.eq (show _=[ps 3 (sv (st (zM l i++zQ (l.getD i qB)))),ps 13 (.ssl (qO l) 0 l.length),ps 14 (nv l.length),ps 15 (nv i)] from by rw [yV,hY];simp only [List.append_assoc])) ?_
      exact vE hk7
     by_cases h15:1<(iS (l.getD i qB))
     ·refine qR (zP h15) ?_
      have hS:qI (iS (l.getD i qB))=[42]++Lib.itoa (iS (l.getD i qB)):=if_neg (by omega)
      have hS2:=congrArg List.length hS
      simp only [List.length_append,List.length_cons,List.length_nil] at hS2
      refine zY qC [(1,.val (.av (.string (st ((zM l i++qE (l.getD i qB))++([42]:TX)))))),(4,.call [] [(iv (iS (l.getD i qB)))] [] (sv (st (Lib.itoa (iS (l.getD i qB))))) []),(5,.val (.av (.string (st (((zM l i++qE (l.getD i qB))++([42]:TX))++(Lib.itoa (iS (l.getD i qB))))))))] [.d,.n,.k4,.d,.r] [ps 3 (sv (st (((zM l i++qE (l.getD i qB))++([42]:TX))++(Lib.itoa (iS (l.getD i qB))))))] (oc (by first|omega|(simp only [List.length_append,List.length_cons,List.length_nil];omega):(((zM l i++qE (l.getD i qB)).length+([42]:TX).length:Nat):Int)≤9223372036854775807) (oc (qK _ _:st (zM l i++qE (l.getD i qB))++st ([42]:TX)=st ((zM l i++qE (l.getD i qB))++([42]:TX))) (yD 161 (vV (iS (l.getD i qB)) (by omega) (by omega)) (oc (by first|omega|(simp only [List.length_append,List.length_cons,List.length_nil];omega):((((zM l i++qE (l.getD i qB))++([42]:TX)).length+(Lib.itoa (iS (l.getD i qB))).length:Nat):Int)≤9223372036854775807) (oc (qK _ _:st ((zM l i++qE (l.getD i qB))++([42]:TX))++st (Lib.itoa (iS (l.getD i qB)))=st (((zM l i++qE (l.getD i qB))++([42]:TX))++(Lib.itoa (iS (l.getD i qB))))) oz)))))<|qY (Wk.eq (show _=[ps 3 (sv (st (zM l i++qE (l.getD i qB)++qI (iS (l.getD i qB))))),ps 5 (.opt 0 0),ps 13 (.ssl (qO l) 0 l.length),ps 14 (nv l.length),ps 15 (nv i),pb 0 50 [(iv (iK (l.getD i qB))),(iv (iS (l.getD i qB))),(.ssl (zG (iP (l.getD i qB))) 0 ((iP (l.getD i qB)).length)),(iv ((iB (l.getD i qB)).1)),(iv ((iB (l.getD i qB)).2)),(sv (st (iL (l.getD i qB)))),(.ssl (qO (iC (l.getD i qB))) 0 ((iC (l.getD i qB)).length))]] from by rw [hS];simp only [List.append_assoc])) ?_
      exact vE hk4
     refine qU (zN h15)<|qF<|qY (Wk.eq (show _=[ps 3 (sv (st (zM l i++qE (l.getD i qB)++qI (iS (l.getD i qB))))),ps 5 (.opt 0 0),ps 13 (.ssl (qO l) 0 l.length),ps 14 (nv l.length),ps 15 (nv i),ps 91 (bv (decide (1<(iS (l.getD i qB))))),pb 0 50 [(iv (iK (l.getD i qB))),(iv (iS (l.getD i qB))),(.ssl (zG (iP (l.getD i qB))) 0 ((iP (l.getD i qB)).length)),(iv ((iB (l.getD i qB)).1)),(iv ((iB (l.getD i qB)).2)),(sv (st (iL (l.getD i qB)))),(.ssl (qO (iC (l.getD i qB))) 0 ((iC (l.getD i qB)).length))]] from by rw [show qI (iS (l.getD i qB))=[] from if_pos (by omega),List.append_nil])) ?_
     exact vE hk4
    by_cases h14:1<(((iP (l.getD i qB)).length:Nat):Int)
    ·refine qR (zP h14) ?_
     rw [if_pos (show 1<(iP (l.getD i qB)).length from by omega)] at hcl
     refine zY qC [(1,.val (.av (.string (st (([60]:TX)++(zC (iP (l.getD i qB)))))))),(2,.val (.av (.string (st ((([60]:TX)++(zC (iP (l.getD i qB))))++([62]:TX))))))] [.k2,.d,.n,.k3,.d,.r] [ps 6 (sv (st ((([60]:TX)++(zC (iP (l.getD i qB))))++([62]:TX))))] (oc (by first|omega|(simp only [List.length_append,List.length_cons,List.length_nil];omega):((([60]:TX).length+(zC (iP (l.getD i qB))).length:Nat):Int)≤9223372036854775807) (oc (qK _ _:st ([60]:TX)++st (zC (iP (l.getD i qB)))=st (([60]:TX)++(zC (iP (l.getD i qB))))) (oc (by first|omega|(simp only [List.length_append,List.length_cons,List.length_nil];omega):(((([60]:TX)++(zC (iP (l.getD i qB)))).length+([62]:TX).length:Nat):Int)≤9223372036854775807) (oc (qK _ _:st (([60]:TX)++(zC (iP (l.getD i qB))))++st ([62]:TX)=st ((([60]:TX)++(zC (iP (l.getD i qB))))++([62]:TX))) oz))))<|qY (Wk.eq (show _=[ps 3 (sv (st (zM l i))),ps 5 (.opt 0 0),ps 6 (sv (st (Qw (iP (l.getD i qB))))),ps 13 (.ssl (qO l) 0 l.length),ps 14 (nv l.length),ps 15 (nv i),pb 0 50 [(iv (iK (l.getD i qB))),(iv (iS (l.getD i qB))),(.ssl (zG (iP (l.getD i qB))) 0 ((iP (l.getD i qB)).length)),(iv ((iB (l.getD i qB)).1)),(iv ((iB (l.getD i qB)).2)),(sv (st (iL (l.getD i qB)))),(.ssl (qO (iC (l.getD i qB))) 0 ((iC (l.getD i qB)).length))]] from by rw [show Qw (iP (l.getD i qB))=60 :: (zC (iP (l.getD i qB))++[62]) from if_pos (by omega)];rfl)) ?_
     exact vE hk3
    refine qU (zN h14)<|qF<|qY (Wk.eq (show _=[ps 3 (sv (st (zM l i))),ps 5 (.opt 0 0),ps 6 (sv (st (Qw (iP (l.getD i qB))))),ps 13 (.ssl (qO l) 0 l.length),ps 14 (nv l.length),ps 15 (nv i),ps 61 (bv (decide (1<(((iP (l.getD i qB)).length:Nat):Int)))),pb 0 50 [(iv (iK (l.getD i qB))),(iv (iS (l.getD i qB))),(.ssl (zG (iP (l.getD i qB))) 0 ((iP (l.getD i qB)).length)),(iv ((iB (l.getD i qB)).1)),(iv ((iB (l.getD i qB)).2)),(sv (st (iL (l.getD i qB)))),(.ssl (qO (iC (l.getD i qB))) 0 ((iC (l.getD i qB)).length))]] from by rw [show Qw (iP (l.getD i qB))=zC (iP (l.getD i qB)) from if_neg (by omega)])) ?_
    exact vE hk3
   refine qU (zN h11)<|qA<|qA<|qL qC [.k5,.d,.n,.r] [ps 70 (bv (decide ((iK (l.getD i qB))=5)))] ?_
   by_cases h21:(iK (l.getD i qB))=5
   ·refine qR (zP h21)<|qA ?_
    have hM:qE (l.getD i qB)=([117,112,32]++((qX (iB (l.getD i qB)).1 (iB (l.getD i qB)).2).1++[32]))++(91 :: (qq (iC (l.getD i qB))++[93])):=by unfold qE upT;rw [if_neg (show ¬ iK (l.getD i qB)=2 from by omega),if_neg (show ¬ iK (l.getD i qB)=3 from by omega),if_neg (show ¬ iK (l.getD i qB)=1 from by omega),if_pos (show iK (l.getD i qB)=5 from by omega)]
    have hM2:=congrArg List.length hM
    try simp only [List.length_append,List.length_cons,List.length_nil] at hM2
    refine vK qC 2 [.k2,.n,.k3,.d,.r] [ps 11 (sv (st ((qX ((iB (l.getD i qB)).1) ((iB (l.getD i qB)).2)).1)))] (yD 208 (VP (iB (l.getD i qB)).1 (iB (l.getD i qB)).2) oz)<|zY qC [(1,.val (.av (.string (st ((zM l i)++([117,112,32]:TX)))))),(3,.val (.av (.string (st (((zM l i)++([117,112,32]:TX))++((qX ((iB (l.getD i qB)).1) ((iB (l.getD i qB)).2)).1)))))),(4,.val (.av (.string (st ((((zM l i)++([117,112,32]:TX))++((qX ((iB (l.getD i qB)).1) ((iB (l.getD i qB)).2)).1))++([32]:TX))))))] [.d,.n,.k1,.d,.r] [ps 3 (sv (st ((((zM l i)++([117,112,32]:TX))++((qX ((iB (l.getD i qB)).1) ((iB (l.getD i qB)).2)).1))++([32]:TX))))] (oc (by first|omega|(simp <;> omega):(((zM l i).length+([117,112,32]:TX).length:Nat):Int)≤9223372036854775807) (oc (qK _ _:st (zM l i)++st ([117,112,32]:TX)=st ((zM l i)++([117,112,32]:TX))) (oc (by first|omega|(simp only [List.length_append,List.length_cons,List.length_nil];omega):((((zM l i)++([117,112,32]:TX)).length+((qX ((iB (l.getD i qB)).1) ((iB (l.getD i qB)).2)).1).length:Nat):Int)≤9223372036854775807) (oc (qK _ _:st ((zM l i)++([117,112,32]:TX))++st ((qX ((iB (l.getD i qB)).1) ((iB (l.getD i qB)).2)).1)=st (((zM l i)++([117,112,32]:TX))++((qX ((iB (l.getD i qB)).1) ((iB (l.getD i qB)).2)).1))) (oc (by first|omega|(simp only [List.length_append,List.length_cons,List.length_nil];omega):(((((zM l i)++([117,112,32]:TX))++((qX ((iB (l.getD i qB)).1) ((iB (l.getD i qB)).2)).1)).length+([32]:TX).length:Nat):Int)≤9223372036854775807) (oc (qK _ _:st (((zM l i)++([117,112,32]:TX))++((qX ((iB (l.getD i qB)).1) ((iB (l.getD i qB)).2)).1))++st ([32]:TX)=st ((((zM l i)++([117,112,32]:TX))++((qX ((iB (l.getD i qB)).1) ((iB (l.getD i qB)).2)).1))++([32]:TX))) oz))))))<|zY qC [(1,.val (.av (.string (st (((((zM l i)++([117,112,32]:TX))++((qX ((iB (l.getD i qB)).1) ((iB (l.getD i qB)).2)).1))++([32]:TX))++([91]:TX)))))),(4,.call [] [(.ssl (qO (iC (l.getD i qB))) 0 ((iC (l.getD i qB)).length))] [] (sv (st (qq (iC (l.getD i qB))))) []),(5,.val (.av (.string (st ((((((zM l i)++([117,112,32]:TX))++((qX ((iB (l.getD i qB)).1) ((iB (l.getD i qB)).2)).1))++([32]:TX))++([91]:TX))++(qq (iC (l.getD i qB)))))))),(6,.val (.av (.string (st (((((((zM l i)++([117,112,32]:TX))++((qX ((iB (l.getD i qB)).1) ((iB (l.getD i qB)).2)).1))++([32]:TX))++([91]:TX))++(qq (iC (l.getD i qB))))++([93]:TX))))))] [.d,.n,.r] [ps 3 (sv (st (((((((zM l i)++([117,112,32]:TX))++((qX ((iB (l.getD i qB)).1) ((iB (l.getD i qB)).2)).1))++([32]:TX))++([91]:TX))++(qq (iC (l.getD i qB))))++([93]:TX))))] (oc (by first|omega|(simp only [List.length_append,List.length_cons,List.length_nil];omega):((((((zM l i)++([117,112,32]:TX))++((qX ((iB (l.getD i qB)).1) ((iB (l.getD i qB)).2)).1))++([32]:TX)).length+([91]:TX).length:Nat):Int)≤9223372036854775807) (oc (qK _ _:st ((((zM l i)++([117,112,32]:TX))++((qX ((iB (l.getD i qB)).1) ((iB (l.getD i qB)).2)).1))++([32]:TX))++st ([91]:TX)=st (((((zM l i)++([117,112,32]:TX))++((qX ((iB (l.getD i qB)).1) ((iB (l.getD i qB)).2)).1))++([32]:TX))++([91]:TX))) (yD 336 (ih (iC (l.getD i qB)) (Nat.lt_trans (wq (l.getD i qB)) (qab (by omega))) (by omega) hx5 hw2 hx4 hpr.2.1) (oc (by first|omega|(simp only [List.length_append,List.length_cons,List.length_nil];omega):(((((((zM l i)++([117,112,32]:TX))++((qX ((iB (l.getD i qB)).1) ((iB (l.getD i qB)).2)).1))++([32]:TX))++([91]:TX)).length+(qq (iC (l.getD i qB))).length:Nat):Int)≤9223372036854775807) (oc (qK _ _:st (((((zM l i)++([117,112,32]:TX))++((qX ((iB (l.getD i qB)).1) ((iB (l.getD i qB)).2)).1))++([32]:TX))++([91]:TX))++st (qq (iC (l.getD i qB)))=st ((((((zM l i)++([117,112,32]:TX))++((qX ((iB (l.getD i qB)).1) ((iB (l.getD i qB)).2)).1))++([32]:TX))++([91]:TX))++(qq (iC (l.getD i qB))))) (oc (by first|omega|(simp only [List.length_append,List.length_cons,List.length_nil];omega):((((((((zM l i)++([117,112,32]:TX))++((qX ((iB (l.getD i qB)).1) ((iB (l.getD i qB)).2)).1))++([32]:TX))++([91]:TX))++(qq (iC (l.getD i qB)))).length+([93]:TX).length:Nat):Int)≤9223372036854775807) (oc (qK _ _:st ((((((zM l i)++([117,112,32]:TX))++((qX ((iB (l.getD i qB)).1) ((iB (l.getD i qB)).2)).1))++([32]:TX))++([91]:TX))++(qq (iC (l.getD i qB))))++st ([93]:TX)=st (((((((zM l i)++([117,112,32]:TX))++((qX ((iB (l.getD i qB)).1) ((iB (l.getD i qB)).2)).1))++([32]:TX))++([91]:TX))++(qq (iC (l.getD i qB))))++([93]:TX))) oz)))))))<|qY (Wk.eq (show _=[ps 3 (sv (st (zM l i++qE (l.getD i qB)))),ps 5 (.opt 32 0),ps 13 (.ssl (qO l) 0 l.length),ps 14 (nv l.length),ps 15 (nv i),pb 32 50 [(iv (iK (l.getD i qB))),(iv (iS (l.getD i qB))),(.ssl (zG (iP (l.getD i qB))) 0 ((iP (l.getD i qB)).length)),(iv ((iB (l.getD i qB)).1)),(iv ((iB (l.getD i qB)).2)),(sv (st (iL (l.getD i qB)))),(.ssl (qO (iC (l.getD i qB))) 0 ((iC (l.getD i qB)).length))]] from by rw [hM];try simp only [List.append_assoc,List.cons_append,List.nil_append])) ?_
    exact vE hk2
   refine qU (zN h21)<|qF ?_
   have hM:qE (l.getD i qB)=(91 :: (qq (iC (l.getD i qB))++[93])):=by unfold qE upT;rw [if_neg (show ¬ iK (l.getD i qB)=2 from by omega),if_neg (show ¬ iK (l.getD i qB)=3 from by omega),if_neg (show ¬ iK (l.getD i qB)=1 from by omega),if_neg (show ¬ iK (l.getD i qB)=5 from by omega)];rfl
   have hM2:=congrArg List.length hM
   try simp only [List.length_append,List.length_cons,List.length_nil] at hM2
   refine zY qC [(1,.val (.av (.string (st ((zM l i)++([91]:TX)))))),(4,.call [] [(.ssl (qO (iC (l.getD i qB))) 0 ((iC (l.getD i qB)).length))] [] (sv (st (qq (iC (l.getD i qB))))) []),(5,.val (.av (.string (st (((zM l i)++([91]:TX))++(qq (iC (l.getD i qB)))))))),(6,.val (.av (.string (st ((((zM l i)++([91]:TX))++(qq (iC (l.getD i qB))))++([93]:TX))))))] [.d,.n,.k4,.d,.r] [ps 3 (sv (st ((((zM l i)++([91]:TX))++(qq (iC (l.getD i qB))))++([93]:TX))))] (oc (by first|omega|(simp <;> omega):(((zM l i).length+([91]:TX).length:Nat):Int)≤9223372036854775807) (oc (qK _ _:st (zM l i)++st ([91]:TX)=st ((zM l i)++([91]:TX))) (yD 224 (ih (iC (l.getD i qB)) (Nat.lt_trans (wq (l.getD i qB)) (qab (by omega))) (by omega) hx5 hw2 hx4 hpr.2.1) (oc (by first|omega|(simp only [List.length_append,List.length_cons,List.length_nil];omega):((((zM l i)++([91]:TX)).length+(qq (iC (l.getD i qB))).length:Nat):Int)≤9223372036854775807) (oc (qK _ _:st ((zM l i)++([91]:TX))++st (qq (iC (l.getD i qB)))=st (((zM l i)++([91]:TX))++(qq (iC (l.getD i qB))))) (oc (by first|omega|(simp only [List.length_append,List.length_cons,List.length_nil];omega):(((((zM l i)++([91]:TX))++(qq (iC (l.getD i qB)))).length+([93]:TX).length:Nat):Int)≤9223372036854775807) (oc (qK _ _:st (((zM l i)++([91]:TX))++(qq (iC (l.getD i qB))))++st ([93]:TX)=st ((((zM l i)++([91]:TX))++(qq (iC (l.getD i qB))))++([93]:TX))) oz)))))))<|qY (Wk.eq (show _=[ps 3 (sv (st (zM l i++qE (l.getD i qB)))),ps 5 (.opt 32 0),ps 13 (.ssl (qO l) 0 l.length),ps 14 (nv l.length),ps 15 (nv i),pb 32 50 [(iv (iK (l.getD i qB))),(iv (iS (l.getD i qB))),(.ssl (zG (iP (l.getD i qB))) 0 ((iP (l.getD i qB)).length)),(iv ((iB (l.getD i qB)).1)),(iv ((iB (l.getD i qB)).2)),(sv (st (iL (l.getD i qB)))),(.ssl (qO (iC (l.getD i qB))) 0 ((iC (l.getD i qB)).length))]] from by rw [hM];try simp only [List.append_assoc,List.cons_append,List.nil_append])) ?_
   exact vE hk2
  by_cases h2:0<(i:Int)
  ·refine qR (zP h2) ?_
   have hrn2:=hrn.1
   rw [if_neg (show ¬ i=0 from by omega)] at hrn2
   refine zY qC [(1,.val (.av (.string (st ((qq (l.take i))++([32]:TX))))))] [.d,.n,.k4,.d,.r] [ps 3 (sv (st ((qq (l.take i))++([32]:TX))))] (oc (by first|omega|(simp <;> omega):(((qq (l.take i)).length+([32]:TX).length:Nat):Int)≤9223372036854775807) (oc (qK _ _:st (qq (l.take i))++st ([32]:TX)=st ((qq (l.take i))++([32]:TX))) oz))<|qY (Wk.eq (show _=[ps 3 (sv (st (zM l i))),ps 5 (.opt 32 0),ps 13 (.ssl (qO l) 0 l.length),ps 14 (nv l.length),ps 15 (nv i),pb 32 50 [(iv (iK (l.getD i qB))),(iv (iS (l.getD i qB))),(.ssl (zG (iP (l.getD i qB))) 0 ((iP (l.getD i qB)).length)),(iv ((iB (l.getD i qB)).1)),(iv ((iB (l.getD i qB)).2)),(sv (st (iL (l.getD i qB)))),(.ssl (qO (iC (l.getD i qB))) 0 ((iC (l.getD i qB)).length))]] from by rw [preT_p (show ¬ i=0 from by omega)])) ?_
   exact vE hk1
  refine qU (zN h2)<|qF<|qY (Wk.eq (show _=[ps 3 (sv (st (zM l i))),ps 5 (.opt 32 0),ps 13 (.ssl (qO l) 0 l.length),ps 14 (nv l.length),ps 15 (nv i),ps 21 (bv (decide (0<(i:Int)))),pb 32 50 [(iv (iK (l.getD i qB))),(iv (iS (l.getD i qB))),(.ssl (zG (iP (l.getD i qB))) 0 ((iP (l.getD i qB)).length)),(iv ((iB (l.getD i qB)).1)),(iv ((iB (l.getD i qB)).2)),(sv (st (iL (l.getD i qB)))),(.ssl (qO (iC (l.getD i qB))) 0 ((iC (l.getD i qB)).length))]] from by rw [preT_0 (show i=0 from by omega)])) ?_
  exact vE hk1
 refine qU (zN h1)<|zS rfl rfl<|qA<|qk qC [] [ps 2 (sv (st (qq (l.take i))))] (oz)<|qY (Wk.eq (show _=[ps 2 (sv (st (qq l)))] from by rw [List.take_of_length_le (show l.length≤i from by omega)])) ?_
 exact yA hc0 [2] []
theorem text_all:∀ (m:Nat) (l:List It),SizeOf.sizeOf l<m→(qq l).length≤140737488355328→wy l→wdL l→l.length≤1466015503658→prL l→PC Tryz.prog 34 [.ssl (qO l) 0 l.length] [] (sv (st (qq l))) []
 | 0,_,h=>absurd h (Nat.not_lt_zero _)
 | m+1,l,h=>text_step l fun c hc=>text_all m c (by omega)
theorem text_pc (l:List It):(qq l).length≤140737488355328→wy l→wdL l→l.length≤1466015503658→prL l→PC Tryz.prog 34 [.ssl (qO l) 0 l.length] [] (sv (st (qq l))) []:=text_all _ l (Nat.lt_succ_self _)
theorem nprint_pc (l:List Vo) (hfv:qca l) (hwv:wdVs l):PC Tryz.prog 11 [(.ssl (yJ l) 0 l.length)] [] (.tup [(sv (st ((yx l).1))),(iv ((yx l).2))]) []:=by
 refine zI Tryz.func11 rfl (by kernel_rfl) (Nat.le_of_ble_eq_true rfl) (by kernel_rfl) (l0:=[ps 0 (.ssl (yJ l) 0 l.length)]) rfl (fun c0 Bor hc0=>?_)
 refine qA<|qL qC [.r] []<|qA<|qA<|vK qC 1 [.k1,.n] [ps 4 (iv (qw l))] (yD 24 (qcs l hfv hwv) oz)<|qA<|qL qC [.k2,.n] [ps 13 (bv (!(decide ((qw l)=0))))] ?_
 by_cases h1:(qw l)=0
 ·refine qU (bt h1)<|qF<|qA<|qL qC [.k1,.d,.n,.d] [ps 5 se]<|qA<|qA<|qL qC [.d,.k1,.n,.n,.n] [ps 15 (.ssl (yJ l) 0 l.length),ps 16 (nv l.length),ps 17 (iv 0)]<|qV ?_
  have hb:=pc_bound (show qw l=0 from by omega)
  obtain ⟨hp1,hp2⟩:=qfe (show qw l=0 from by omega)
  refine qY (Wk.eq (show _=[ps 5 (sv (st (zw (l.take 0)))),ps 15 (.ssl (yJ l) 0 l.length),ps 16 (nv l.length),ps 17 (iv 0)] from by rw [List.take_zero];rfl)) ?_
  refine yC (α:={x:Nat // x≤l.length}) (fun x=>[ps 5 (sv (st (zw (l.take x.1)))),ps 15 (.ssl (yJ l) 0 l.length),ps 16 (nv l.length),ps 17 (nv x.1)]) (fun x=>l.length-x.1) 0 ⟨0,Nat.zero_le _⟩ (Wk.ren2 _ 0 hc0 [] rfl rfl (by kernel_rfl) (by kernel_rfl)) ?_
  rintro ⟨i,hi⟩
  refine qA<|qk qC [] [ps 5 (sv (st (zw (l.take i)))),ps 15 (.ssl (yJ l) 0 l.length),ps 16 (nv l.length),ps 17 (nv i),ps 18 (bv (decide (((i:Nat):Int)<(l.length:Int))))] (oz)<|qA ?_
  by_cases h2:(i:Int)<(l.length:Int)
  ·refine qR (zP h2)<|qF<|qA<|qV<|qA ?_
   have hvo:=hp2 _ (qbx (d:=qD) (show i<l.length from by omega))
   obtain ⟨hv1,hv2,hv3⟩:=qeg hvo
   have hvf:=hfv.2 i (by omega)
   have hnl:=(of_decide_eq_true hv1).2.1
   have hrm:=vo_room (show i<l.length from by omega)
   have hvl:=congrArg List.length (qeh (l.getD i qD))
   simp only [List.length_append,List.length_cons,List.length_nil] at hvl
   refine zY qC [(0,.nat (i*2)),(1,.cells [(sv (st ((l.getD i qD).1))),(.ssl (vF ((l.getD i qD).2)) 0 (((l.getD i qD).2).length))])] [.k1,.n,.k3,.d,.n] [ps 7 (.opt 24 0),pb 24 44 [(sv (st ((l.getD i qD).1))),(.ssl (vF ((l.getD i qD).2)) 0 (((l.getD i qD).2).length))]] (oc (by omega:(0:Int)≤(i:Int)∧(i:Int)<(l.length:Int)) (oc (by omega:0+(((i:Nat):Int):Int).toNat*2=(i*2)) (oc (yG voC 2 (fun _=>rfl) qD l i 0 2 (by omega) (by decide):(i*2)+2≤((yJ l)).length∧(((yJ l)).drop (i*2)).take 2=[(sv (st ((l.getD i qD).1))),(.ssl (vF ((l.getD i qD).2)) 0 (((l.getD i qD).2).length))]) oz))) ?_
   refine qA<|zY qC [(1,.val (.av (.string (st ((zw (l.take i))++([118,111,105,99,101,32]:TX)))))),(4,.val (.av (.string (st (((zw (l.take i))++([118,111,105,99,101,32]:TX))++((l.getD i qD).1)))))),(5,.val (.av (.string (st ((((zw (l.take i))++([118,111,105,99,101,32]:TX))++((l.getD i qD).1))++([10]:TX))))))] [.d,.n,.r] [ps 5 (sv (st ((((zw (l.take i))++([118,111,105,99,101,32]:TX))++((l.getD i qD).1))++([10]:TX))))] (oc (by first|omega|(simp <;> omega):(((zw (l.take i)).length+([118,111,105,99,101,32]:TX).length:Nat):Int)≤9223372036854775807) (oc (qK _ _:st (zw (l.take i))++st ([118,111,105,99,101,32]:TX)=st ((zw (l.take i))++([118,111,105,99,101,32]:TX))) (oc (by first|omega|(simp only [List.length_append,List.length_cons,List.length_nil];omega):((((zw (l.take i))++([118,111,105,99,101,32]:TX)).length+((l.getD i qD).1).length:Nat):Int)≤9223372036854775807) (oc (qK _ _:st ((zw (l.take i))++([118,111,105,99,101,32]:TX))++st ((l.getD i qD).1)=st (((zw (l.take i))++([118,111,105,99,101,32]:TX))++((l.getD i qD).1))) (oc (by first|omega|(simp only [List.length_append,List.length_cons,List.length_nil];omega):(((((zw (l.take i))++([118,111,105,99,101,32]:TX))++((l.getD i qD).1)).length+([10]:TX).length:Nat):Int)≤9223372036854775807) (oc (qK _ _:st (((zw (l.take i))++([118,111,105,99,101,32]:TX))++((l.getD i qD).1))++st ([10]:TX)=st ((((zw (l.take i))++([118,111,105,99,101,32]:TX))++((l.getD i qD).1))++([10]:TX))) oz))))))<|qA<|qL qC [.k1,.d,.k3,.n,.n,.n,.d] [ps 28 (.ssl (vF ((l.getD i qD).2)) 0 (((l.getD i qD).2).length)),ps 29 (nv (((l.getD i qD).2).length)),ps 30 (iv 0)]<|qV<|qY (Wk.eq (show _=[ps 5 (sv (st (zw (l.take i)++[118,111,105,99,101,32]++(l.getD i qD).1++[10]++zX ((l.getD i qD).2.take 0)))),ps 15 (.ssl (yJ l) 0 l.length),ps 16 (nv l.length),ps 17 (nv i),ps 28 (.ssl (vF ((l.getD i qD).2)) 0 (((l.getD i qD).2).length)),ps 29 (nv (((l.getD i qD).2).length)),ps 30 (iv 0)] from by rw [List.take_zero];rw [show zX []=[] from rfl,List.append_nil])) ?_
   refine yC (α:={x:Nat // x≤(l.getD i qD).2.length}) (fun x=>[ps 5 (sv (st (zw (l.take i)++[118,111,105,99,101,32]++(l.getD i qD).1++[10]++zX ((l.getD i qD).2.take x.1)))),ps 15 (.ssl (yJ l) 0 l.length),ps 16 (nv l.length),ps 17 (nv i),ps 28 (.ssl (vF ((l.getD i qD).2)) 0 (((l.getD i qD).2).length)),ps 29 (nv (((l.getD i qD).2).length)),ps 30 (nv x.1)]) (fun x=>(l.getD i qD).2.length-x.1) 0 ⟨0,Nat.zero_le _⟩ (Wk.ren2 _ 0 hc0 [] rfl rfl (by kernel_rfl) (by kernel_rfl)) ?_
   rintro ⟨k,hk⟩
   refine qA<|qk qC [] [ps 5 (sv (st (zw (l.take i)++[118,111,105,99,101,32]++(l.getD i qD).1++[10]++zX ((l.getD i qD).2.take k)))),ps 15 (.ssl (yJ l) 0 l.length),ps 16 (nv l.length),ps 17 (nv i),ps 28 (.ssl (vF ((l.getD i qD).2)) 0 (((l.getD i qD).2).length)),ps 29 (nv (((l.getD i qD).2).length)),ps 30 (nv k),ps 31 (bv (decide (((k:Nat):Int)<((((l.getD i qD).2).length:Nat):Int))))] (oz)<|qA ?_
   by_cases h3:(k:Int)<((((l.getD i qD).2).length:Nat):Int)
   ·refine qR (zP h3)<|qF<|qA<|qV<|qA ?_
    have hbo:=qkp (hv3 _ (qbx (d:=zB) (show k<(l.getD i qD).2.length from by omega)))
    have hbf:=hvf.2.2 k (by omega)
    have hbr:=br_room (show k<(l.getD i qD).2.length from by omega)
    have hbl:=congrArg List.length (qgg ((l.getD i qD).2.getD k zB))
    simp only [List.length_append,List.length_cons,List.length_nil] at hbl
    refine zY qC [(0,.nat (k*3)),(1,.cells [(iv ((((l.getD i qD).2).getD k zB).1)),(iv ((((l.getD i qD).2).getD k zB).2.1)),(.ssl (qO ((((l.getD i qD).2).getD k zB).2.2)) 0 (((((l.getD i qD).2).getD k zB).2.2).length))])] [.k1,.n,.k6,.d,.n] [ps 9 (.opt 24 0),pb 24 47 [(iv ((((l.getD i qD).2).getD k zB).1)),(iv ((((l.getD i qD).2).getD k zB).2.1)),(.ssl (qO ((((l.getD i qD).2).getD k zB).2.2)) 0 (((((l.getD i qD).2).getD k zB).2.2).length))]] (oc (by omega:(0:Int)≤(k:Int)∧(k:Int)<((((l.getD i qD).2).length:Nat):Int)) (oc (by omega:0+(((k:Nat):Int):Int).toNat*3=(k*3)) (oc (yG brC 3 (fun _=>rfl) zB ((l.getD i qD).2) k 0 3 (by omega) (by decide):(k*3)+3≤((vF ((l.getD i qD).2))).length∧(((vF ((l.getD i qD).2))).drop (k*3)).take 3=[(iv ((((l.getD i qD).2).getD k zB).1)),(iv ((((l.getD i qD).2).getD k zB).2.1)),(.ssl (qO ((((l.getD i qD).2).getD k zB).2.2)) 0 (((((l.getD i qD).2).getD k zB).2.2).length))]) oz))) ?_
    refine QK qC [(1,.val (.av (.string (st ((zw (l.take i)++[118,111,105,99,101,32]++(l.getD i qD).1++[10]++zX ((l.getD i qD).2.take k))++([124,32]:TX)))))),(4,.call [] [(iv ((((l.getD i qD).2).getD k zB).1))] [] (sv (st (Lib.itoa ((((l.getD i qD).2).getD k zB).1)))) []),(5,.val (.av (.string (st (((zw (l.take i)++[118,111,105,99,101,32]++(l.getD i qD).1++[10]++zX ((l.getD i qD).2.take k))++([124,32]:TX))++(Lib.itoa ((((l.getD i qD).2).getD k zB).1))))))),(6,.val (.av (.string (st ((((zw (l.take i)++[118,111,105,99,101,32]++(l.getD i qD).1++[10]++zX ((l.getD i qD).2.take k))++([124,32]:TX))++(Lib.itoa ((((l.getD i qD).2).getD k zB).1)))++([47]:TX)))))),(9,.call [] [(iv ((((l.getD i qD).2).getD k zB).2.1))] [] (sv (st (Lib.itoa ((((l.getD i qD).2).getD k zB).2.1)))) []),(10,.val (.av (.string (st (((((zw (l.take i)++[118,111,105,99,101,32]++(l.getD i qD).1++[10]++zX ((l.getD i qD).2.take k))++([124,32]:TX))++(Lib.itoa ((((l.getD i qD).2).getD k zB).1)))++([47]:TX))++(Lib.itoa ((((l.getD i qD).2).getD k zB).2.1))))))),(11,.val (.av (.string (st ((((((zw (l.take i)++[118,111,105,99,101,32]++(l.getD i qD).1++[10]++zX ((l.getD i qD).2.take k))++([124,32]:TX))++(Lib.itoa ((((l.getD i qD).2).getD k zB).1)))++([47]:TX))++(Lib.itoa ((((l.getD i qD).2).getD k zB).2.1)))++([32]:TX)))))),(14,.call [] [(.ssl (qO ((((l.getD i qD).2).getD k zB).2.2)) 0 (((((l.getD i qD).2).getD k zB).2.2).length))] [] (sv (st (qq ((l.getD i qD).2.getD k zB).2.2))) []),(15,.val (.av (.string (st (((((((zw (l.take i)++[118,111,105,99,101,32]++(l.getD i qD).1++[10]++zX ((l.getD i qD).2.take k))++([124,32]:TX))++(Lib.itoa ((((l.getD i qD).2).getD k zB).1)))++([47]:TX))++(Lib.itoa ((((l.getD i qD).2).getD k zB).2.1)))++([32]:TX))++(qq ((l.getD i qD).2.getD k zB).2.2)))))),(16,.val (.av (.string (st ((((((((zw (l.take i)++[118,111,105,99,101,32]++(l.getD i qD).1++[10]++zX ((l.getD i qD).2.take k))++([124,32]:TX))++(Lib.itoa ((((l.getD i qD).2).getD k zB).1)))++([47]:TX))++(Lib.itoa ((((l.getD i qD).2).getD k zB).2.1)))++([32]:TX))++(qq ((l.getD i qD).2.getD k zB).2.2))++([10]:TX))))))] (bfm [[],[(0,1)],[],[(2,1)],[(2,2)],[(0,5)],[(0,6)],[],[(7,1)],[(2,3),(7,2)],[(0,10)],[(0,11)],[],[(12,1)],[(2,3),(7,3),(12,2)],[(0,15)],[(0,16)],[(0,17)]]) [([68],[10]),([70],[68]),([72],[18]),([74],[49,72]),([76],[74]),([78],[70,76]),([80],[78]),([82],[18]),([84],[49,82]),([86],[84]),([88],[80,86]),([90],[88]),([92],[18]),([94],[49,92]),([96],[94]),([98],[90,96]),([100],[98]),([10],[100])] [.d,.n,.d,.k6,.d] [ps 5 (sv (st ((((((((zw (l.take i)++[118,111,105,99,101,32]++(l.getD i qD).1++[10]++zX ((l.getD i qD).2.take k))++([124,32]:TX))++(Lib.itoa ((((l.getD i qD).2).getD k zB).1)))++([47]:TX))++(Lib.itoa ((((l.getD i qD).2).getD k zB).2.1)))++([32]:TX))++(qq ((l.getD i qD).2.getD k zB).2.2))++([10]:TX))))] (oc (by first|omega|(simp only [List.length_append,List.length_cons,List.length_nil];omega):(((zw (l.take i)++[118,111,105,99,101,32]++(l.getD i qD).1++[10]++zX ((l.getD i qD).2.take k)).length+([124,32]:TX).length:Nat):Int)≤9223372036854775807) (oc (qK _ _:st (zw (l.take i)++[118,111,105,99,101,32]++(l.getD i qD).1++[10]++zX ((l.getD i qD).2.take k))++st ([124,32]:TX)=st ((zw (l.take i)++[118,111,105,99,101,32]++(l.getD i qD).1++[10]++zX ((l.getD i qD).2.take k))++([124,32]:TX))) (yD 72 (vV ((((l.getD i qD).2).getD k zB).1) (by omega) (by omega)) (oc (by first|omega|(simp only [List.length_append,List.length_cons,List.length_nil];omega):((((zw (l.take i)++[118,111,105,99,101,32]++(l.getD i qD).1++[10]++zX ((l.getD i qD).2.take k))++([124,32]:TX)).length+(Lib.itoa ((((l.getD i qD).2).getD k zB).1)).length:Nat):Int)≤9223372036854775807) (oc (qK _ _:st ((zw (l.take i)++[118,111,105,99,101,32]++(l.getD i qD).1++[10]++zX ((l.getD i qD).2.take k))++([124,32]:TX))++st (Lib.itoa ((((l.getD i qD).2).getD k zB).1))=st (((zw (l.take i)++[118,111,105,99,101,32]++(l.getD i qD).1++[10]++zX ((l.getD i qD).2.take k))++([124,32]:TX))++(Lib.itoa ((((l.getD i qD).2).getD k zB).1)))) (oc (by first|omega|(simp only [List.length_append,List.length_cons,List.length_nil];omega):(((((zw (l.take i)++[118,111,105,99,101,32]++(l.getD i qD).1++[10]++zX ((l.getD i qD).2.take k))++([124,32]:TX))++(Lib.itoa ((((l.getD i qD).2).getD k zB).1))).length+([47]:TX).length:Nat):Int)≤9223372036854775807) (oc (qK _ _:st (((zw (l.take i)++[118,111,105,99,101,32]++(l.getD i qD).1++[10]++zX ((l.getD i qD).2.take k))++([124,32]:TX))++(Lib.itoa ((((l.getD i qD).2).getD k zB).1)))++st ([47]:TX)=st ((((zw (l.take i)++[118,111,105,99,101,32]++(l.getD i qD).1++[10]++zX ((l.getD i qD).2.take k))++([124,32]:TX))++(Lib.itoa ((((l.getD i qD).2).getD k zB).1)))++([47]:TX))) (yD 112 (vV ((((l.getD i qD).2).getD k zB).2.1) (by omega) (by omega)) (oc (by first|omega|(simp only [List.length_append,List.length_cons,List.length_nil];omega):((((((zw (l.take i)++[118,111,105,99,101,32]++(l.getD i qD).1++[10]++zX ((l.getD i qD).2.take k))++([124,32]:TX))++(Lib.itoa ((((l.getD i qD).2).getD k zB).1)))++([47]:TX)).length+(Lib.itoa ((((l.getD i qD).2).getD k zB).2.1)).length:Nat):Int)≤9223372036854775807) (oc (qK _ _:st ((((zw (l.take i)++[118,111,105,99,101,32]++(l.getD i qD).1++[10]++zX ((l.getD i qD).2.take k))++([124,32]:TX))++(Lib.itoa ((((l.getD i qD).2).getD k zB).1)))++([47]:TX))++st (Lib.itoa ((((l.getD i qD).2).getD k zB).2.1))=st (((((zw (l.take i)++[118,111,105,99,101,32]++(l.getD i qD).1++[10]++zX ((l.getD i qD).2.take k))++([124,32]:TX))++(Lib.itoa ((((l.getD i qD).2).getD k zB).1)))++([47]:TX))++(Lib.itoa ((((l.getD i qD).2).getD k zB).2.1)))) (oc (by first|omega|(simp only [List.length_append,List.length_cons,List.length_nil];omega):(((((((zw (l.take i)++[118,111,105,99,101,32]++(l.getD i qD).1++[10]++zX ((l.getD i qD).2.take k))++([124,32]:TX))++(Lib.itoa ((((l.getD i qD).2).getD k zB).1)))++([47]:TX))++(Lib.itoa ((((l.getD i qD).2).getD k zB).2.1))).length+([32]:TX).length:Nat):Int)≤9223372036854775807) (oc (qK _ _:st (((((zw (l.take i)++[118,111,105,99,101,32]++(l.getD i qD).1++[10]++zX ((l.getD i qD).2.take k))++([124,32]:TX))++(Lib.itoa ((((l.getD i qD).2).getD k zB).1)))++([47]:TX))++(Lib.itoa ((((l.getD i qD).2).getD k zB).2.1)))++st ([32]:TX)=st ((((((zw (l.take i)++[118,111,105,99,101,32]++(l.getD i qD).1++[10]++zX ((l.getD i qD).2.take k))++([124,32]:TX))++(Lib.itoa ((((l.getD i qD).2).getD k zB).1)))++([47]:TX))++(Lib.itoa ((((l.getD i qD).2).getD k zB).2.1)))++([32]:TX))) (yD 152 (text_pc ((l.getD i qD).2.getD k zB).2.2 (by omega) hbf.2.2.2 (hwv i (by omega) k (by omega)).1 hbf.2.2.1 (qjl hbo.2.2.1)) (oc (by first|omega|(simp only [List.length_append,List.length_cons,List.length_nil];omega):((((((((zw (l.take i)++[118,111,105,99,101,32]++(l.getD i qD).1++[10]++zX ((l.getD i qD).2.take k))++([124,32]:TX))++(Lib.itoa ((((l.getD i qD).2).getD k zB).1)))++([47]:TX))++(Lib.itoa ((((l.getD i qD).2).getD k zB).2.1)))++([32]:TX)).length+(qq ((l.getD i qD).2.getD k zB).2.2).length:Nat):Int)≤9223372036854775807) (oc (qK _ _:st ((((((zw (l.take i)++[118,111,105,99,101,32]++(l.getD i qD).1++[10]++zX ((l.getD i qD).2.take k))++([124,32]:TX))++(Lib.itoa ((((l.getD i qD).2).getD k zB).1)))++([47]:TX))++(Lib.itoa ((((l.getD i qD).2).getD k zB).2.1)))++([32]:TX))++st (qq ((l.getD i qD).2.getD k zB).2.2)=st (((((((zw (l.take i)++[118,111,105,99,101,32]++(l.getD i qD).1++[10]++zX ((l.getD i qD).2.take k))++([124,32]:TX))++(Lib.itoa ((((l.getD i qD).2).getD k zB).1)))++([47]:TX))++(Lib.itoa ((((l.getD i qD).2).getD k zB).2.1)))++([32]:TX))++(qq ((l.getD i qD).2.getD k zB).2.2))) (oc (by first|omega|(simp only [List.length_append,List.length_cons,List.length_nil];omega):(((((((((zw (l.take i)++[118,111,105,99,101,32]++(l.getD i qD).1++[10]++zX ((l.getD i qD).2.take k))++([124,32]:TX))++(Lib.itoa ((((l.getD i qD).2).getD k zB).1)))++([47]:TX))++(Lib.itoa ((((l.getD i qD).2).getD k zB).2.1)))++([32]:TX))++(qq ((l.getD i qD).2.getD k zB).2.2)).length+([10]:TX).length:Nat):Int)≤9223372036854775807) (oc (qK _ _:st (((((((zw (l.take i)++[118,111,105,99,101,32]++(l.getD i qD).1++[10]++zX ((l.getD i qD).2.take k))++([124,32]:TX))++(Lib.itoa ((((l.getD i qD).2).getD k zB).1)))++([47]:TX))++(Lib.itoa ((((l.getD i qD).2).getD k zB).2.1)))++([32]:TX))++(qq ((l.getD i qD).2.getD k zB).2.2))++st ([10]:TX)=st ((((((((zw (l.take i)++[118,111,105,99,101,32]++(l.getD i qD).1++[10]++zX ((l.getD i qD).2.take k))++([124,32]:TX))++(Lib.itoa ((((l.getD i qD).2).getD k zB).1)))++([47]:TX))++(Lib.itoa ((((l.getD i qD).2).getD k zB).2.1)))++([32]:TX))++(qq ((l.getD i qD).2.getD k zB).2.2))++([10]:TX))) oz)))))))))))))))))<|zF ?_
    have hbn:zw (l.take i)++[118,111,105,99,101,32]++(l.getD i qD).1++[10]++zX ((l.getD i qD).2.take (k+1))=((((((((zw (l.take i)++[118,111,105,99,101,32]++(l.getD i qD).1++[10]++zX ((l.getD i qD).2.take k))++([124,32]:TX))++(Lib.itoa ((((l.getD i qD).2).getD k zB).1)))++([47]:TX))++(Lib.itoa ((((l.getD i qD).2).getD k zB).2.1)))++([32]:TX))++(qq ((l.getD i qD).2.getD k zB).2.2))++([10]:TX)):=by rw [qkn (show k<(l.getD i qD).2.length from by omega),qgg];simp only [List.append_assoc]
    refine zY qC [] [.k6,.d,.n] [ps 30 (iv (((k:Nat):Int)+1))] (oi (((k:Nat):Int)+1) (by omega) oz) ?_
    exact zR ⟨k+1,by show k+1≤(l.getD i qD).2.length;omega⟩ (Wk.trans (Wk.eq (show _=[ps 5 (sv (st (zw (l.take i)++[118,111,105,99,101,32]++(l.getD i qD).1++[10]++zX ((l.getD i qD).2.take (k+1))))),ps 15 (.ssl (yJ l) 0 l.length),ps 16 (nv l.length),ps 17 (nv i),ps 28 (.ssl (vF ((l.getD i qD).2)) 0 (((l.getD i qD).2).length)),ps 29 (nv (((l.getD i qD).2).length)),ps 30 (nv (k+1))] from by rw [hbn];rfl)) (Wk.ren2 _ 0 hc0 [] rfl rfl (by kernel_rfl) (by kernel_rfl))) (show (l.getD i qD).2.length-(k+1)<(l.getD i qD).2.length-k from by show (l.getD i qD).2.length-(k+1)<(l.getD i qD).2.length-k;omega)
   refine qU (zN h3)<|zS rfl rfl<|zF<|qY (Wk.eq (show _=[ps 5 (sv (st (zw (l.take i)++[118,111,105,99,101,32]++(l.getD i qD).1++[10]++zX (l.getD i qD).2))),ps 15 (.ssl (yJ l) 0 l.length),ps 16 (nv l.length),ps 17 (nv i),ps 28 (.ssl (vF ((l.getD i qD).2)) 0 (((l.getD i qD).2).length)),ps 29 (nv (((l.getD i qD).2).length)),ps 30 (nv k),ps 31 (bv (decide (((k:Nat):Int)<((((l.getD i qD).2).length:Nat):Int))))] from by rw [List.take_of_length_le (show (l.getD i qD).2.length≤k from by omega)])) ?_
   have hvn:zw (l.take (i+1))=(zw (l.take i)++[118,111,105,99,101,32]++(l.getD i qD).1++[10]++zX (l.getD i qD).2):=by rw [qin (show i<l.length from by omega),qeh];simp only [List.append_assoc]
   refine zY qC [] [.k3,.d,.n,.d,.d,.d,.d] [ps 17 (iv (((i:Nat):Int)+1))] (oi (((i:Nat):Int)+1) (by omega) oz) ?_
   exact zR ⟨i+1,by show i+1≤l.length;omega⟩ (Wk.trans (Wk.eq (show _=[ps 5 (sv (st (zw (l.take (i+1))))),ps 15 (.ssl (yJ l) 0 l.length),ps 16 (nv l.length),ps 17 (nv (i+1))] from by rw [hvn];rfl)) (Wk.ren2 _ 0 hc0 [] rfl rfl (by kernel_rfl) (by kernel_rfl))) (show l.length-(i+1)<l.length-i from by show l.length-(i+1)<l.length-i;omega)
  refine qU (zN h2)<|zS rfl rfl<|qA<|qA<|qY (Wk.eq (show _=[ps 5 (sv (st (zw l))),ps 15 (.ssl (yJ l) 0 l.length),ps 16 (nv l.length),ps 17 (nv i),ps 18 (bv (decide (((i:Nat):Int)<(l.length:Int))))] from by rw [List.take_of_length_le (show l.length≤i from by omega)])) ?_
  refine qk qC [] [ps 5 (sv (st (zw l))),ps 55 (bv (decide (65536<(((zw l).length:Nat):Int))))] (oz) ?_
  by_cases h4:65536<(((zw l).length:Nat):Int)
  ·refine qR (zP h4)<|qA<|qk qC [] [ps 2 se,ps 3 (iv 4)] (oz) ?_
   have hT:yx l=([],4):=by unfold yx;rw [if_pos (by omega),if_pos (show 65536<(zw l).length from by omega)]
   rw [hT]
   exact yA hc0 [2,3] []
  refine qU (zN h4)<|qF<|qA<|qk qC [] [ps 2 (sv (st (zw l))),ps 3 (iv 0)] (oz) ?_
  have hT:yx l=(zw l,0):=by unfold yx;rw [if_pos (by omega),if_neg (show ¬ 65536<(zw l).length from by omega)]
  rw [hT]
  exact yA hc0 [2,3] []
 refine qR (bf h1)<|qA<|qk qC [] [ps 2 se,ps 3 (iv (qw l))] (oz) ?_
 have hT:yx l=([],qw l):=if_neg (by omega)
 rw [hT]
 exact yA hc0 [2,3] []
end Go.Proofs.YtmlnilkbolcknaaGreatDoor.Pm
namespace Go.Proofs.YtmlnilkbolcknaaGreatDoor.Pm
open Go Go.RowKit
theorem rep_opn {P:Program} {c:Cx} {id off:Nat} {v:Value} (h:Rep P c (.opn id off) v):v = .pointer none∨∃ b T,c.own id=some (some b,T)∧v = .pointer (some ⟨b,off,none⟩):=by
 cases h with
 | sh h=>cases h
 | opn h=>exact h
theorem qjn {P:Program} {c:Cx} {p:PV} {vs:Array Value} (h:RL P c [p] vs):vs = #[vs.getD 0 undef]∧Rep P c p (vs.getD 0 undef):=by
 obtain ⟨h1,h2⟩:=h
 refine ⟨?_,h2 0 (by simp)⟩
 apply Array.ext (by simpa using h1)
 intro i hi hj
 have:i=0:=by simp at hj;omega
 subst this
 simp [Array.getD_eq_getD_getElem?,hi]
theorem hSt_over {T:TypeId} {cells:List PV} {R:Hp}:over [(kb 0,some (.blk T cells))] (WZ (some (T,cells) :: R))=WZ (some (T,cells) :: R):=by
 funext k
 simp only [over,lk]
 by_cases h:Nat.beq k (kb 0)=true
 ·rw [h,Nat.eq_of_beq_eq_true h];rfl
 ·simp only [h];rfl
theorem YK {P:Program} {c:Cx} {H:Hp} {i:Nat} {T:TypeId} {cells:List PV} {b:Nat} {T2:TypeId} (hh:Heap (ZI P c H) (· < H.length) c (WZ H)) (hi:H.getD i none=some (T,cells)) (ho:c.own i=some (some b,T2)) :
  T2=T∧∃ cs:Array Value,c.w.heap[b]? = some (.cells cs T (0,0))∧cells.length≤cs.size∧∀ j,j<cells.length→Rep P c (cells.getD j P0) (cs.getD j undef):=by
 obtain ⟨ob,ho',hone,hbk⟩:=hh.blk i T cells (by rw [ZB,hi])
 rw [ho] at ho'
 cases ho'
 rcases hbk with ⟨hb,_⟩|⟨b',cs,hb1,hb2,hb3,hb4⟩
 ·cases hb
 ·obtain rfl:b=b':=by simpa using hb1
  exact ⟨rfl,cs,hb2,hb3,hb4⟩
theorem pc_check {P:Program} {f:FuncId} {T:TypeId} {q:PV} {R:Hp} (hf:FnOk P f)
  (h1:∀ (b:Nat) (w:World),w.cell? ⟨b,0,none⟩=some (.pointer (some ⟨b,0,none⟩))→Calls P f #[.pointer (some ⟨b,0,none⟩)] w fun e w'=>e = .returned (.tuple #[])∧w'=w)
  (h2:∀ (b:Nat) (w:World) (cs:Array Value),w.heap[b]? = some (.cells cs T (0,0))→2≤cs.size→w.cell? ⟨b,0,none⟩=some (.pointer none) →
   Calls P f #[.pointer (some ⟨b,0,none⟩)] w fun e w'=>e = .returned (.tuple #[])∧w'=w.setCell ⟨b,0,none⟩ (.pointer (some ⟨b,0,none⟩))) :
  PC P f [.opt 0 0] (some (T,[.opn 0 0,q]) :: R) (.tup []) (some (T,[.opn 0 0,q]) :: R):=by
 refine ⟨hf,Nat.le_refl _,fun c vs hh hrl=>?_⟩
 obtain ⟨hvs,hv⟩:=qjn hrl
 obtain ⟨b,T2,ho,hv⟩:=wk hv
 rw [hv] at hvs
 obtain ⟨rfl,cs,hb,hsz,hr⟩:=YK (i:=0) hh rfl ho
 have hsz:2≤cs.size:=hsz
 have hcell:c.w.cell? ⟨b,0,none⟩=some (cs.getD 0 undef):=by
  rw [cell_of_row c.w _ _ cs _ _ hb]
  simp [Array.getD_eq_getD_getElem?,show 0<cs.size by omega]
 have ht:∀ {c':Cx},Rep P c' (.tup []) (.tuple #[]):=.tup rfl fun i hi=>by simp at hi
 rw [hvs]
 rcases rep_opn (hr 0 (by simp)) with e|⟨b2,T3,ho2,e⟩
 ·refine (h2 b c.w cs hb hsz (hcell.trans (congrArg some e))).mono ?_
  rintro ee w' ⟨rfl,rfl⟩
  have key:=qfw (E:=ZI P c (some (T2,[.opn 0 0,q]) :: R)) (g:=WZ (some (T2,[.opn 0 0,q]) :: R)) hh (id:=0) (b:=b) (T:=T2) (cells:=[.opn 0 0,q]) (cells':=[.opn 0 0,q]) rfl ho cs (cs.setIfInBounds 0 (.pointer (some ⟨b,0,none⟩))) (c.w.setCell ⟨b,0,none⟩ (.pointer (some ⟨b,0,none⟩))) hb
   (by show (c.w.heap.modify b _)[b]? = _;rw [Array.getElem?_modify,if_pos rfl,hb];rfl) (by simp) (fun b' hb'=>by show (c.w.heap.modify b _)[b']? = _;rw [Array.getElem?_modify,if_neg (Ne.symm hb')]) (by show (c.w.heap.modify b _).size=_;simp) rfl rfl rfl
   (by obtain ⟨ob,_,hone,_⟩:=hh.blk 0 T2 [.opn 0 0,q] rfl;exact hone) hsz (fun j hj=>by
    have:j=0∨j=1:=by simp at hj;omega
    rcases this with rfl|rfl
    ·rw [show (cs.setIfInBounds 0 (.pointer (some ⟨b,0,none⟩))).getD 0 undef = .pointer (some ⟨b,0,none⟩) by simp [Array.getD_eq_getD_getElem?,show 0<cs.size by omega]]
     exact .opn (.inr ⟨b,T2,ho,rfl⟩)
    ·rw [show (cs.setIfInBounds 0 (.pointer (some ⟨b,0,none⟩))).getD 1 undef=cs.getD 1 undef by simp [Array.getD_eq_getD_getElem?]]
     exact hr 1 (by simp))
  rw [hSt_over] at key
  exact ⟨_,⟨_,c.S,c.own⟩,rfl,rfl,key.2,ht⟩
 ·rw [ho] at ho2
  cases ho2
  refine (h1 b c.w (hcell.trans (congrArg some e))).mono ?_
  rintro ee w' ⟨rfl,rfl⟩
  exact ⟨_,c,rfl,rfl,hh,ht⟩
def qT (l:List UInt8):List PV:=l.map fun b=>.av (.int .u8 b.toNat)
theorem qkl (l:List UInt8):(qT l).length=l.length:=by unfold qT;rw [List.length_map]
theorem byt_app (l m:List UInt8):qT l++qT m=qT (l++m):=by unfold qT;rw [List.map_append]
theorem byt_one (l:List UInt8) (b:UInt8):qT l++[.av (.int .u8 b.toNat)]=qT (l++[b]):=byt_app l [b]
theorem qJ (l:List UInt8):jW (qT l):=fun p hp=>by
 obtain ⟨x,_,rfl⟩:=List.mem_map.1 hp
 rfl
theorem pc_string {P:Program} {f:FuncId} {T U:TypeId} {p:PV} {l:List UInt8} (hf:FnOk P f) (hl:l≠[])
  (h1:∀ (b g cap:Nat) (cs cur:Array Value) (w:World),w.heap[b]? = some (.cells cs T (0,0))→1<cs.size→cs.getD 1 undef = .slice (some ⟨g,0,none⟩) l.length cap→w.heap[g]? = some (.cells cur U (0,0))→l.length≤cap→l.length≤cur.size →
   (∀ j x,l[j]? = some x→cur.getD j undef = .int .u8 x.toNat)→Calls P f #[.pointer (some ⟨b,0,none⟩)] w fun e w'=>e = .returned (.string (st l))∧∃ k,w'=(w.drewN k).freeze ⟨g,0,none⟩ l.length) :
  PC P f [.opt 0 0] [some (T,[p,.osl 1 0 l.length]),some (U,qT l)] (.av (.string (st l))) [none,none]:=by
 refine ⟨hf,Nat.le_refl _,fun c vs hh hrl=>?_⟩
 obtain ⟨hvs,hv⟩:=qjn hrl
 obtain ⟨b,T2,ho,hv⟩:=wk hv
 rw [hv] at hvs
 obtain ⟨rfl,cs,hb,hsz,hr⟩:=YK (i:=0) hh rfl ho
 have hsz:2≤cs.size:=hsz
 obtain ⟨ob,U2,ho1,hv1⟩:=jy (show Rep P c (.osl 1 0 l.length) (cs.getD 1 undef) from hr 1 (by simp))
 have hl0:l.length≠0:=by simpa using hl
 rcases hv1 with ⟨_,_,hz⟩|⟨g,cap,cur0,rfl,hsl,_,hcap,_⟩
 ·exact absurd hz hl0
 obtain ⟨rfl,cur,hg,hgs,hgr⟩:=YK (i:=1) hh rfl ho1
 rw [qkl] at hgs hgr
 have hbytes:∀ j x,l[j]? = some x→cur.getD j undef = .int .u8 x.toNat:=fun j x hx=>by
  have hj:j<l.length:=(List.getElem?_eq_some_iff.1 hx).1
  have:=hgr j hj
  have e:(qT l).getD j P0 = .av (.int .u8 x.toNat):=by
   unfold qT
   rw [List.getD_eq_getElem?_getD,List.getElem?_map,hx];rfl
  rw [e] at this
  exact zH this
 rw [hvs]
 refine (h1 b g cap cs cur c.w hb (by omega) hsl hg hcap hgs hbytes).mono ?_
 rintro ee w' ⟨rfl,k,rfl⟩
 have hfz:((c.w.drewN k).freeze ⟨g,0,none⟩ l.length).heap=c.w.heap.modify g fun
   | .cells c elem (lo,hi)=>.cells c elem (if lo == hi then (0,0+l.length) else (min lo 0,max hi (0+l.length)))
   | o=>o:=by
  unfold World.freeze
  rw [if_neg hl0]
  rfl
 have hto:∀ b',b'≠g→((c.w.drewN k).freeze ⟨g,0,none⟩ l.length).heap[b']? = c.w.heap[b']? := fun b' hb'=>by rw [hfz,Array.getElem?_modify,if_neg (Ne.symm hb')]
 have hts:((c.w.drewN k).freeze ⟨g,0,none⟩ l.length).heap.size=c.w.heap.size:=by rw [hfz];simp
 have hos:((c.w.drewN k).freeze ⟨g,0,none⟩ l.length).os=c.w.os:=by unfold World.freeze;rw [if_neg hl0];rfl
 have htp:((c.w.drewN k).freeze ⟨g,0,none⟩ l.length).tape=c.w.tape:=by unfold World.freeze;rw [if_neg hl0];rfl
 have hou:((c.w.drewN k).freeze ⟨g,0,none⟩ l.length).output=c.w.output:=by unfold World.freeze;rw [if_neg hl0];rfl
 have hlive:vC (WZ [some (T2,[p,.osl 1 0 l.length]),some (U2,qT l)]) 1:=⟨U2,qT l,rfl⟩
 have hap:=hh.apart 1 g U2 hlive ho1
 have hno:∀ i,¬ vC (WZ [none,none]) i:=fun i ⟨T',ds,hx⟩=>by
  rw [ZB] at hx
  rcases i with _|_|i
  ·cases hx
  ·cases hx
  ·simp at hx
 have hk:Keep c ⟨(c.w.drewN k).freeze ⟨g,0,none⟩ l.length,c.S,c.own⟩:=⟨fun b' hS=>⟨hS,hto b' fun e=>hap.1 (e▸hS)⟩,fun _ _ hx=>hx,fun b' ds T' z hx=>by
  by_cases e:b'=g
  ·subst e
   show ∃ cs' z',((c.w.drewN k).freeze ⟨b',0,none⟩ l.length).heap[b']? = _∧_
   rw [hfz,Array.getElem?_modify,if_pos rfl,hx]
   exact ⟨ds,_,rfl,rfl⟩
  ·exact ⟨ds,z,(hto b' e).trans hx,rfl⟩⟩
 have hbnd:∀ i b' T',c.own i=some (some b',T')→b'<((c.w.drewN k).freeze ⟨g,0,none⟩ l.length).heap.size:=fun i b' T' hx=>by
  rw [hts];exact hh.bnd i b' T' hx
 have hsok:∀ b',c.S b'→b'<((c.w.drewN k).freeze ⟨g,0,none⟩ l.length).heap.size:=fun b' hS=>by
  rw [hts];exact hh.sok b' hS
 have hsame:∀ b',b'<c.w.heap.size→¬ (ZI P c [some (T2,[p,.osl 1 0 l.length]),some (U2,qT l)]).Bor b'→((c.w.drewN k).freeze ⟨g,0,none⟩ l.length).heap[b']? = c.w.heap[b']? := fun b' hb1 hB=>hto b' fun e=>hB (by
  subst e
  exact ⟨1,U2,hlive,ho1⟩)
 have hH:Heap (ZI P c [some (T2,[p,.osl 1 0 l.length]),some (U2,qT l)]) (· < 2) ⟨(c.w.drewN k).freeze ⟨g,0,none⟩ l.length,c.S,c.own⟩ (WZ [none,none]) :=
  { ids:=hh.ids,blk:=fun i T' ds hx=>absurd ⟨T',ds,hx⟩ (hno i),inj:=fun i j b' T' T3 l1=>absurd l1 (hno i),apart:=fun i b' T' l1=>absurd l1 (hno i),bnd:=hbnd,sok:=hsok,
    os:=hos.trans hh.os,tape:=htp.trans hh.tape,output:=hou.trans hh.output,size:=by show _≤_;rw [hts];exact hh.size,same:=hsame,laid:=hh.laid,s0:=hh.s0,s1:=hh.s1,keep:=hh.keep.trans hk }
 exact ⟨_,⟨(c.w.drewN k).freeze ⟨g,0,none⟩ l.length,c.S,c.own⟩,rfl,rfl,hH,.sh (.av _)⟩
theorem pc_string0 {P:Program} {f:FuncId} {T:TypeId} {p:PV} (hf:FnOk P f)
  (h1:∀ (b:Nat) (w:World),w.cell? ⟨b,1,none⟩=some (.slice none 0 0)→Calls P f #[.pointer (some ⟨b,0,none⟩)] w fun e w'=>e = .returned (.string (st []))∧∃ k,w'=w.drewN k) :
  PC P f [.opt 0 0] [some (T,[p,.av (.slice none 0 0)])] (.av (.string (st []))) [some (T,[p,.av (.slice none 0 0)])]:=by
 refine ⟨hf,Nat.le_refl _,fun c vs hh hrl=>?_⟩
 obtain ⟨hvs,hv⟩:=qjn hrl
 obtain ⟨b,T2,ho,hv⟩:=wk hv
 rw [hv] at hvs
 obtain ⟨rfl,cs,hb,hsz,hr⟩:=YK (i:=0) hh rfl ho
 have hsz:2≤cs.size:=hsz
 have hcell:c.w.cell? ⟨b,1,none⟩=some (.slice none 0 0):=by
  rw [cell_of_row c.w _ _ cs _ _ hb]
  have:=zH (hr 1 (by simp))
  rw [← this]
  simp [Array.getD_eq_getD_getElem?,show 1<cs.size by omega]
 rw [hvs]
 refine (h1 b c.w hcell).mono ?_
 rintro ee w' ⟨rfl,k,rfl⟩
 have hk:Keep c ⟨c.w.drewN k,c.S,c.own⟩:=⟨fun b' hS=>⟨hS,rfl⟩,fun _ _ hx=>hx,fun b' ds T' z hx=>⟨ds,z,hx,rfl⟩⟩
 have hblk:∀ i T' ds,WZ [some (T2,[p,.av (.slice none 0 0)])] (kb i)=some (.blk T' ds)→∃ ob,c.own i=some (ob,T')∧BlkOk P ⟨c.w.drewN k,c.S,c.own⟩ ob T' ds:=fun i T' ds hx=>by
  obtain ⟨ob,h1,h2⟩:=hh.blk i T' ds hx
  exact ⟨ob,h1,h2.mono hk fun _ _=>rfl⟩
 have hH:Heap (ZI P c [some (T2,[p,.av (.slice none 0 0)])]) (· < 1) ⟨c.w.drewN k,c.S,c.own⟩ (WZ [some (T2,[p,.av (.slice none 0 0)])]) :=
  { ids:=hh.ids,blk:=hblk,inj:=hh.inj,apart:=hh.apart,bnd:=hh.bnd,sok:=hh.sok,os:=hh.os,tape:=hh.tape,output:=hh.output,size:=hh.size,same:=hh.same,laid:=hh.laid,s0:=hh.s0,s1:=hh.s1,keep:=hh.keep.trans hk }
 exact ⟨_,⟨c.w.drewN k,c.S,c.own⟩,rfl,rfl,hH,.sh (.av _)⟩
section
variable {P:Program} {n:Nat} {c0:Cx} {Bor:BorD} {n0:Nat} {l:L}
theorem Wk.cell (id j:Nat) (p q:PV) {B:TypeId} {cells:List PV} (hs:get l (kb id)=some (.blk B cells)) (hj:cells[j]? = some p) (hq1:q.one=true) (hr:∀ c v,Rep P c p v→Rep P c q v) :
  Wk P n c0 Bor n0 l n0 ([(kb id,some (.blk B (cells.set j q)))]++l):=fun cx a hI=>by
 refine ⟨cx,rfl,?_⟩
 have hge:∀ k,get ([(kb id,some (.blk B (cells.set j q)))]++l) k=if Nat.beq k (kb id) then some (.blk B (cells.set j q)) else get l k:=fun k=>by
  rw [jL]
  simp only [over,lk]
  by_cases h1:Nat.beq k (kb id)=true
  ·simp [h1]
  ·simp only [h1];rfl
 have hb:∀ i,get ([(kb id,some (.blk B (cells.set j q)))]++l) (kb i)=if i=id then some (.blk B (cells.set j q)) else get l (kb i):=fun i=>by
  rw [hge,YT];by_cases e:i=id <;> simp [e]
 have hsl:∀ s,get ([(kb id,some (.blk B (cells.set j q)))]++l) (Pm.ks s)=get l (Pm.ks s):=fun s=>by
  rw [hge,jU,if_neg (by simp)]
 have hl:∀ i,vC (get ([(kb id,some (.blk B (cells.set j q)))]++l)) i→vC (get l) i:=fun i ⟨T',cs,hx⟩=>by
  rw [hb] at hx
  by_cases e:i=id
  ·subst e;exact ⟨B,cells,hs⟩
  ·rw [if_neg e] at hx;exact ⟨T',cs,hx⟩
 have hh:=hI.toHeap
 exact { ids:=hh.ids
         blk:=fun i T' cs hx=>by
           rw [hb] at hx
           by_cases e:i=id
           · subst e
             rw [if_pos rfl] at hx
             cases hx
             obtain ⟨ob,h1,h2,h3⟩:=hh.blk i B cells hs
             refine ⟨ob,h1,fun p hp=>?_,?_⟩
             · rcases List.mem_or_eq_of_mem_set hp with h|h
               · exact h2 p h
               · rw [h];exact hq1
             · rcases h3 with ⟨_,h4⟩|⟨b,arr,h4,h5,h6,h7⟩
               · rw [h4] at hj;simp at hj
               · refine .inr ⟨b,arr,h4,h5,by rw [List.length_set];exact h6,fun k hk=>?_⟩
                 rw [List.length_set] at hk
                 by_cases e:k=j
                 · subst e
                   have h8:=h7 k hk
                   have e2:cells.getD k P0=p:=by rw [List.getD_eq_getElem?_getD,hj];rfl
                   rw [e2] at h8
                   rw [show (cells.set k q).getD k P0=q from by rw [List.getD_eq_getElem?_getD,List.getElem?_set_self hk];rfl]
                   exact hr _ _ h8
                 · rw [show (cells.set j q).getD k P0=cells.getD k P0 from by rw [List.getD_eq_getElem?_getD,List.getD_eq_getElem?_getD,List.getElem?_set_ne (Ne.symm e)]]
                   exact h7 k hk
           · rw [if_neg e] at hx
             exact hh.blk i T' cs hx
         inj:=fun i j b T T' l1 l2=>hh.inj i j b T T' (hl i l1) (hl j l2),apart:=fun i b T l1=>hh.apart i b T (hl i l1),bnd:=hh.bnd,sok:=hh.sok,
         os:=hh.os,tape:=hh.tape,output:=hh.output,size:=hh.size,same:=hh.same,laid:=hh.laid,s0:=hh.s0,s1:=hh.s1,keep:=hh.keep,tmps:=hI.tmps,dfr:=hI.dfr
         slot:=fun s' p hp=>by
           rw [hsl] at hp
           exact hI.slot s' p hp
         isv:=fun s' x hx=>by
           rw [hsl] at hx
           exact hI.isv s' x hx }
theorem Wk.opnc (id j i off:Nat) {B:TypeId} {cells:List PV} (hs:get l (kb id)=some (.blk B cells)) (hj:cells[j]? = some (.av (.pointer none))):Wk P n c0 Bor n0 l n0 ([(kb id,some (.blk B (cells.set j (.opn i off))))]++l) :=
 Wk.cell id j (.av (.pointer none)) (.opn i off) hs hj rfl fun _ _ h=>.opn (.inl (zH h))
end
set_option maxRecDepth 100000
set_option maxHeartbeats 4000000
set_option maxHeartbeats 1000000 in
theorem cc_used (b:Nat) (w:World) (h0:w.cell? ⟨b,0,none⟩=some (.pointer (some ⟨b,0,none⟩))) :
  Calls Tryz.prog 60 #[.pointer (some ⟨b,0,none⟩)] w fun e w'=>e = .returned (.tuple #[])∧w'=w:=by
 obtain ⟨j,hj,_⟩:=Option.map_eq_some_iff.1 (show (Tryz.prog.info? 75).map (·.size)=some 2 by kernel_rfl)
 go_enter Tryz.func60,Tryz.ntmps60
 go_wp2
 rw [Lib.run_neq_ptr_same w _ Tryz.underlying72 hj]
 go_wp2
 go_end0
 exact ⟨rfl,rfl⟩
theorem row_lies:∀ {n:Nat},2≤n→liesAt Tryz.prog Tryz.prog.depth 77 (n / Tryz.prog.cellsOf 77) 0 75 1=true:=by
 intro n hn
 have hd:Tryz.prog.depth=Tryz.prog.depth-1+1:=by
  have:1≤Tryz.prog.depth:=by decide +kernel
  omega
 have hc:Tryz.prog.cellsOf 77=2:=by kernel_rfl
 have h1:rowAt Tryz.prog (sameLayout Tryz.prog Tryz.prog.depth · 75) Tryz.prog.depth 77 1 0 1=true:=by kernel_rfl
 have mono:∀ {d e m:Nat} {fits:TypeId→Bool},1≤m→rowAt Tryz.prog fits d e 1 0 1=true→rowAt Tryz.prog fits d e m 0 1=true:=by
  intro d e m fits hm h
  cases d with
  | zero=>cases h
  | succ d =>
   unfold rowAt at h ⊢
   dsimp only at h ⊢
   split at h
   ·cases h
   ·rename_i hs
    rw [if_neg hs]
    simp only [Nat.zero_div,Nat.zero_mod,Nat.zero_add,Bool.or_eq_true,Bool.and_eq_true,decide_eq_true_eq,Nat.zero_lt_one,true_and,Nat.le_refl] at h ⊢
    rcases h with h|h
    ·exact .inl ⟨⟨h.1.1,hm⟩,h.2⟩
    ·exact .inr ⟨by omega,h⟩
 rw [hd]
 unfold liesAt
 rw [hc,mono (m:=n / 2) (by omega) h1]
 rfl
set_option maxHeartbeats 1000000 in
theorem cc_fresh (b:Nat) (w:World) (cs:Array Value) (hb:w.heap[b]? = some (.cells cs 77 (0,0))) (hn:2≤cs.size) (h0:w.cell? ⟨b,0,none⟩=some (.pointer none)) :
  Calls Tryz.prog 60 #[.pointer (some ⟨b,0,none⟩)] w fun e w'=>e = .returned (.tuple #[])∧w'=w.setCell ⟨b,0,none⟩ (.pointer (some ⟨b,0,none⟩)):=by
 obtain ⟨j,hj,hjs⟩:=Option.map_eq_some_iff.1 (show (Tryz.prog.info? 75).map (·.size)=some 2 by kernel_rfl)
 have hsh:w.shape? b=some (77,cs.size):=by simp [World.shape?,hb]
 have hfz:w.frozen? ⟨b,0,none⟩=false:=Lib.frozen_of_heap hb 0
 have hlies:=row_lies hn
 clear hb
 go_enter Tryz.func60,Tryz.ntmps60
 go_wp2
 rw [Lib.run_to_unsafe w ⟨b,0,none⟩ Tryz.underlying72 Tryz.underlying149 hj (by rw [hjs];decide) hsh (by show 0<cs.size;omega)]
 simp only [Result.andThen]
 rw [Oper.upon_value]
 go_wp2
 rw [run_callFunc_extern Tryz.func93 (by kernel_rfl) (by kernel_rfl) (by kernel_rfl) (e:=Extern.AbiNoEscape.same) (by kernel_rfl)]
 rw [Lib.run_noEscape]
 simp only [Result.andThen]
 rw [Oper.upon_value]
 go_wp2
 rw [Lib.run_from_unsafe w ⟨b,0,none⟩ Tryz.underlying149 Tryz.underlying72 hj hsh hlies]
 simp only [Result.andThen]
 rw [Oper.upon_value]
 go_wp2
 go_end0
 exact ⟨rfl,rfl⟩
theorem check_pc (q:PV) (R:Hp):PC Tryz.prog 60 [.opt 0 0] (some (77,[.opn 0 0,q]) :: R) (.tup []) (some (77,[.opn 0 0,q]) :: R) :=
 pc_check (wG Tryz.func60 (by kernel_rfl) (by kernel_rfl)) cc_used cc_fresh
set_option maxHeartbeats 2000000 in
theorem str_some (b g cap:Nat) (cs cur:Array Value) (l:List UInt8) (w:World) (hb:w.heap[b]? = some (.cells cs 77 (0,0))) (hn:1<cs.size) (hsl:cs.getD 1 undef = .slice (some ⟨g,0,none⟩) l.length cap) (hg:w.heap[g]? = some (.cells cur 5 (0,0)))
  (hcap:l.length≤cap) (hcs:l.length≤cur.size) (hbytes:∀ j x,l[j]? = some x→cur.getD j undef = .int .u8 x.toNat) (h0:l≠[]) (h63:l.length≤140737488355328) :
  Calls Tryz.prog 32 #[.pointer (some ⟨b,0,none⟩)] w fun e w'=>e = .returned (.string (st l))∧∃ k,w'=(w.drewN k).freeze ⟨g,0,none⟩ l.length:=by
 have hl0:l.length≠0:=by simpa using h0
 have c1:w.drew.cell? ⟨b,1,none⟩=some (.slice (some ⟨g,0,none⟩) l.length cap):=by
  have hb':w.drew.heap[b]? = some (.cells cs 77 (0,0)):=hb
  rw [Lib.cell_of_heap hb',← hsl,Array.getD_eq_getD_getElem?,Array.getElem?_eq_getElem hn]
  rfl
 have hSD:(Builtin.unsafeSliceData_ #[73] 120 #[.slice (some ⟨g,0,none⟩) l.length cap]).run Tryz.prog w.drew = .ok (.pointer (some ⟨g,0,none⟩)) w.drew :=
  Lib.run_unsafeSliceData_row _ _ _ _ _ _ (by omega)
 have hUS:(Builtin.unsafeString_ #[120,3] 9 #[.pointer (some ⟨g,0,none⟩),.int .i64 l.length]).run Tryz.prog w.drew = .ok (.string (st l)) (w.drew.freeze ⟨g,0,none⟩ l.length):=by
  refine Lib.run_unsafeString_row w.drew 120 3 9 5 Tryz.underlying120 (by kernel_rfl) g cur.size (by have hg':w.drew.heap[g]? = some (.cells cur 5 (0,0)):=hg;simp [World.shape?,hg']) l h0 (by omega) (by omega) ?_
  intro j x hx
  have hg':w.drew.heap[g]? = some (.cells cur 5 (0,0)):=hg
  have hj:j<l.length:=(List.getElem?_eq_some_iff.1 hx).1
  have:=hbytes j x hx
  rw [wL,Nat.zero_add,Lib.cell_of_heap hg',← this,Array.getD_eq_getD_getElem?,Array.getElem?_eq_getElem (show j<cur.size by omega)]
  rfl
 clear hb hsl hg hcap hcs hbytes h0 h63 hl0
 go_enter Tryz.func32,Tryz.ntmps32
 go_wp2
 go_region
 all_goals (go_wp2;go_ret;exact ⟨rfl,1,rfl⟩)
theorem string_pc (p:PV) (l:List UInt8) (h0:l≠[]) (hl:l.length≤140737488355328):PC Tryz.prog 32 [.opt 0 0] [some (77,[p,.osl 1 0 l.length]),some (5,qT l)] (.av (.string (st l))) [none,none] :=
 pc_string (wG Tryz.func32 (by kernel_rfl) (by kernel_rfl)) h0 fun b g cap cs cur w h1 h2 h3 h4 h5 h6 h7=>str_some b g cap cs cur l w h1 h2 h3 h4 h5 h6 h7 h0 hl
set_option maxHeartbeats 2000000 in
theorem str_none (b:Nat) (w:World) (h0:w.cell? ⟨b,1,none⟩=some (.slice none 0 0)) :
  Calls Tryz.prog 32 #[.pointer (some ⟨b,0,none⟩)] w fun e w'=>e = .returned (.string (st []))∧∃ k,w'=w.drewN k:=by
 have c1:w.drew.cell? ⟨b,1,none⟩=some (.slice none 0 0):=h0
 have hSD:(Builtin.unsafeSliceData_ #[73] 120 #[.slice none 0 0]).run Tryz.prog w.drew = .ok (.pointer none) w.drew:=rfl
 have hUS:∀ W,(Builtin.unsafeString_ #[120,3] 9 #[.pointer none,.int .i64 0]).run Tryz.prog W = .ok (.string .empty) W:=fun W=>Lib.run_unsafeString_none W _ _ _ none
 go_enter Tryz.func32,Tryz.ntmps32
 go_wp2
 go_region
 all_goals (go_wp2;go_ret;exact ⟨rfl,1,rfl⟩)
theorem string0_pc (p:PV):PC Tryz.prog 32 [.opt 0 0] [some (77,[p,.av (.slice none 0 0)])] (.av (.string (st []))) [some (77,[p,.av (.slice none 0 0)])] :=
 pc_string0 (wG Tryz.func32 (by kernel_rfl) (by kernel_rfl)) str_none
open Go.Proofs.YtmlnilkbolcknaaGreatDoor.Pi
theorem YW (t:qQ) (x:UInt8) (hb:t.length+1≤140737488355328):PC Tryz.prog 30 [(.opt 0 0),(.av (.int .u8 (x.toNat:Int)))] [some (77,[(.opn 0 0),(.osl 1 0 t.length)]),some (5,(qT t))] (.av .nilIface) [some (77,[(.opn 0 0),(.osl 2 0 ((t++[x]:qQ).length))]),none,some (5,(qT (t++[x])))]:=by
 refine zI Tryz.func30 rfl (by kernel_rfl) (Nat.le_of_ble_eq_true rfl) (by kernel_rfl) (l0:=[ps 0 (.opt 0 0),ps 1 (.av (.int .u8 (x.toNat:Int))),pb 0 77 [(.opn 0 0),(.osl 1 0 t.length)],pb 1 5 (qT t)]) rfl (fun c0 Bor hc0=>?_)
 refine qA<|qL qC [.r] []<|qA<|zY qC [(1,.call [0,1] [(.opt 0 0)] [some (77,[(.opn 0 0),(.osl 1 0 t.length)]),some (5,(qT t))] (.tup []) [some (77,[(.opn 0 0),(.osl 1 0 t.length)]),some (5,(qT t))])] [.k3,.d,.n] [pb 1 5 (qN (yI [0,1] 18) (qT t))] (oc (check_pc (.osl 1 0 t.length) [some (5,(qT t))]) (oc (rfl:[(.opt 0 0)]=qN (qZ [0,1] 18) [(.opt 0 0)]) (oc (rfl:[(.opn 0 0),(.osl 1 0 t.length)]=qN (qZ [0,1] 18) [(.opn 0 0),(.osl 1 0 t.length)]) (oc ((qH (qJ _)).symm:(qT t)=qN (qZ [0,1] 18) (qT t)) oz))))<|qY (Wk.eq (show _=[ps 0 (.opt 0 0),ps 1 (.av (.int .u8 (x.toNat:Int))),pb 0 77 [(.opn 0 0),(.osl 1 0 t.length)],pb 1 5 (qT t)] from by simp only [qH (qJ _)])) ?_
 refine qA<|qk qC [(7,.app none (some (qT (t++[x]))))] [pb 0 77 [(.opn 0 0),(.osl 82 0 (t.length+1))],pb 82 5 (qT (t++[x]))] (oc (by rw [qkl,Nat.mul_one]:((qT t)).length=t.length*1) (oc (by omega:(t.length+1)*1≤140737488355328∧t.length+1≤9223372036854775807) (oc (byt_one _ _:(qT t)++[(.av (.int .u8 (x.toNat:Int)))]=(qT (t++[x]))) oz)))<|qA<|qL qC [.n,.r] [ps 4 (.av .nilIface)]<|qY (Wk.eq (show _=[ps 4 (.av .nilIface),pb 0 77 [(.opn 0 0),(.osl 82 0 ((t++[x]:qQ).length))],pb 82 5 (qT (t++[x]))] from by simp only [List.length_append,List.length_cons,List.length_nil,Nat.zero_add])) ?_
 exact zj fun cx_ a_ hI_=>zV (H':=[some (77,[(.opn 0 0),(.osl 2 0 ((t++[x]:qQ).length))]),none,some (5,(qT (t++[x])))]) (.inr rfl) (Wk.ren3 [ps 4 (.av .nilIface),pb 0 77 [(.opn 0 0),(.osl 2 0 ((t++[x]:qQ).length))],pb 2 5 (qT (t++[x]))] 2 hc0 [0,1,82] [(kb 2,(qT (t++[x])))] (oc (qJ _) (oz)) (by kernel_rfl) rfl rfl (by kernel_rfl) (by kernel_rfl)) rfl (oc rfl (oc rfl (oz))) (fun cx_ a_ hI_=>zL (l':=[ps 4 (.av .nilIface),pb 0 77 [(.opn 0 0),(.osl 2 0 ((t++[x]:qQ).length))],pb 2 5 (qT (t++[x]))]) (by kernel_rfl) cx_ a_ hI_) hI_
theorem ww (t s:qQ) (hb:t.length+s.length≤140737488355328):PC Tryz.prog 27 [(.opt 0 0),(sv (st s))] [some (77,[(.opn 0 0),(.osl 1 0 t.length)]),some (5,(qT t))] (.tup [(nv s.length),(.av .nilIface)]) [some (77,[(.opn 0 0),(.osl 2 0 ((t++s:qQ).length))]),none,some (5,(qT (t++s)))]:=by
 refine zI Tryz.func27 rfl (by kernel_rfl) (Nat.le_of_ble_eq_true rfl) (by kernel_rfl) (l0:=[ps 0 (.opt 0 0),ps 1 (sv (st s)),pb 0 77 [(.opn 0 0),(.osl 1 0 t.length)],pb 1 5 (qT t)]) rfl (fun c0 Bor hc0=>?_)
 refine qA<|qL qC [.r] []<|qA<|zY qC [(1,.call [0,1] [(.opt 0 0)] [some (77,[(.opn 0 0),(.osl 1 0 t.length)]),some (5,(qT t))] (.tup []) [some (77,[(.opn 0 0),(.osl 1 0 t.length)]),some (5,(qT t))])] [.k3,.d,.n] [pb 1 5 (qN (yI [0,1] 26) (qT t))] (oc (check_pc (.osl 1 0 t.length) [some (5,(qT t))]) (oc (rfl:[(.opt 0 0)]=qN (qZ [0,1] 26) [(.opt 0 0)]) (oc (rfl:[(.opn 0 0),(.osl 1 0 t.length)]=qN (qZ [0,1] 26) [(.opn 0 0),(.osl 1 0 t.length)]) (oc ((qH (qJ _)).symm:(qT t)=qN (qZ [0,1] 26) (qT t)) oz))))<|qY (Wk.eq (show _=[ps 0 (.opt 0 0),ps 1 (sv (st s)),pb 0 77 [(.opn 0 0),(.osl 1 0 t.length)],pb 1 5 (qT t)] from by simp only [qH (qJ _)])) ?_
 refine qA<|qk qC [(6,.app none (some (qT (t++s))))] [ps 1 (sv (st s)),pb 0 77 [(.opn 0 0),(.osl 82 0 (t.length+s.length))],pb 82 5 (qT (t++s))] (oc (by rw [qkl,Nat.mul_one]:((qT t)).length=t.length*1) (oc (by omega:(t.length+s.length)*1≤140737488355328∧t.length+s.length≤9223372036854775807) (oc (byt_app _ _:(qT t)++(qT s)=(qT (t++s))) oz)))<|qA<|qL qC [.d,.n,.n,.r] [ps 4 (nv s.length),ps 5 (.av .nilIface)]<|qY (Wk.eq (show _=[ps 4 (nv s.length),ps 5 (.av .nilIface),pb 0 77 [(.opn 0 0),(.osl 82 0 ((t++s:qQ).length))],pb 82 5 (qT (t++s))] from by simp only [List.length_append,List.length_cons,List.length_nil,Nat.zero_add])) ?_
 exact zj fun cx_ a_ hI_=>zV (H':=[some (77,[(.opn 0 0),(.osl 2 0 ((t++s:qQ).length))]),none,some (5,(qT (t++s)))]) (.inr rfl) (Wk.ren3 [ps 4 (nv s.length),ps 5 (.av .nilIface),pb 0 77 [(.opn 0 0),(.osl 2 0 ((t++s:qQ).length))],pb 2 5 (qT (t++s))] 2 hc0 [0,1,82] [(kb 2,(qT (t++s)))] (oc (qJ _) (oz)) (by kernel_rfl) rfl rfl (by kernel_rfl) (by kernel_rfl)) rfl (oc rfl (oc rfl (oz))) (fun cx_ a_ hI_=>zL (l':=[ps 4 (nv s.length),ps 5 (.av .nilIface),pb 0 77 [(.opn 0 0),(.osl 2 0 ((t++s:qQ).length))],pb 2 5 (qT (t++s))]) (by kernel_rfl) cx_ a_ hI_) hI_
theorem bl_pc (t:qQ):PC Tryz.prog 31 [(.opt 0 0)] [some (77,[(.opn 0 0),(.osl 1 0 t.length)]),some (5,(qT t))] (nv t.length) [some (77,[(.opn 0 0),(.osl 1 0 t.length)]),some (5,(qT t))]:=by
 refine zI Tryz.func31 rfl (by kernel_rfl) (Nat.le_of_ble_eq_true rfl) (by kernel_rfl) (l0:=[ps 0 (.opt 0 0),pb 0 77 [(.opn 0 0),(.osl 1 0 t.length)],pb 1 5 (qT t)]) rfl (fun c0 Bor hc0=>?_)
 refine qA<|qL qC [.r] []<|qA<|qL qC [.d,.n,.r] [ps 2 (nv t.length)] ?_
 exact zj fun cx_ a_ hI_=>zV (H':=[some (77,[(.opn 0 0),(.osl 1 0 t.length)]),some (5,(qT t))]) (.inr rfl) (Wk.ren3 [ps 2 (nv t.length),pb 0 77 [(.opn 0 0),(.osl 1 0 t.length)],pb 1 5 (qT t)] 2 hc0 [0,1] [(kb 1,(qT t))] (oc (qJ _) (oz)) (by kernel_rfl) rfl rfl (by kernel_rfl) (by kernel_rfl)) rfl (oc rfl (oc rfl (oz))) (fun cx_ a_ hI_=>zL (l':=[ps 2 (nv t.length),pb 0 77 [(.opn 0 0),(.osl 1 0 t.length)],pb 1 5 (qT t)]) (by kernel_rfl) cx_ a_ hI_) hI_
theorem bl0_pc  : PC Tryz.prog 31 [(.opt 0 0)] [some (77,[(.av (.pointer none)),sn])] (iv 0) [some (77,[(.av (.pointer none)),sn])]:=by
 refine zI Tryz.func31 rfl (by kernel_rfl) (Nat.le_of_ble_eq_true rfl) (by kernel_rfl) (l0:=[ps 0 (.opt 0 0),pb 0 77 [(.av (.pointer none)),sn]]) rfl (fun c0 Bor hc0=>?_)
 refine qA<|qL qC [.r] []<|qA<|qL qC [.d,.n,.r] [ps 2 (iv 0)] ?_
 exact yA hc0 [2] [0] (hbk:=by exact oc rfl (oz))
theorem pitches_pc (t:qQ) (l:List Pt) (hb:t.length+(Qw l).length≤140737488355328) (hl:l.length≤5864062014634):PC Tryz.prog 95 [(.opt 0 0),(.ssl (zG l) 0 l.length)] [some (77,[(.opn 0 0),(.osl 1 0 t.length)]),some (5,(qT t))] (.tup []) [some (77,[(.opn 0 0),(.osl 2 0 ((t++Qw l:qQ).length))]),none,some (5,(qT (t++Qw l)))]:=by
 refine zI Tryz.func95 rfl (by kernel_rfl) (Nat.le_of_ble_eq_true rfl) (by kernel_rfl) (l0:=[ps 0 (.opt 0 0),ps 1 (.ssl (zG l) 0 l.length),pb 0 77 [(.opn 0 0),(.osl 1 0 t.length)],pb 1 5 (qT t)]) rfl (fun c0 Bor hc0=>?_)
 refine qA<|qA ?_
 have hcl:=ch_len l
 refine qL qC [.k2,.n,.r] [ps 10 (bv (decide (1<(l.length:Int))))] ?_
 by_cases h1:1<(l.length:Int)
 ·refine qR (zP h1) ?_
  rw [if_pos (show 1<l.length from by omega)] at hcl
  refine zY qC [(3,.call [0,1] [(.opt 0 0),(.av (.int .u8 60))] [some (77,[(.opn 0 0),(.osl 1 0 t.length)]),some (5,(qT t))] (.av .nilIface) [some (77,[(.opn 0 0),(.osl 2 0 ((t++[60]:qQ).length))]),none,some (5,(qT (t++[60])))])] [.k2,.d,.d,.n,.d,.n] [pb 0 77 [(.opn 0 0),(.osl 50 0 ((t++[60]:qQ).length))],pb 50 5 (qN (yI [0,1] 50) (qT (t++[60])))] (oc (YW t 60 (by (first|omega|(simp only [List.length_append,List.length_cons,List.length_nil];omega)))) (oc (rfl:[(.opt 0 0),(.av (.int .u8 60))]=qN (qZ [0,1] 50) [(.opt 0 0),(.av (.int .u8 60))]) (oc (rfl:[(.opn 0 0),(.osl 1 0 t.length)]=qN (qZ [0,1] 50) [(.opn 0 0),(.osl 1 0 t.length)]) (oc ((qH (qJ _)).symm:(qT t)=qN (qZ [0,1] 50) (qT t)) oz))))<|qY (Wk.eq (show _=[ps 0 (.opt 0 0),ps 1 (.ssl (zG l) 0 l.length),pb 0 77 [(.opn 0 0),(.osl 50 0 ((t++[60]:qQ).length))],pb 50 5 (qT (t++[60]))] from by simp only [qH (qJ _)])) ?_
  refine qA<|qA<|qY (Wk.eq (show _=[ps 0 (.opt 0 0),ps 1 (.ssl (zG l) 0 l.length),pb 0 77 [(.opn 0 0),(.osl 50 0 (((t++[60])++zC (l.take 0):qQ).length))],pb 50 5 (qT ((t++[60])++zC (l.take 0)))] from by rw [List.take_zero];rw [show zC []=[] from rfl,List.append_nil])) ?_
  refine qL qC [.k2,.n,.n,.n,.r] [ps 15 (.ssl (zG l) 0 l.length),ps 16 (nv l.length),ps 17 (iv 0)]<|qV<|yC (α:={x:Nat // x≤l.length}) (fun x=>[ps 0 (.opt 0 0),ps 1 (.ssl (zG l) 0 l.length),ps 15 (.ssl (zG l) 0 l.length),ps 16 (nv l.length),ps 17 (nv x.1),pb 0 77 [(.opn 0 0),(.osl 2 0 (((t++[60])++zC (l.take x.1):qQ).length))],pb 2 5 (qT ((t++[60])++zC (l.take x.1)))]) (fun x=>l.length-x.1) 3 ⟨0,Nat.zero_le _⟩ (Wk.ren3 _ 2 hc0 [0,1,50] [(kb 2,(qT ((t++[60])++zC (l.take 0))))] (oc (qJ _) (oz)) (by kernel_rfl) rfl rfl (by kernel_rfl) (by kernel_rfl)) ?_
  rintro ⟨i,hi⟩
  refine qA<|qk qC [] [ps 0 (.opt 0 0),ps 1 (.ssl (zG l) 0 l.length),ps 15 (.ssl (zG l) 0 l.length),ps 16 (nv l.length),ps 17 (nv i),ps 18 (bv (decide (((i:Nat):Int)<(l.length:Int)))),pb 0 77 [(.opn 0 0),(.osl 2 0 (((t++[60])++zC (l.take i):qQ).length))],pb 2 5 (qT ((t++[60])++zC (l.take i)))] (oz)<|qA ?_
  by_cases h2:(i:Int)<(l.length:Int)
  ·refine qR (zP h2)<|qF<|qA<|qV<|qA ?_
   have hrm:=qfb (show i<l.length from by omega)
   have hpt:(vv (l.getD i zU).1 (l.getD i zU).2.1 (l.getD i zU).2.2).1=wY (l.getD i zU):=rfl
   have hple:=qfc l i
   refine zY qC [(1,.nat (i*3)),(2,.cells [(iv ((l.getD i zU).1)),(iv ((l.getD i zU).2.1)),(iv ((l.getD i zU).2.2))])] [.k2,.n,.n,.k3,.d,.k2,.n] [ps 4 (nv i),ps 5 (.opt 35 0),pb 35 52 [(iv ((l.getD i zU).1)),(iv ((l.getD i zU).2.1)),(iv ((l.getD i zU).2.2))]] (oc (by omega:(0:Int)≤(i:Int)∧(i:Int)<(l.length:Int)) (oc (by omega:0+(((i:Nat):Int):Int).toNat*3=(i*3)) (oc (yG ptC 3 (fun _=>rfl) zU l i 0 3 (by omega) (by decide):(i*3)+3≤((zG l)).length∧(((zG l)).drop (i*3)).take 3=[(iv ((l.getD i zU).1)),(iv ((l.getD i zU).2.1)),(iv ((l.getD i zU).2.2))]) oz))) ?_
   refine qA<|qA<|qL qC [.k2,.d,.k4,.n,.r] [ps 23 (bv (decide (0<(i:Int))))] ?_
   by_cases h3:0<(i:Int)
   ·refine qR (zP h3) ?_
    have hrm2:=hrm.1
    rw [if_neg (show ¬ i=0 from by omega)] at hrm2
    refine zY qC [(3,.call [0,2] [(.opt 0 0),(.av (.int .u8 32))] [some (77,[(.opn 0 0),(.osl 1 0 (((t++[60])++zC (l.take i):qQ).length))]),some (5,(qT ((t++[60])++zC (l.take i))))] (.av .nilIface) [some (77,[(.opn 0 0),(.osl 2 0 ((((t++[60])++zC (l.take i))++[32]:qQ).length))]),none,some (5,(qT (((t++[60])++zC (l.take i))++[32])))])] [.k6,.d,.d,.n,.d,.k1,.n] [pb 0 77 [(.opn 0 0),(.osl 99 0 ((((t++[60])++zC (l.take i))++[32]:qQ).length))],pb 99 5 (qN (yI [0,2] 99) (qT (((t++[60])++zC (l.take i))++[32])))] (oc (YW ((t++[60])++zC (l.take i)) 32 (by (first|omega|(simp only [List.length_append,List.length_cons,List.length_nil];omega)))) (oc (rfl:[(.opt 0 0),(.av (.int .u8 32))]=qN (qZ [0,2] 99) [(.opt 0 0),(.av (.int .u8 32))]) (oc (rfl:[(.opn 0 0),(.osl 2 0 (((t++[60])++zC (l.take i):qQ).length))]=qN (qZ [0,2] 99) [(.opn 0 0),(.osl 1 0 (((t++[60])++zC (l.take i):qQ).length))]) (oc ((qH (qJ _)).symm:(qT ((t++[60])++zC (l.take i)))=qN (qZ [0,2] 99) (qT ((t++[60])++zC (l.take i)))) oz))))<|qY (Wk.eq (show _=[ps 0 (.opt 0 0),ps 1 (.ssl (zG l) 0 l.length),ps 5 (.opt 35 0),ps 15 (.ssl (zG l) 0 l.length),ps 16 (nv l.length),ps 17 (nv i),pb 0 77 [(.opn 0 0),(.osl 99 0 ((((t++[60])++zC (l.take i))++[32]:qQ).length))],pb 35 52 [(iv ((l.getD i zU).1)),(iv ((l.getD i zU).2.1)),(iv ((l.getD i zU).2.2))],pb 99 5 (qT (((t++[60])++zC (l.take i))++[32]))] from by simp only [qH (qJ _)])) ?_
    refine qA<|vK qC 1 [.k2,.d,.n,.k4,.d,.r] [ps 6 (sv (st ((vv ((l.getD i zU).1) ((l.getD i zU).2.1) ((l.getD i zU).2.2)).1)))] (yD 115 (qbj ((l.getD i zU).1) ((l.getD i zU).2.1) ((l.getD i zU).2.2)) oz) ?_
    rw [if_neg (show ¬ i=0 from by omega)] at hrm
    refine qY (Wk.eq (show _=[ps 0 (.opt 0 0),ps 1 (.ssl (zG l) 0 l.length),ps 6 (sv (st (wY (l.getD i zU)))),ps 15 (.ssl (zG l) 0 l.length),ps 16 (nv l.length),ps 17 (nv i),pb 0 77 [(.opn 0 0),(.osl 99 0 ((((t++[60])++zC (l.take i))++[32]:qQ).length))],pb 99 5 (qT (((t++[60])++zC (l.take i))++[32]))] from by rfl)) ?_
    refine zY qC [(4,.call [0,99] [(.opt 0 0),(sv (st (wY (l.getD i zU))))] [some (77,[(.opn 0 0),(.osl 1 0 ((((t++[60])++zC (l.take i))++[32]:qQ).length))]),some (5,(qT (((t++[60])++zC (l.take i))++[32])))] (.tup [(nv (((wY (l.getD i zU))).length)),(.av .nilIface)]) [some (77,[(.opn 0 0),(.osl 2 0 (((((t++[60])++zC (l.take i))++[32])++(wY (l.getD i zU)):qQ).length))]),none,some (5,(qT ((((t++[60])++zC (l.take i))++[32])++(wY (l.getD i zU)))))])] [.k2,.d,.k3,.d,.n,.d,.n] [pb 0 77 [(.opn 0 0),(.osl 195 0 (((((t++[60])++zC (l.take i))++[32])++(wY (l.getD i zU)):qQ).length))],pb 195 5 (qN (yI [0,99] 195) (qT ((((t++[60])++zC (l.take i))++[32])++(wY (l.getD i zU)))))] (oc (ww (((t++[60])++zC (l.take i))++[32]) (wY (l.getD i zU)) (by (first|omega|(simp only [List.length_append,List.length_cons,List.length_nil];omega)))) (oc (rfl:[(.opt 0 0),(sv (st (wY (l.getD i zU))))]=qN (qZ [0,99] 195) [(.opt 0 0),(sv (st (wY (l.getD i zU))))]) (oc (rfl:[(.opn 0 0),(.osl 99 0 ((((t++[60])++zC (l.take i))++[32]:qQ).length))]=qN (qZ [0,99] 195) [(.opn 0 0),(.osl 1 0 ((((t++[60])++zC (l.take i))++[32]:qQ).length))]) (oc ((qH (qJ _)).symm:(qT (((t++[60])++zC (l.take i))++[32]))=qN (qZ [0,99] 195) (qT (((t++[60])++zC (l.take i))++[32]))) oz))))<|zF<|qY (Wk.eq (show _=[ps 0 (.opt 0 0),ps 1 (.ssl (zG l) 0 l.length),ps 15 (.ssl (zG l) 0 l.length),ps 16 (nv l.length),ps 17 (nv i),pb 0 77 [(.opn 0 0),(.osl 195 0 (((((t++[60])++zC (l.take i))++[32])++(wY (l.getD i zU)):qQ).length))],pb 195 5 (qT ((((t++[60])++zC (l.take i))++[32])++(wY (l.getD i zU))))] from by simp only [qH (qJ _)])) ?_
    refine zY qC [] [.k4,.d,.n,.r] [ps 17 (iv (((i:Nat):Int)+1))] (oi (((i:Nat):Int)+1) (by omega) oz) ?_
    have hn:=ZY (show i<l.length from by omega)
    rw [if_neg (by omega)] at hn
    exact zR ⟨i+1,by show i+1≤l.length;omega⟩ (Wk.trans (Wk.eq (show _=[ps 0 (.opt 0 0),ps 1 (.ssl (zG l) 0 l.length),ps 15 (.ssl (zG l) 0 l.length),ps 16 (nv l.length),ps 17 (nv (i+1)),pb 0 77 [(.opn 0 0),(.osl 195 0 (((t++[60])++zC (l.take (i+1)):qQ).length))],pb 195 5 (qT ((t++[60])++zC (l.take (i+1))))] from by rw [hn];simp only [List.append_assoc];rfl)) (Wk.ren3 _ 2 hc0 [0,1,195] [(kb 2,(qT ((t++[60])++zC (l.take (i+1)))))] (oc (qJ _) (oz)) (by kernel_rfl) rfl rfl (by kernel_rfl) (by kernel_rfl))) (show l.length-(i+1)<l.length-i from by show l.length-(i+1)<l.length-i;omega)
   refine qU (zN h3)<|qF<|qA<|vK qC 1 [.k2,.d,.n,.k3,.d,.k2,.d] [ps 6 (sv (st ((vv ((l.getD i zU).1) ((l.getD i zU).2.1) ((l.getD i zU).2.2)).1)))] (yD 83 (qbj ((l.getD i zU).1) ((l.getD i zU).2.1) ((l.getD i zU).2.2)) oz) ?_
   rw [if_pos (show i=0 from by omega)] at hrm
   refine qY (Wk.eq (show _=[ps 0 (.opt 0 0),ps 1 (.ssl (zG l) 0 l.length),ps 6 (sv (st (wY (l.getD i zU)))),ps 15 (.ssl (zG l) 0 l.length),ps 16 (nv l.length),ps 17 (nv i),pb 0 77 [(.opn 0 0),(.osl 2 0 (((t++[60])++zC (l.take i):qQ).length))],pb 2 5 (qT ((t++[60])++zC (l.take i)))] from by rfl)) ?_
   refine zY qC [(4,.call [0,2] [(.opt 0 0),(sv (st (wY (l.getD i zU))))] [some (77,[(.opn 0 0),(.osl 1 0 (((t++[60])++zC (l.take i):qQ).length))]),some (5,(qT ((t++[60])++zC (l.take i))))] (.tup [(nv (((wY (l.getD i zU))).length)),(.av .nilIface)]) [some (77,[(.opn 0 0),(.osl 2 0 ((((t++[60])++zC (l.take i))++(wY (l.getD i zU)):qQ).length))]),none,some (5,(qT (((t++[60])++zC (l.take i))++(wY (l.getD i zU)))))])] [.k2,.d,.k3,.d,.n,.d,.n] [pb 0 77 [(.opn 0 0),(.osl 163 0 ((((t++[60])++zC (l.take i))++(wY (l.getD i zU)):qQ).length))],pb 163 5 (qN (yI [0,2] 163) (qT (((t++[60])++zC (l.take i))++(wY (l.getD i zU)))))] (oc (ww ((t++[60])++zC (l.take i)) (wY (l.getD i zU)) (by (first|omega|(simp only [List.length_append,List.length_cons,List.length_nil];omega)))) (oc (rfl:[(.opt 0 0),(sv (st (wY (l.getD i zU))))]=qN (qZ [0,2] 163) [(.opt 0 0),(sv (st (wY (l.getD i zU))))]) (oc (rfl:[(.opn 0 0),(.osl 2 0 (((t++[60])++zC (l.take i):qQ).length))]=qN (qZ [0,2] 163) [(.opn 0 0),(.osl 1 0 (((t++[60])++zC (l.take i):qQ).length))]) (oc ((qH (qJ _)).symm:(qT ((t++[60])++zC (l.take i)))=qN (qZ [0,2] 163) (qT ((t++[60])++zC (l.take i)))) oz))))<|zF<|qY (Wk.eq (show _=[ps 0 (.opt 0 0),ps 1 (.ssl (zG l) 0 l.length),ps 15 (.ssl (zG l) 0 l.length),ps 16 (nv l.length),ps 17 (nv i),pb 0 77 [(.opn 0 0),(.osl 163 0 ((((t++[60])++zC (l.take i))++(wY (l.getD i zU)):qQ).length))],pb 163 5 (qT (((t++[60])++zC (l.take i))++(wY (l.getD i zU))))] from by simp only [qH (qJ _)])) ?_
   refine zY qC [] [.k4,.d,.n,.r] [ps 17 (iv (((i:Nat):Int)+1))] (oi (((i:Nat):Int)+1) (by omega) oz) ?_
   have hn:=ZY (show i<l.length from by omega)
   rw [if_pos (by omega)] at hn
   exact zR ⟨i+1,by show i+1≤l.length;omega⟩ (Wk.trans (Wk.eq (show _=[ps 0 (.opt 0 0),ps 1 (.ssl (zG l) 0 l.length),ps 15 (.ssl (zG l) 0 l.length),ps 16 (nv l.length),ps 17 (nv (i+1)),pb 0 77 [(.opn 0 0),(.osl 163 0 (((t++[60])++zC (l.take (i+1)):qQ).length))],pb 163 5 (qT ((t++[60])++zC (l.take (i+1))))] from by rw [hn,show i=0 from by omega,List.take_zero,show zC []=[] from rfl,List.append_nil];rfl)) (Wk.ren3 _ 2 hc0 [0,1,163] [(kb 2,(qT ((t++[60])++zC (l.take (i+1)))))] (oc (qJ _) (oz)) (by kernel_rfl) rfl rfl (by kernel_rfl) (by kernel_rfl))) (show l.length-(i+1)<l.length-i from by show l.length-(i+1)<l.length-i;omega)
  refine qU (zN h2)<|zS rfl rfl<|qA<|qY (Wk.eq (show _=[ps 0 (.opt 0 0),ps 1 (.ssl (zG l) 0 l.length),ps 15 (.ssl (zG l) 0 l.length),ps 16 (nv l.length),ps 17 (nv i),ps 18 (bv (decide (((i:Nat):Int)<(l.length:Int)))),pb 0 77 [(.opn 0 0),(.osl 2 0 (((t++[60])++zC l:qQ).length))],pb 2 5 (qT ((t++[60])++zC l))] from by rw [List.take_of_length_le (show l.length≤i from by omega)])) ?_
  refine qL qC [.k1,.d,.d,.d,.d,.d,.n,.r] [ps 41 (bv (decide (1<(l.length:Int))))]<|qR (zP h1)<|qk qC [(3,.call [0,2] [(.opt 0 0),(.av (.int .u8 62))] [some (77,[(.opn 0 0),(.osl 1 0 (((t++[60])++zC l:qQ).length))]),some (5,(qT ((t++[60])++zC l)))] (.av .nilIface) [some (77,[(.opn 0 0),(.osl 2 0 ((((t++[60])++zC l)++[62]:qQ).length))]),none,some (5,(qT (((t++[60])++zC l)++[62])))])] [pb 0 77 [(.opn 0 0),(.osl 59 0 ((((t++[60])++zC l)++[62]:qQ).length))],pb 59 5 (qN (yI [0,2] 59) (qT (((t++[60])++zC l)++[62])))] (oc (YW ((t++[60])++zC l) 62 (by (first|omega|(simp only [List.length_append,List.length_cons,List.length_nil];omega)))) (oc (rfl:[(.opt 0 0),(.av (.int .u8 62))]=qN (qZ [0,2] 59) [(.opt 0 0),(.av (.int .u8 62))]) (oc (rfl:[(.opn 0 0),(.osl 2 0 (((t++[60])++zC l:qQ).length))]=qN (qZ [0,2] 59) [(.opn 0 0),(.osl 1 0 (((t++[60])++zC l:qQ).length))]) (oc ((qH (qJ _)).symm:(qT ((t++[60])++zC l))=qN (qZ [0,2] 59) (qT ((t++[60])++zC l))) oz)))) ?_
  exact fun cx_ a_ hI_=>zV (H':=[some (77,[(.opn 0 0),(.osl 2 0 ((t++Qw l:qQ).length))]),none,some (5,(qT (t++Qw l)))]) (.inl rfl) (Wk.trans (Wk.eq (show _=[pb 0 77 [(.opn 0 0),(.osl 59 0 ((((t++[60])++zC l)++[62]:qQ).length))],pb 59 5 (qT (((t++[60])++zC l)++[62]))] from by simp only [qH (qJ _)])) (Wk.trans (Wk.eq (show _=[pb 0 77 [(.opn 0 0),(.osl 59 0 ((t++Qw l:qQ).length))],pb 59 5 (qT (t++Qw l))] from by rw [show Qw l=60 :: (zC l++[62]) from if_pos (show 1<l.length from by omega)];simp only [List.append_assoc,List.cons_append,List.nil_append])) (Wk.ren3 [pb 0 77 [(.opn 0 0),(.osl 2 0 ((t++Qw l:qQ).length))],pb 2 5 (qT (t++Qw l))] 2 hc0 [0,1,59] [(kb 2,(qT (t++Qw l)))] (oc (qJ _) (oz)) (by kernel_rfl) rfl rfl (by kernel_rfl) (by kernel_rfl)))) rfl (oc rfl (oc rfl (oz))) (fun cx_ a_ hI_=>zL (l':=[pb 0 77 [(.opn 0 0),(.osl 2 0 ((t++Qw l:qQ).length))],pb 2 5 (qT (t++Qw l))]) (by kernel_rfl) cx_ a_ hI_) hI_
 refine qU (zN h1)<|qF<|qA<|qA ?_
 rw [if_neg (show ¬ 1<l.length from by omega)] at hcl
 refine qY (Wk.eq (show _=[ps 0 (.opt 0 0),ps 1 (.ssl (zG l) 0 l.length),ps 10 (bv (decide (1<(l.length:Int)))),pb 0 77 [(.opn 0 0),(.osl 1 0 ((t++zC (l.take 0):qQ).length))],pb 1 5 (qT (t++zC (l.take 0)))] from by rw [List.take_zero];rw [show zC []=[] from rfl,List.append_nil])) ?_
 refine qL qC [.k2,.d,.n,.n,.n,.r] [ps 15 (.ssl (zG l) 0 l.length),ps 16 (nv l.length),ps 17 (iv 0)]<|qV<|yC (α:={x:Nat // x≤l.length}) (fun x=>[ps 0 (.opt 0 0),ps 1 (.ssl (zG l) 0 l.length),ps 15 (.ssl (zG l) 0 l.length),ps 16 (nv l.length),ps 17 (nv x.1),pb 0 77 [(.opn 0 0),(.osl 2 0 ((t++zC (l.take x.1):qQ).length))],pb 2 5 (qT (t++zC (l.take x.1)))]) (fun x=>l.length-x.1) 3 ⟨0,Nat.zero_le _⟩ (Wk.ren3D _ 2 hc0 [0,1,1] [(kb 2,(qT (t++zC (l.take 0))))] (oc (qJ _) (oz)) (by kernel_rfl) rfl (by kernel_rfl) (by kernel_rfl) (by kernel_rfl)) ?_
 rintro ⟨i,hi⟩
 refine qA<|qk qC [] [ps 0 (.opt 0 0),ps 1 (.ssl (zG l) 0 l.length),ps 15 (.ssl (zG l) 0 l.length),ps 16 (nv l.length),ps 17 (nv i),ps 18 (bv (decide (((i:Nat):Int)<(l.length:Int)))),pb 0 77 [(.opn 0 0),(.osl 2 0 ((t++zC (l.take i):qQ).length))],pb 2 5 (qT (t++zC (l.take i)))] (oz)<|qA ?_
 by_cases h4:(i:Int)<(l.length:Int)
 ·refine qR (zP h4)<|qF<|qA<|qV<|qA ?_
  have hrm:=qfb (show i<l.length from by omega)
  have hpt:(vv (l.getD i zU).1 (l.getD i zU).2.1 (l.getD i zU).2.2).1=wY (l.getD i zU):=rfl
  have hple:=qfc l i
  refine zY qC [(1,.nat (i*3)),(2,.cells [(iv ((l.getD i zU).1)),(iv ((l.getD i zU).2.1)),(iv ((l.getD i zU).2.2))])] [.k2,.n,.n,.k3,.d,.k2,.n] [ps 4 (nv i),ps 5 (.opt 35 0),pb 35 52 [(iv ((l.getD i zU).1)),(iv ((l.getD i zU).2.1)),(iv ((l.getD i zU).2.2))]] (oc (by omega:(0:Int)≤(i:Int)∧(i:Int)<(l.length:Int)) (oc (by omega:0+(((i:Nat):Int):Int).toNat*3=(i*3)) (oc (yG ptC 3 (fun _=>rfl) zU l i 0 3 (by omega) (by decide):(i*3)+3≤((zG l)).length∧(((zG l)).drop (i*3)).take 3=[(iv ((l.getD i zU).1)),(iv ((l.getD i zU).2.1)),(iv ((l.getD i zU).2.2))]) oz))) ?_
  refine qA<|qA<|qL qC [.k2,.d,.k4,.n,.r] [ps 23 (bv (decide (0<(i:Int))))] ?_
  by_cases h5:0<(i:Int)
  ·refine qR (zP h5) ?_
   have hrm2:=hrm.1
   rw [if_neg (show ¬ i=0 from by omega)] at hrm2
   refine zY qC [(3,.call [0,2] [(.opt 0 0),(.av (.int .u8 32))] [some (77,[(.opn 0 0),(.osl 1 0 ((t++zC (l.take i):qQ).length))]),some (5,(qT (t++zC (l.take i))))] (.av .nilIface) [some (77,[(.opn 0 0),(.osl 2 0 (((t++zC (l.take i))++[32]:qQ).length))]),none,some (5,(qT ((t++zC (l.take i))++[32])))])] [.k6,.d,.d,.n,.d,.k1,.n] [pb 0 77 [(.opn 0 0),(.osl 99 0 (((t++zC (l.take i))++[32]:qQ).length))],pb 99 5 (qN (yI [0,2] 99) (qT ((t++zC (l.take i))++[32])))] (oc (YW (t++zC (l.take i)) 32 (by (first|omega|(simp only [List.length_append,List.length_cons,List.length_nil];omega)))) (oc (rfl:[(.opt 0 0),(.av (.int .u8 32))]=qN (qZ [0,2] 99) [(.opt 0 0),(.av (.int .u8 32))]) (oc (rfl:[(.opn 0 0),(.osl 2 0 ((t++zC (l.take i):qQ).length))]=qN (qZ [0,2] 99) [(.opn 0 0),(.osl 1 0 ((t++zC (l.take i):qQ).length))]) (oc ((qH (qJ _)).symm:(qT (t++zC (l.take i)))=qN (qZ [0,2] 99) (qT (t++zC (l.take i)))) oz))))<|qY (Wk.eq (show _=[ps 0 (.opt 0 0),ps 1 (.ssl (zG l) 0 l.length),ps 5 (.opt 35 0),ps 15 (.ssl (zG l) 0 l.length),ps 16 (nv l.length),ps 17 (nv i),pb 0 77 [(.opn 0 0),(.osl 99 0 (((t++zC (l.take i))++[32]:qQ).length))],pb 35 52 [(iv ((l.getD i zU).1)),(iv ((l.getD i zU).2.1)),(iv ((l.getD i zU).2.2))],pb 99 5 (qT ((t++zC (l.take i))++[32]))] from by simp only [qH (qJ _)])) ?_
   refine qA<|vK qC 1 [.k2,.d,.n,.k4,.d,.r] [ps 6 (sv (st ((vv ((l.getD i zU).1) ((l.getD i zU).2.1) ((l.getD i zU).2.2)).1)))] (yD 115 (qbj ((l.getD i zU).1) ((l.getD i zU).2.1) ((l.getD i zU).2.2)) oz) ?_
   rw [if_neg (show ¬ i=0 from by omega)] at hrm
   refine qY (Wk.eq (show _=[ps 0 (.opt 0 0),ps 1 (.ssl (zG l) 0 l.length),ps 6 (sv (st (wY (l.getD i zU)))),ps 15 (.ssl (zG l) 0 l.length),ps 16 (nv l.length),ps 17 (nv i),pb 0 77 [(.opn 0 0),(.osl 99 0 (((t++zC (l.take i))++[32]:qQ).length))],pb 99 5 (qT ((t++zC (l.take i))++[32]))] from by rfl)) ?_
   refine zY qC [(4,.call [0,99] [(.opt 0 0),(sv (st (wY (l.getD i zU))))] [some (77,[(.opn 0 0),(.osl 1 0 (((t++zC (l.take i))++[32]:qQ).length))]),some (5,(qT ((t++zC (l.take i))++[32])))] (.tup [(nv (((wY (l.getD i zU))).length)),(.av .nilIface)]) [some (77,[(.opn 0 0),(.osl 2 0 ((((t++zC (l.take i))++[32])++(wY (l.getD i zU)):qQ).length))]),none,some (5,(qT (((t++zC (l.take i))++[32])++(wY (l.getD i zU)))))])] [.k2,.d,.k3,.d,.n,.d,.n] [pb 0 77 [(.opn 0 0),(.osl 195 0 ((((t++zC (l.take i))++[32])++(wY (l.getD i zU)):qQ).length))],pb 195 5 (qN (yI [0,99] 195) (qT (((t++zC (l.take i))++[32])++(wY (l.getD i zU)))))] (oc (ww ((t++zC (l.take i))++[32]) (wY (l.getD i zU)) (by (first|omega|(simp only [List.length_append,List.length_cons,List.length_nil];omega)))) (oc (rfl:[(.opt 0 0),(sv (st (wY (l.getD i zU))))]=qN (qZ [0,99] 195) [(.opt 0 0),(sv (st (wY (l.getD i zU))))]) (oc (rfl:[(.opn 0 0),(.osl 99 0 (((t++zC (l.take i))++[32]:qQ).length))]=qN (qZ [0,99] 195) [(.opn 0 0),(.osl 1 0 (((t++zC (l.take i))++[32]:qQ).length))]) (oc ((qH (qJ _)).symm:(qT ((t++zC (l.take i))++[32]))=qN (qZ [0,99] 195) (qT ((t++zC (l.take i))++[32]))) oz))))<|zF<|qY (Wk.eq (show _=[ps 0 (.opt 0 0),ps 1 (.ssl (zG l) 0 l.length),ps 15 (.ssl (zG l) 0 l.length),ps 16 (nv l.length),ps 17 (nv i),pb 0 77 [(.opn 0 0),(.osl 195 0 ((((t++zC (l.take i))++[32])++(wY (l.getD i zU)):qQ).length))],pb 195 5 (qT (((t++zC (l.take i))++[32])++(wY (l.getD i zU))))] from by simp only [qH (qJ _)])) ?_
   refine zY qC [] [.k4,.d,.n,.r] [ps 17 (iv (((i:Nat):Int)+1))] (oi (((i:Nat):Int)+1) (by omega) oz) ?_
   have hn:=ZY (show i<l.length from by omega)
   rw [if_neg (by omega)] at hn
   exact zR ⟨i+1,by show i+1≤l.length;omega⟩ (Wk.trans (Wk.eq (show _=[ps 0 (.opt 0 0),ps 1 (.ssl (zG l) 0 l.length),ps 15 (.ssl (zG l) 0 l.length),ps 16 (nv l.length),ps 17 (nv (i+1)),pb 0 77 [(.opn 0 0),(.osl 195 0 ((t++zC (l.take (i+1)):qQ).length))],pb 195 5 (qT (t++zC (l.take (i+1))))] from by rw [hn];simp only [List.append_assoc];rfl)) (Wk.ren3 _ 2 hc0 [0,1,195] [(kb 2,(qT (t++zC (l.take (i+1)))))] (oc (qJ _) (oz)) (by kernel_rfl) rfl rfl (by kernel_rfl) (by kernel_rfl))) (show l.length-(i+1)<l.length-i from by show l.length-(i+1)<l.length-i;omega)
  refine qU (zN h5)<|qF<|qA<|vK qC 1 [.k2,.d,.n,.k3,.d,.k2,.d] [ps 6 (sv (st ((vv ((l.getD i zU).1) ((l.getD i zU).2.1) ((l.getD i zU).2.2)).1)))] (yD 83 (qbj ((l.getD i zU).1) ((l.getD i zU).2.1) ((l.getD i zU).2.2)) oz) ?_
  rw [if_pos (show i=0 from by omega)] at hrm
  refine qY (Wk.eq (show _=[ps 0 (.opt 0 0),ps 1 (.ssl (zG l) 0 l.length),ps 6 (sv (st (wY (l.getD i zU)))),ps 15 (.ssl (zG l) 0 l.length),ps 16 (nv l.length),ps 17 (nv i),pb 0 77 [(.opn 0 0),(.osl 2 0 ((t++zC (l.take i):qQ).length))],pb 2 5 (qT (t++zC (l.take i)))] from by rfl)) ?_
  refine zY qC [(4,.call [0,2] [(.opt 0 0),(sv (st (wY (l.getD i zU))))] [some (77,[(.opn 0 0),(.osl 1 0 ((t++zC (l.take i):qQ).length))]),some (5,(qT (t++zC (l.take i))))] (.tup [(nv (((wY (l.getD i zU))).length)),(.av .nilIface)]) [some (77,[(.opn 0 0),(.osl 2 0 (((t++zC (l.take i))++(wY (l.getD i zU)):qQ).length))]),none,some (5,(qT ((t++zC (l.take i))++(wY (l.getD i zU)))))])] [.k2,.d,.k3,.d,.n,.d,.n] [pb 0 77 [(.opn 0 0),(.osl 163 0 (((t++zC (l.take i))++(wY (l.getD i zU)):qQ).length))],pb 163 5 (qN (yI [0,2] 163) (qT ((t++zC (l.take i))++(wY (l.getD i zU)))))] (oc (ww (t++zC (l.take i)) (wY (l.getD i zU)) (by (first|omega|(simp only [List.length_append,List.length_cons,List.length_nil];omega)))) (oc (rfl:[(.opt 0 0),(sv (st (wY (l.getD i zU))))]=qN (qZ [0,2] 163) [(.opt 0 0),(sv (st (wY (l.getD i zU))))]) (oc (rfl:[(.opn 0 0),(.osl 2 0 ((t++zC (l.take i):qQ).length))]=qN (qZ [0,2] 163) [(.opn 0 0),(.osl 1 0 ((t++zC (l.take i):qQ).length))]) (oc ((qH (qJ _)).symm:(qT (t++zC (l.take i)))=qN (qZ [0,2] 163) (qT (t++zC (l.take i)))) oz))))<|zF<|qY (Wk.eq (show _=[ps 0 (.opt 0 0),ps 1 (.ssl (zG l) 0 l.length),ps 15 (.ssl (zG l) 0 l.length),ps 16 (nv l.length),ps 17 (nv i),pb 0 77 [(.opn 0 0),(.osl 163 0 (((t++zC (l.take i))++(wY (l.getD i zU)):qQ).length))],pb 163 5 (qT ((t++zC (l.take i))++(wY (l.getD i zU))))] from by simp only [qH (qJ _)])) ?_
  refine zY qC [] [.k4,.d,.n,.r] [ps 17 (iv (((i:Nat):Int)+1))] (oi (((i:Nat):Int)+1) (by omega) oz) ?_
  have hn:=ZY (show i<l.length from by omega)
  rw [if_pos (by omega)] at hn
  exact zR ⟨i+1,by show i+1≤l.length;omega⟩ (Wk.trans (Wk.eq (show _=[ps 0 (.opt 0 0),ps 1 (.ssl (zG l) 0 l.length),ps 15 (.ssl (zG l) 0 l.length),ps 16 (nv l.length),ps 17 (nv (i+1)),pb 0 77 [(.opn 0 0),(.osl 163 0 ((t++zC (l.take (i+1)):qQ).length))],pb 163 5 (qT (t++zC (l.take (i+1))))] from by rw [hn,show i=0 from by omega,List.take_zero,show zC []=[] from rfl,List.append_nil];rfl)) (Wk.ren3 _ 2 hc0 [0,1,163] [(kb 2,(qT (t++zC (l.take (i+1)))))] (oc (qJ _) (oz)) (by kernel_rfl) rfl rfl (by kernel_rfl) (by kernel_rfl))) (show l.length-(i+1)<l.length-i from by show l.length-(i+1)<l.length-i;omega)
 refine qU (zN h4)<|zS rfl rfl<|qA<|qY (Wk.eq (show _=[ps 0 (.opt 0 0),ps 1 (.ssl (zG l) 0 l.length),ps 15 (.ssl (zG l) 0 l.length),ps 16 (nv l.length),ps 17 (nv i),ps 18 (bv (decide (((i:Nat):Int)<(l.length:Int)))),pb 0 77 [(.opn 0 0),(.osl 2 0 ((t++zC l:qQ).length))],pb 2 5 (qT (t++zC l))] from by rw [List.take_of_length_le (show l.length≤i from by omega)])) ?_
 refine qL qC [.k1,.d,.d,.d,.d,.d,.n,.r] [ps 41 (bv (decide (1<(l.length:Int))))]<|qU (zN h1)<|qF ?_
 exact fun cx_ a_ hI_=>zV (H':=[some (77,[(.opn 0 0),(.osl 2 0 ((t++Qw l:qQ).length))]),none,some (5,(qT (t++Qw l)))]) (.inl rfl) (Wk.trans (Wk.eq (show _=[ps 0 (.opt 0 0),ps 41 (bv (decide (1<(l.length:Int)))),pb 0 77 [(.opn 0 0),(.osl 2 0 ((t++Qw l:qQ).length))],pb 2 5 (qT (t++Qw l))] from by rw [show Qw l=zC l from if_neg (show ¬ 1<l.length from by omega)])) (Wk.ren3 [pb 0 77 [(.opn 0 0),(.osl 2 0 ((t++Qw l:qQ).length))],pb 2 5 (qT (t++Qw l))] 2 hc0 [0,1,2] [(kb 2,(qT (t++Qw l)))] (oc (qJ _) (oz)) (by kernel_rfl) rfl rfl (by kernel_rfl) (by kernel_rfl))) rfl (oc rfl (oc rfl (oz))) (fun cx_ a_ hI_=>zL (l':=[pb 0 77 [(.opn 0 0),(.osl 2 0 ((t++Qw l:qQ).length))],pb 2 5 (qT (t++Qw l))]) (by kernel_rfl) cx_ a_ hI_) hI_
end Go.Proofs.YtmlnilkbolcknaaGreatDoor.Pm
