/-
  SCORE: a bar told: walk. (Printed by wip/pm.) | SCORE: what is wrong: walk. (Printed by wip/pm.) | SCORE: what sounds in a piece: walk. (Printed by wip/pm.) | The document: what sounds in a piece: walk. (Printed by wip/pm.) | The document: a piece written: walk. (Printed by wip/pm.) | THE VALUE MACHINE (Bu): what writes into a place of its own that holds its own address,or none yet;a row of bytes that becomes a text,and is written no more. No program in sight. | strings.Builder within a struct of the program's own: copyCheck,String (the kit's worked walks,turned). | strings.Builder within a struct of the program's own: WriteByte,WriteString,Len: walk. (Printed by wip/pm.) | A piece written: pitches: walk. (Printed by wip/pm.)
-/
import Derived.Test.YtmlnilkbolcknaaGreatDoorJLawSNotes4
import Derived.Test.YtmlnilkbolcknaaGreatDoorJLawSNotes3
import Derived.Test.YtmlnilkbolcknaaGreatDoorJLawSNotes2
import Derived.Test.YtmlnilkbolcknaaGreatDoorJLawSNotes1
import Derived.Lib.Strings
import Derived.Lib.Slices
import Derived.Lib.Walk
import Derived.Lib.Builder
import Derived.Lib.AppendStr
import Derived.Lib.UnsafeStr
import Derived.Laws.Externs
set_option linter.unusedVariables false
set_option linter.unusedSimpArgs false
set_option linter.deprecated false
set_option maxRecDepth 100000
set_option maxHeartbeats 4000000
namespace Go.Proofs.YtmlnilkbolcknaaGreatDoor.Pm
open Go Fr
abbrev yv (y:Br):=Fr.make y.1 y.2.1
abbrev jO (y:Br):=ww (yV (zY y.2.2)) (yv y).1 (yv y).2.1
abbrev vX (v a b:Int) (y:Br) (N:List Nt) (z:Nat):=zD v a b (jO y) y.2.2 [] (N,z,0)
abbrev aH4 (a b:Int) (y:Br):=Fr.plus a b (yv y).1 (yv y).2.1
theorem qgi (y:Br) (v a b:Int) (T:List Sp) (N:List Nt) (z q r:Nat) (hy:qav y) (hw:(wE y.2.2 1 4095).1=true) (hne:y.2.2.length≠0) (hok:ZQ (N,z,0)) (hN:N.length≤90000000000) (hab:I64 a∧I64 b):PC Tryz.prog 35 [(.opt 0 0),(.agg [(iv y.1),(iv y.2.1),(.ssl (qN (y.2.2)) 0 ((y.2.2).length))])] [some (91,[(iv v),(.osl 1 0 N.length),(nv z),(iv a),(iv b),(.ssl (qF T) (q*5) r)]),some (58,(qz N))] (iv ((vV v y ((a,b),N,z)).1)) [none,none,none]:=by
 obtain ⟨ha,hb⟩:=hab
 have hab:I64 a∧I64 b:=⟨ha,hb⟩
 have hy1:I64 y.1:=hy.1
 have hy2:I64 y.2.1:=hy.2.1
 refine zH Tryz.func35 rfl (by kernel_rfl) (Nat.le_of_ble_eq_true rfl) (by kernel_rfl) (l0:=[ps 0 (.opt 0 0),ps 1 (.agg [(iv y.1),(iv y.2.1),(.ssl (qN (y.2.2)) 0 ((y.2.2).length))]),pb 0 91 [(iv v),(.osl 1 0 N.length),(nv z),(iv a),(iv b),(.ssl (qF T) (q*5) r)],pb 1 58 (qz N)]) rfl (fun c0 Bor hc0=>?_)
 refine qA<|qK mxd [.k1,.d,.n,.k2,.n] [ps 3 (.opt 2 0),pb 2 47 [(iv y.1),(iv y.2.1),(.ssl (qN (y.2.2)) 0 ((y.2.2).length))]]<|qA<|vJ mxd 4 [.k2,.n,.n,.k3,.n] [ps 5 (.opt 82 0),ps 6 (iv ((yv y).2.2)),pb 82 56 [(iv ((yv y).1)),(iv ((yv y).2.1))]] (yC 50 (qjq y.1 y.2.1 (by first|assumption|omega) (by first|assumption|omega)) oz)<|qA<|qA<|qK mxd [.k4,.n,.r] [ps 18 (bv (!(decide (((yv y).2.2)=0))))] ?_
 by_cases h1:((yv y).2.2)=0
 ·refine qT (bt h1)<|qE<|qA ?_
  have hmr:=qan h1
  have hmI:=jM hmr
  obtain ⟨hmI1,hmI2⟩:=hmI
  have hmI:=jM hmr
  have hfr:QO (zY y.2.2):=by unfold zY;rw [QO];exact ⟨⟨by decide,by decide⟩,by decide,by decide,hy.2.2.1,hy.2.2.2⟩
  refine vJ mxd 3 [.k3,.d,.n,.d,.k4,.n] [ps 7 (.opt 154 0),pb 154 125 [(iv (kd (yV (zY y.2.2)))),(iv (sh (yV (zY y.2.2)))),(.ssl (kc (yV (zY y.2.2))) 0 ((qL (yV (zY y.2.2))).length))]] (yC 146 (beat_pc (zY y.2.2) hfr) oz)<|qA<|qA ?_
  by_cases h2:(yQ (yV (zY y.2.2)) (yv y).1 (yv y).2.1)=0
  ·refine vJ mxd 3 [.k3,.n,.d,.d,.n,.k3,.d] [ps 6 (iv 0),pb 0 91 [(iv v),(.osl 1 0 N.length),(nv z),(iv a),(iv b),(.ssl (qF (jO y)) 0 (((jO y)).length))]] (yC 194 (by have e:=qbb (yV (zY y.2.2)) (yv y).1 (yv y).2.1 hmI.1 hmI.2;rw [qag h2] at e;exact e:PC Tryz.prog 67 [(.agg [(iv (kd (yV (zY y.2.2)))),(iv (sh (yV (zY y.2.2)))),(.ssl (kc (yV (zY y.2.2))) 0 ((qL (yV (zY y.2.2))).length))]),(.agg [(iv ((yv y).1)),(iv ((yv y).2.1))])] [] (.tup [(.ssl (qF (jO y)) 0 (((jO y)).length)),(iv 0)]) []) oz)<|qA<|qK mxd [.k4,.n,.r] [ps 34 (bv false)]<|zj (b:=false) rfl rfl<|qE<|qA<|qA ?_
   have hig:=Qy y.2.2 1 4095 (by decide) hw
   have hir:=WP y.2.2 1 4095 (by decide)
   have hsl:(jO y).length=wk y.2.2:=qcj hne hig.1 h2
   have hi0:=hir.2.2 hw
   have hti:=qio (v:=v) (a:=a) (b:=b) (S:=(jO y)) (by omega) hab (all4_at (qaf hmr h2)) _ y.2.2 (Nat.lt_succ_self _) [] N z 0 hy.2.2.2 hy.2.2.1 hig.2.1 hok (by omega) (by omega) (by have:=hig.2.2.1 hne;simp only [List.length_nil];omega) (fun i hi=>absurd hi (Nat.not_lt_zero i))
   refine qX (Wk.eq (show _=[ps 0 (.opt 0 0),ps 3 (.opt 2 0),ps 5 (.opt 82 0),ps 6 (iv 0),ps 34 (bv false),pb 0 91 [(iv v),(.osl 1 0 N.length),(nv z),(iv a),(iv b),(.ssl (qF (jO y)) (0*5) ((jO y).length-0))],pb 1 58 (qz N),pb 2 47 [(iv y.1),(iv y.2.1),(.ssl (qN (y.2.2)) 0 ((y.2.2).length))],pb 82 56 [(iv ((yv y).1)),(iv ((yv y).2.1))]] from by rfl)) ?_
   refine zX mxd [(3,.call [0,1] [(.opt 0 0),(.ssl (qN (y.2.2)) 0 ((y.2.2).length)),(.ssl (zZ ([]:List Iv)) 0 (([]:List Iv).length))] [some (91,[(iv v),(.osl 1 0 N.length),(nv z),(iv a),(iv b),(.ssl (qF (jO y)) (0*5) ((jO y).length-0))]),some (58,(qz N))] (iv ((vX v a b y N z).1)) [some (91,[(iv v),(.osl 2 0 (((vX v a b y N z)).2.1.length)),(nv ((vX v a b y N z).2.2.1)),(iv a),(iv b),(.ssl (qF (jO y)) (((vX v a b y N z).2.2.2)*5) ((jO y).length-(vX v a b y N z).2.2.2))]),none,some (58,(qz ((vX v a b y N z).2.1)))])] [.k1,.d,.k1,.d,.n,.d,.d,.n,.d,.d,.k1,.n] [ps 8 (iv ((vX v a b y N z).1)),pb 0 91 [(iv v),(.osl 298 0 (((vX v a b y N z)).2.1.length)),(nv ((vX v a b y N z).2.2.1)),(iv a),(iv b),(.ssl (qF (jO y)) (((vX v a b y N z).2.2.2)*5) ((jO y).length-(vX v a b y N z).2.2.2))],pb 298 58 (qM (yH [0,1] 298) (qz ((vX v a b y N z).2.1)))] (oc hti (oc (rfl:[(.opt 0 0),(.ssl (qN (y.2.2)) 0 ((y.2.2).length)),(.ssl [] 0 0)]=qM (qY [0,1] 298) [(.opt 0 0),(.ssl (qN (y.2.2)) 0 ((y.2.2).length)),(.ssl (zZ ([]:List Iv)) 0 (([]:List Iv).length))]) (oc (rfl:[(iv v),(.osl 1 0 N.length),(nv z),(iv a),(iv b),(.ssl (qF (jO y)) (0*5) ((jO y).length-0))]=qM (qY [0,1] 298) [(iv v),(.osl 1 0 N.length),(nv z),(iv a),(iv b),(.ssl (qF (jO y)) (0*5) ((jO y).length-0))]) (oc ((qG (qk _)).symm:(qz N)=qM (qY [0,1] 298) (qz N)) oz))))<|qX (Wk.eq (show _=[ps 0 (.opt 0 0),ps 5 (.opt 82 0),ps 8 (iv ((vX v a b y N z).1)),pb 0 91 [(iv v),(.osl 298 0 (((vX v a b y N z)).2.1.length)),(nv ((vX v a b y N z).2.2.1)),(iv a),(iv b),(.ssl (qF (jO y)) (((vX v a b y N z).2.2.2)*5) ((jO y).length-(vX v a b y N z).2.2.2))],pb 82 56 [(iv ((yv y).1)),(iv ((yv y).2.1))],pb 298 58 (qz ((vX v a b y N z).2.1))] from by simp only [qG (qk _)])) ?_
   refine qA<|qK mxd [.k3,.n,.r] [ps 41 (bv (!(decide (((vX v a b y N z).1)=0))))] ?_
   by_cases h3:((vX v a b y N z).1)=0
   ·refine qT (bt h3)<|qE<|qA<|QJ mxd [(6,.call [] [(.agg [(iv a),(iv b)]),(.agg [(iv ((yv y).1)),(iv ((yv y).2.1))])] [] (.tup [(.agg [(iv ((Fr.plus a b ((yv y).1) ((yv y).2.1)).1)),(iv ((Fr.plus a b ((yv y).1) ((yv y).2.1)).2.1))]),(iv ((Fr.plus a b ((yv y).1) ((yv y).2.1)).2.2))]) [])] (bfm [[],[],[(1,1)],[(1,2)],[(1,3)],[],[(1,5)],[(1,6)],[(1,7)],[(1,7)],[(0,9)],[(0,9),(10,1)],[(0,9),(10,2)],[(0,13)]]) [([88],[0]),([90],[0]),([92],[90]),([94],[92]),([96],[1,94]),([98],[10,165]),([100],[96,98]),([86],[100]),([102],[86]),([104],[86]),([106],[88]),([108],[106]),([1],[1,102,108]),([12],[104])] [.d,.d,.n,.d,.d,.d,.n,.d,.r] [ps 6 (iv ((Fr.plus a b ((yv y).1) ((yv y).2.1)).2.2)),pb 0 91 [(iv v),(.osl 298 0 (((vX v a b y N z)).2.1.length)),(nv ((vX v a b y N z).2.2.1)),(iv ((Fr.plus a b ((yv y).1) ((yv y).2.1)).1)),(iv ((Fr.plus a b ((yv y).1) ((yv y).2.1)).2.1)),(.ssl (qF (jO y)) (((vX v a b y N z).2.2.2)*5) ((jO y).length-(vX v a b y N z).2.2.2))]] (yC 378 (WJ a b ((yv y).1) ((yv y).2.1) (by first|assumption|omega) (by first|assumption|omega) (by first|assumption|omega) (by first|assumption|omega)) oz)<|qA<|qK mxd [.n,.d,.r] [ps 4 (iv ((Fr.plus a b ((yv y).1) ((yv y).2.1)).2.2))] ?_
    have hR:(vV v y ((a,b),N,z)).1=((Fr.plus a b ((yv y).1) ((yv y).2.1)).2.2):=by unfold vV;dsimp only;rw [if_pos h1,if_pos h2,if_pos h3]
    rw [hR]
    exact zz fun cx_ a_ hI_=>zU (H':=[none,none,none]) (.inr rfl) (Wk.ren3 [ps 4 (iv ((Fr.plus a b ((yv y).1) ((yv y).2.1)).2.2)),pb 0 91 [(iv v),(.osl 2 0 (((vX v a b y N z)).2.1.length)),(nv ((vX v a b y N z).2.2.1)),(iv ((Fr.plus a b ((yv y).1) ((yv y).2.1)).1)),(iv ((Fr.plus a b ((yv y).1) ((yv y).2.1)).2.1)),(.ssl (qF (jO y)) (((vX v a b y N z).2.2.2)*5) ((jO y).length-(vX v a b y N z).2.2.2))],pb 2 58 (qz ((vX v a b y N z).2.1))] 2 hc0 [0,1,298] [(kb 2,(qz ((vX v a b y N z).2.1)))] (oc (qk _) (oz)) (by kernel_rfl) rfl rfl (by kernel_rfl) (by kernel_rfl)) rfl (oz) (fun cx_ a_ hI_=>zK (l':=[ps 4 (iv ((Fr.plus a b ((yv y).1) ((yv y).2.1)).2.2)),pb 0 91 [(iv v),(.osl 2 0 (((vX v a b y N z)).2.1.length)),(nv ((vX v a b y N z).2.2.1)),(iv ((Fr.plus a b ((yv y).1) ((yv y).2.1)).1)),(iv ((Fr.plus a b ((yv y).1) ((yv y).2.1)).2.1)),(.ssl (qF (jO y)) (((vX v a b y N z).2.2.2)*5) ((jO y).length-(vX v a b y N z).2.2.2))],pb 2 58 (qz ((vX v a b y N z).2.1))]) (by kernel_rfl) cx_ a_ hI_) hI_
   refine qQ (bf h3)<|qA<|qK mxd [.d,.n,.d,.d,.d,.k1,.d,.r] [ps 4 (iv ((vX v a b y N z).1))] ?_
   have hR:(vV v y ((a,b),N,z)).1=((vX v a b y N z).1):=by unfold vV;dsimp only;rw [if_pos h1,if_pos h2,if_neg h3]
   rw [hR]
   exact zz fun cx_ a_ hI_=>zU (H':=[none,none,none]) (.inr rfl) (Wk.ren3 [ps 4 (iv ((vX v a b y N z).1)),pb 0 91 [(iv v),(.osl 2 0 (((vX v a b y N z)).2.1.length)),(nv ((vX v a b y N z).2.2.1)),(iv a),(iv b),(.ssl (qF (jO y)) (((vX v a b y N z).2.2.2)*5) ((jO y).length-(vX v a b y N z).2.2.2))],pb 2 58 (qz ((vX v a b y N z).2.1))] 2 hc0 [0,1,298] [(kb 2,(qz ((vX v a b y N z).2.1)))] (oc (qk _) (oz)) (by kernel_rfl) rfl rfl (by kernel_rfl) (by kernel_rfl)) rfl (oz) (fun cx_ a_ hI_=>zK (l':=[ps 4 (iv ((vX v a b y N z).1)),pb 0 91 [(iv v),(.osl 2 0 (((vX v a b y N z)).2.1.length)),(nv ((vX v a b y N z).2.2.1)),(iv a),(iv b),(.ssl (qF (jO y)) (((vX v a b y N z).2.2.2)*5) ((jO y).length-(vX v a b y N z).2.2.2))],pb 2 58 (qz ((vX v a b y N z).2.1))]) (by kernel_rfl) cx_ a_ hI_) hI_
  refine vJ mxd 3 [.k3,.n,.d,.d,.n,.k3,.d] [ps 6 (iv (yQ (yV (zY y.2.2)) (yv y).1 (yv y).2.1)),pb 0 91 [(iv v),(.osl 1 0 N.length),(nv z),(iv a),(iv b),(.ssl [] 0 0)]] (yC 194 (by have e:=qbb (yV (zY y.2.2)) (yv y).1 (yv y).2.1 hmI.1 hmI.2;rw [Qz rfl h2] at e;exact e:PC Tryz.prog 67 [(.agg [(iv (kd (yV (zY y.2.2)))),(iv (sh (yV (zY y.2.2)))),(.ssl (kc (yV (zY y.2.2))) 0 ((qL (yV (zY y.2.2))).length))]),(.agg [(iv ((yv y).1)),(iv ((yv y).2.1))])] [] (.tup [(.ssl [] 0 0),(iv (yQ (yV (zY y.2.2)) (yv y).1 (yv y).2.1))]) []) oz)<|qA<|qK mxd [.k4,.n,.r] [ps 34 (bv (!(decide ((yQ (yV (zY y.2.2)) (yv y).1 (yv y).2.1)=0))))]<|qQ (bf h2)<|qA<|qK mxd [.d,.d,.n,.d,.d,.d,.k2,.d,.d] [ps 4 (iv (yQ (yV (zY y.2.2)) (yv y).1 (yv y).2.1))] ?_
  have hR:(vV v y ((a,b),N,z)).1=(yQ (yV (zY y.2.2)) (yv y).1 (yv y).2.1):=by unfold vV;dsimp only;rw [if_pos h1,if_neg h2]
  rw [hR]
  exact zz fun cx_ a_ hI_=>zU (H':=[none,none,none]) (.inr rfl) (Wk.ren3D [ps 4 (iv (yQ (yV (zY y.2.2)) (yv y).1 (yv y).2.1)),pb 0 91 [(iv v),(.osl 2 0 N.length),(nv z),(iv a),(iv b),(.ssl [] 0 0)],pb 2 58 (qz N)] 2 hc0 [0,1,1] [(kb 2,(qz N))] (oc (qk _) (oz)) (by kernel_rfl) rfl (by kernel_rfl) (by kernel_rfl) (by kernel_rfl)) rfl (oz) (fun cx_ a_ hI_=>zK (l':=[ps 4 (iv (yQ (yV (zY y.2.2)) (yv y).1 (yv y).2.1)),pb 0 91 [(iv v),(.osl 2 0 N.length),(nv z),(iv a),(iv b),(.ssl [] 0 0)],pb 2 58 (qz N)]) (by kernel_rfl) cx_ a_ hI_) hI_
 refine qQ (bf h1)<|qA<|qK mxd [.d,.d,.n,.d,.d,.d,.k2,.d,.d] [ps 4 (iv ((yv y).2.2))] ?_
 have hR:(vV v y ((a,b),N,z)).1=((yv y).2.2):=by unfold vV;dsimp only;rw [if_neg h1]
 rw [hR]
 exact zz fun cx_ a_ hI_=>zU (H':=[none,none,none]) (.inr rfl) (Wk.ren3D [ps 4 (iv ((yv y).2.2)),pb 0 91 [(iv v),(.osl 2 0 N.length),(nv z),(iv a),(iv b),(.ssl (qF T) (q*5) r)],pb 2 58 (qz N)] 2 hc0 [0,1,1] [(kb 2,(qz N))] (oc (qk _) (oz)) (by kernel_rfl) rfl (by kernel_rfl) (by kernel_rfl) (by kernel_rfl)) rfl (oz) (fun cx_ a_ hI_=>zK (l':=[ps 4 (iv ((yv y).2.2)),pb 0 91 [(iv v),(.osl 2 0 N.length),(nv z),(iv a),(iv b),(.ssl (qF T) (q*5) r)],pb 2 58 (qz N)]) (by kernel_rfl) cx_ a_ hI_) hI_
theorem qif (y:Br) (v a b:Int) (T:List Sp) (N:List Nt) (z q r:Nat) (hy:qav y) (hw:(wE y.2.2 1 4095).1=true) (hne:y.2.2.length≠0) (hok:ZQ (N,z,0)) (hN:N.length≤90000000000) (hab:I64 a∧I64 b) (h0:(vV v y ((a,b),N,z)).1=0):PC Tryz.prog 35 [(.opt 0 0),(.agg [(iv y.1),(iv y.2.1),(.ssl (qN (y.2.2)) 0 ((y.2.2).length))])] [some (91,[(iv v),(.osl 1 0 N.length),(nv z),(iv a),(iv b),(.ssl (qF T) (q*5) r)]),some (58,(qz N))] (iv ((vV v y ((a,b),N,z)).1)) [some (91,[(iv v),(.osl 2 0 (((vV v y ((a,b),N,z)).2.2.1).length)),(nv ((vV v y ((a,b),N,z)).2.2.2)),(iv ((vV v y ((a,b),N,z)).2.1.1)),(iv ((vV v y ((a,b),N,z)).2.1.2)),(.ssl (qF (jO y)) (((vX v a b y N z).2.2.2)*5) ((jO y).length-(vX v a b y N z).2.2.2))]),none,some (58,(qz ((vV v y ((a,b),N,z)).2.2.1)))]:=by
 obtain ⟨ha,hb⟩:=hab
 have hab:I64 a∧I64 b:=⟨ha,hb⟩
 have hy1:I64 y.1:=hy.1
 have hy2:I64 y.2.1:=hy.2.1
 refine zH Tryz.func35 rfl (by kernel_rfl) (Nat.le_of_ble_eq_true rfl) (by kernel_rfl) (l0:=[ps 0 (.opt 0 0),ps 1 (.agg [(iv y.1),(iv y.2.1),(.ssl (qN (y.2.2)) 0 ((y.2.2).length))]),pb 0 91 [(iv v),(.osl 1 0 N.length),(nv z),(iv a),(iv b),(.ssl (qF T) (q*5) r)],pb 1 58 (qz N)]) rfl (fun c0 Bor hc0=>?_)
 refine qA<|qK mxd [.k1,.d,.n,.k2,.n] [ps 3 (.opt 2 0),pb 2 47 [(iv y.1),(iv y.2.1),(.ssl (qN (y.2.2)) 0 ((y.2.2).length))]]<|qA<|vJ mxd 4 [.k2,.n,.n,.k3,.n] [ps 5 (.opt 82 0),ps 6 (iv ((yv y).2.2)),pb 82 56 [(iv ((yv y).1)),(iv ((yv y).2.1))]] (yC 50 (qjq y.1 y.2.1 (by first|assumption|omega) (by first|assumption|omega)) oz)<|qA<|qA<|qK mxd [.k4,.n,.r] [ps 18 (bv (!(decide (((yv y).2.2)=0))))] ?_
 by_cases h1:((yv y).2.2)=0
 ·refine qT (bt h1)<|qE<|qA ?_
  have hmr:=qan h1
  have hmI:=jM hmr
  obtain ⟨hmI1,hmI2⟩:=hmI
  have hmI:=jM hmr
  have hfr:QO (zY y.2.2):=by unfold zY;rw [QO];exact ⟨⟨by decide,by decide⟩,by decide,by decide,hy.2.2.1,hy.2.2.2⟩
  refine vJ mxd 3 [.k3,.d,.n,.d,.k4,.n] [ps 7 (.opt 154 0),pb 154 125 [(iv (kd (yV (zY y.2.2)))),(iv (sh (yV (zY y.2.2)))),(.ssl (kc (yV (zY y.2.2))) 0 ((qL (yV (zY y.2.2))).length))]] (yC 146 (beat_pc (zY y.2.2) hfr) oz)<|qA<|qA ?_
  by_cases h2:(yQ (yV (zY y.2.2)) (yv y).1 (yv y).2.1)=0
  ·refine vJ mxd 3 [.k3,.n,.d,.d,.n,.k3,.d] [ps 6 (iv 0),pb 0 91 [(iv v),(.osl 1 0 N.length),(nv z),(iv a),(iv b),(.ssl (qF (jO y)) 0 (((jO y)).length))]] (yC 194 (by have e:=qbb (yV (zY y.2.2)) (yv y).1 (yv y).2.1 hmI.1 hmI.2;rw [qag h2] at e;exact e:PC Tryz.prog 67 [(.agg [(iv (kd (yV (zY y.2.2)))),(iv (sh (yV (zY y.2.2)))),(.ssl (kc (yV (zY y.2.2))) 0 ((qL (yV (zY y.2.2))).length))]),(.agg [(iv ((yv y).1)),(iv ((yv y).2.1))])] [] (.tup [(.ssl (qF (jO y)) 0 (((jO y)).length)),(iv 0)]) []) oz)<|qA<|qK mxd [.k4,.n,.r] [ps 34 (bv false)]<|zj (b:=false) rfl rfl<|qE<|qA<|qA ?_
   have hig:=Qy y.2.2 1 4095 (by decide) hw
   have hir:=WP y.2.2 1 4095 (by decide)
   have hsl:(jO y).length=wk y.2.2:=qcj hne hig.1 h2
   have hi0:=hir.2.2 hw
   have hti:=qio (v:=v) (a:=a) (b:=b) (S:=(jO y)) (by omega) hab (all4_at (qaf hmr h2)) _ y.2.2 (Nat.lt_succ_self _) [] N z 0 hy.2.2.2 hy.2.2.1 hig.2.1 hok (by omega) (by omega) (by have:=hig.2.2.1 hne;simp only [List.length_nil];omega) (fun i hi=>absurd hi (Nat.not_lt_zero i))
   refine qX (Wk.eq (show _=[ps 0 (.opt 0 0),ps 3 (.opt 2 0),ps 5 (.opt 82 0),ps 6 (iv 0),ps 34 (bv false),pb 0 91 [(iv v),(.osl 1 0 N.length),(nv z),(iv a),(iv b),(.ssl (qF (jO y)) (0*5) ((jO y).length-0))],pb 1 58 (qz N),pb 2 47 [(iv y.1),(iv y.2.1),(.ssl (qN (y.2.2)) 0 ((y.2.2).length))],pb 82 56 [(iv ((yv y).1)),(iv ((yv y).2.1))]] from by rfl)) ?_
   refine zX mxd [(3,.call [0,1] [(.opt 0 0),(.ssl (qN (y.2.2)) 0 ((y.2.2).length)),(.ssl (zZ ([]:List Iv)) 0 (([]:List Iv).length))] [some (91,[(iv v),(.osl 1 0 N.length),(nv z),(iv a),(iv b),(.ssl (qF (jO y)) (0*5) ((jO y).length-0))]),some (58,(qz N))] (iv ((vX v a b y N z).1)) [some (91,[(iv v),(.osl 2 0 (((vX v a b y N z)).2.1.length)),(nv ((vX v a b y N z).2.2.1)),(iv a),(iv b),(.ssl (qF (jO y)) (((vX v a b y N z).2.2.2)*5) ((jO y).length-(vX v a b y N z).2.2.2))]),none,some (58,(qz ((vX v a b y N z).2.1)))])] [.k1,.d,.k1,.d,.n,.d,.d,.n,.d,.d,.k1,.n] [ps 8 (iv ((vX v a b y N z).1)),pb 0 91 [(iv v),(.osl 298 0 (((vX v a b y N z)).2.1.length)),(nv ((vX v a b y N z).2.2.1)),(iv a),(iv b),(.ssl (qF (jO y)) (((vX v a b y N z).2.2.2)*5) ((jO y).length-(vX v a b y N z).2.2.2))],pb 298 58 (qM (yH [0,1] 298) (qz ((vX v a b y N z).2.1)))] (oc hti (oc (rfl:[(.opt 0 0),(.ssl (qN (y.2.2)) 0 ((y.2.2).length)),(.ssl [] 0 0)]=qM (qY [0,1] 298) [(.opt 0 0),(.ssl (qN (y.2.2)) 0 ((y.2.2).length)),(.ssl (zZ ([]:List Iv)) 0 (([]:List Iv).length))]) (oc (rfl:[(iv v),(.osl 1 0 N.length),(nv z),(iv a),(iv b),(.ssl (qF (jO y)) (0*5) ((jO y).length-0))]=qM (qY [0,1] 298) [(iv v),(.osl 1 0 N.length),(nv z),(iv a),(iv b),(.ssl (qF (jO y)) (0*5) ((jO y).length-0))]) (oc ((qG (qk _)).symm:(qz N)=qM (qY [0,1] 298) (qz N)) oz))))<|qX (Wk.eq (show _=[ps 0 (.opt 0 0),ps 5 (.opt 82 0),ps 8 (iv ((vX v a b y N z).1)),pb 0 91 [(iv v),(.osl 298 0 (((vX v a b y N z)).2.1.length)),(nv ((vX v a b y N z).2.2.1)),(iv a),(iv b),(.ssl (qF (jO y)) (((vX v a b y N z).2.2.2)*5) ((jO y).length-(vX v a b y N z).2.2.2))],pb 82 56 [(iv ((yv y).1)),(iv ((yv y).2.1))],pb 298 58 (qz ((vX v a b y N z).2.1))] from by simp only [qG (qk _)])) ?_
   refine qA<|qK mxd [.k3,.n,.r] [ps 41 (bv (!(decide (((vX v a b y N z).1)=0))))] ?_
   by_cases h3:((vX v a b y N z).1)=0
   ·refine qT (bt h3)<|qE<|qA<|QJ mxd [(6,.call [] [(.agg [(iv a),(iv b)]),(.agg [(iv ((yv y).1)),(iv ((yv y).2.1))])] [] (.tup [(.agg [(iv ((Fr.plus a b ((yv y).1) ((yv y).2.1)).1)),(iv ((Fr.plus a b ((yv y).1) ((yv y).2.1)).2.1))]),(iv ((Fr.plus a b ((yv y).1) ((yv y).2.1)).2.2))]) [])] (bfm [[],[],[(1,1)],[(1,2)],[(1,3)],[],[(1,5)],[(1,6)],[(1,7)],[(1,7)],[(0,9)],[(0,9),(10,1)],[(0,9),(10,2)],[(0,13)]]) [([88],[0]),([90],[0]),([92],[90]),([94],[92]),([96],[1,94]),([98],[10,165]),([100],[96,98]),([86],[100]),([102],[86]),([104],[86]),([106],[88]),([108],[106]),([1],[1,102,108]),([12],[104])] [.d,.d,.n,.d,.d,.d,.n,.d,.r] [ps 6 (iv ((Fr.plus a b ((yv y).1) ((yv y).2.1)).2.2)),pb 0 91 [(iv v),(.osl 298 0 (((vX v a b y N z)).2.1.length)),(nv ((vX v a b y N z).2.2.1)),(iv ((Fr.plus a b ((yv y).1) ((yv y).2.1)).1)),(iv ((Fr.plus a b ((yv y).1) ((yv y).2.1)).2.1)),(.ssl (qF (jO y)) (((vX v a b y N z).2.2.2)*5) ((jO y).length-(vX v a b y N z).2.2.2))]] (yC 378 (WJ a b ((yv y).1) ((yv y).2.1) (by first|assumption|omega) (by first|assumption|omega) (by first|assumption|omega) (by first|assumption|omega)) oz)<|qA<|qK mxd [.n,.d,.r] [ps 4 (iv ((Fr.plus a b ((yv y).1) ((yv y).2.1)).2.2))] ?_
    have hR:(vV v y ((a,b),N,z))=((aH4 a b y).2.2,((aH4 a b y).1,(aH4 a b y).2.1),(vX v a b y N z).2.1,(vX v a b y N z).2.2.1):=by unfold vV;dsimp only;rw [if_pos h1,if_pos h2,if_pos h3]
    rw [hR]
    rw [hR] at h0
    exact zz fun cx_ a_ hI_=>zU (H':=[some (91,[(iv v),(.osl 2 0 (((vX v a b y N z).2.1).length)),(nv ((vX v a b y N z).2.2.1)),(iv ((aH4 a b y).1)),(iv ((aH4 a b y).2.1)),(.ssl (qF (jO y)) (((vX v a b y N z).2.2.2)*5) ((jO y).length-(vX v a b y N z).2.2.2))]),none,some (58,(qz ((vX v a b y N z).2.1)))]) (.inr rfl) (Wk.ren3 [ps 4 (iv ((Fr.plus a b ((yv y).1) ((yv y).2.1)).2.2)),pb 0 91 [(iv v),(.osl 2 0 (((vX v a b y N z)).2.1.length)),(nv ((vX v a b y N z).2.2.1)),(iv ((Fr.plus a b ((yv y).1) ((yv y).2.1)).1)),(iv ((Fr.plus a b ((yv y).1) ((yv y).2.1)).2.1)),(.ssl (qF (jO y)) (((vX v a b y N z).2.2.2)*5) ((jO y).length-(vX v a b y N z).2.2.2))],pb 2 58 (qz ((vX v a b y N z).2.1))] 2 hc0 [0,1,298] [(kb 2,(qz ((vX v a b y N z).2.1)))] (oc (qk _) (oz)) (by kernel_rfl) rfl rfl (by kernel_rfl) (by kernel_rfl)) rfl (oc rfl (oc rfl (oz))) (fun cx_ a_ hI_=>zK (l':=[ps 4 (iv ((Fr.plus a b ((yv y).1) ((yv y).2.1)).2.2)),pb 0 91 [(iv v),(.osl 2 0 (((vX v a b y N z)).2.1.length)),(nv ((vX v a b y N z).2.2.1)),(iv ((Fr.plus a b ((yv y).1) ((yv y).2.1)).1)),(iv ((Fr.plus a b ((yv y).1) ((yv y).2.1)).2.1)),(.ssl (qF (jO y)) (((vX v a b y N z).2.2.2)*5) ((jO y).length-(vX v a b y N z).2.2.2))],pb 2 58 (qz ((vX v a b y N z).2.1))]) (by kernel_rfl) cx_ a_ hI_) hI_
   refine qQ (bf h3)<|qA<|qK mxd [.d,.n,.d,.d,.d,.k1,.d,.r] [ps 4 (iv ((vX v a b y N z).1))] ?_
   have hR:(vV v y ((a,b),N,z)).1=((vX v a b y N z).1):=by unfold vV;dsimp only;rw [if_pos h1,if_pos h2,if_neg h3]
   exact absurd (hR.symm.trans h0) h3
  refine vJ mxd 3 [.k3,.n,.d,.d,.n,.k3,.d] [ps 6 (iv (yQ (yV (zY y.2.2)) (yv y).1 (yv y).2.1)),pb 0 91 [(iv v),(.osl 1 0 N.length),(nv z),(iv a),(iv b),(.ssl [] 0 0)]] (yC 194 (by have e:=qbb (yV (zY y.2.2)) (yv y).1 (yv y).2.1 hmI.1 hmI.2;rw [Qz rfl h2] at e;exact e:PC Tryz.prog 67 [(.agg [(iv (kd (yV (zY y.2.2)))),(iv (sh (yV (zY y.2.2)))),(.ssl (kc (yV (zY y.2.2))) 0 ((qL (yV (zY y.2.2))).length))]),(.agg [(iv ((yv y).1)),(iv ((yv y).2.1))])] [] (.tup [(.ssl [] 0 0),(iv (yQ (yV (zY y.2.2)) (yv y).1 (yv y).2.1))]) []) oz)<|qA<|qK mxd [.k4,.n,.r] [ps 34 (bv (!(decide ((yQ (yV (zY y.2.2)) (yv y).1 (yv y).2.1)=0))))]<|qQ (bf h2)<|qA<|qK mxd [.d,.d,.n,.d,.d,.d,.k2,.d,.d] [ps 4 (iv (yQ (yV (zY y.2.2)) (yv y).1 (yv y).2.1))] ?_
  have hR:(vV v y ((a,b),N,z)).1=(yQ (yV (zY y.2.2)) (yv y).1 (yv y).2.1):=by unfold vV;dsimp only;rw [if_pos h1,if_neg h2]
  exact absurd (hR.symm.trans h0) h2
 refine qQ (bf h1)<|qA<|qK mxd [.d,.d,.n,.d,.d,.d,.k2,.d,.d] [ps 4 (iv ((yv y).2.2))] ?_
 have hR:(vV v y ((a,b),N,z)).1=((yv y).2.2):=by unfold vV;dsimp only;rw [if_neg h1]
 exact absurd (hR.symm.trans h0) h1
open Go.Proofs.YtmlnilkbolcknaaGreatDoor.Pi
theorem wW (l:List Vo) (hf:qbz l):PC Tryz.prog 8 [(.ssl (yI l) 0 l.length)] [] (iv (qv l)) []:=by
 obtain ⟨hf1,hf2⟩:=hf
 refine zH Tryz.func8 rfl (by kernel_rfl) (Nat.le_of_ble_eq_true rfl) (by kernel_rfl) (l0:=[ps 0 (.ssl (yI l) 0 l.length)]) rfl (fun c0 Bor hc0=>?_)
 refine qA<|qK mxd [.r] []<|qA<|qA<|qK mxd [.k1,.n] [ps 10 (bv (decide (64<(l.length:Int))))] ?_
 by_cases h1:64<(l.length:Int)
 ·refine qQ (zO h1)<|qA<|qj mxd [] [ps 2 (iv 5)] (oz) ?_
  have hT:qv l=5:=by unfold qv;rw [if_pos (by omega)]
  rw [hT]
  exact zy hc0 [2] []
 refine qT (zM h1)<|qE<|qA<|qA<|qj mxd [] [ps 11 (.ssl (yI l) 0 l.length),ps 12 (nv l.length),ps 13 (iv 0)] (oz)<|qU<|yB (α:={x:Nat // x≤l.length∧wM (l.drop x)=wM l}) (fun x=>[ps 11 (.ssl (yI l) 0 l.length),ps 12 (nv l.length),ps 13 (nv x.1)]) (fun x=>l.length-x.1) 0 ⟨0,⟨Nat.zero_le _,rfl⟩⟩ (Wk.ren2 _ 0 hc0 [] rfl rfl (by kernel_rfl) (by kernel_rfl)) ?_
 rintro ⟨i,⟨hi,hW⟩⟩
 refine qA<|qj mxd [] [ps 11 (.ssl (yI l) 0 l.length),ps 12 (nv l.length),ps 13 (nv i),ps 14 (bv (decide (((i:Nat):Int)<(l.length:Int))))] (oz)<|qA ?_
 by_cases h2:(i:Int)<(l.length:Int)
 ·refine qQ (zO h2)<|qE<|qA<|qU<|qA ?_
  obtain ⟨hv1,hv2,hv3⟩:=hf2 i (by omega)
  refine zX mxd [(0,.nat (i*2)),(1,.cells [(sv (st ((l.getD i qC).1))),(.ssl (vE ((l.getD i qC).2)) 0 (((l.getD i qC).2).length))])] [.n,.k3,.d,.n] [ps 4 (.opt 24 0),pb 24 44 [(sv (st ((l.getD i qC).1))),(.ssl (vE ((l.getD i qC).2)) 0 (((l.getD i qC).2).length))]] (oc (by omega:(0:Int)≤(i:Int)∧(i:Int)<(l.length:Int)) (oc (by omega:0+(((i:Nat):Int):Int).toNat*2=(i*2)) (oc (yF voC 2 (fun _=>rfl) qC l i 0 2 (by omega) (by decide):(i*2)+2≤((yI l)).length∧(((yI l)).drop (i*2)).take 2=[(sv (st ((l.getD i qC).1))),(.ssl (vE ((l.getD i qC).2)) 0 (((l.getD i qC).2).length))]) oz))) ?_
  refine qA<|qA<|vJ mxd 2 [.k4,.n,.r] [ps 20 (bv (!(wU ((l.getD i qC).1))))] (yC 56 (vname_pc ((l.getD i qC).1) (by omega)) oz) ?_
  by_cases h3:(wU ((l.getD i qC).1))=true
  ·refine qT (congrArg Bool.not h3)<|qE<|qA<|qA<|qK mxd [.k4,.d,.n,.r] [ps 24 (bv (decide (1024<((((l.getD i qC).2).length:Nat):Int))))] ?_
   by_cases h4:1024<((((l.getD i qC).2).length:Nat):Int)
   ·refine qQ (zO h4)<|qA<|qj mxd [] [ps 2 (iv 5)] (oz) ?_
    have hT:qv l=5:=by unfold qv;rw [if_neg (by omega),← hW,yY (by omega),show zw (l.getD i qC)=5 from by unfold zw;rw [if_pos h3,if_pos (by omega)],if_neg (by decide)]
    rw [hT]
    exact zz fun cx_ a_ hI_=>qx (rt hc0 [ps 2 (iv 5)] [] hI_)
   refine qT (zM h4)<|qE<|qA<|qK mxd [.d,.k3,.d,.n,.n,.n,.d] [ps 26 (.ssl (vE ((l.getD i qC).2)) 0 (((l.getD i qC).2).length)),ps 27 (nv (((l.getD i qC).2).length)),ps 28 (iv 0)]<|qU<|yB (α:={x:Nat // x≤(l.getD i qC).2.length∧QW ((l.getD i qC).2.drop x)=QW (l.getD i qC).2}) (fun x=>[ps 11 (.ssl (yI l) 0 l.length),ps 12 (nv l.length),ps 13 (nv i),ps 26 (.ssl (vE ((l.getD i qC).2)) 0 (((l.getD i qC).2).length)),ps 27 (nv (((l.getD i qC).2).length)),ps 28 (nv x.1)]) (fun x=>(l.getD i qC).2.length-x.1) 0 ⟨0,⟨Nat.zero_le _,rfl⟩⟩ (Wk.ren2 _ 0 hc0 [] rfl rfl (by kernel_rfl) (by kernel_rfl)) ?_
   rintro ⟨j,⟨hj,hR⟩⟩
   refine qA<|qj mxd [] [ps 11 (.ssl (yI l) 0 l.length),ps 12 (nv l.length),ps 13 (nv i),ps 26 (.ssl (vE ((l.getD i qC).2)) 0 (((l.getD i qC).2).length)),ps 27 (nv (((l.getD i qC).2).length)),ps 28 (nv j),ps 29 (bv (decide (((j:Nat):Int)<((((l.getD i qC).2).length:Nat):Int))))] (oz)<|qA ?_
   by_cases h5:(j:Int)<((((l.getD i qC).2).length:Nat):Int)
   ·refine qQ (zO h5)<|qE<|qA<|qU<|qA ?_
    obtain ⟨hb1,hb2,hb3,hb4⟩:=hv3 j (by omega)
    refine zX mxd [(0,.nat (j*3)),(1,.cells [(iv ((((l.getD i qC).2).getD j zA).1)),(iv ((((l.getD i qC).2).getD j zA).2.1)),(.ssl (qN ((((l.getD i qC).2).getD j zA).2.2)) 0 (((((l.getD i qC).2).getD j zA).2.2).length))])] [.n,.k6,.d,.n] [ps 6 (.opt 24 0),pb 24 47 [(iv ((((l.getD i qC).2).getD j zA).1)),(iv ((((l.getD i qC).2).getD j zA).2.1)),(.ssl (qN ((((l.getD i qC).2).getD j zA).2.2)) 0 (((((l.getD i qC).2).getD j zA).2.2).length))]] (oc (by omega:(0:Int)≤(j:Int)∧(j:Int)<((((l.getD i qC).2).length:Nat):Int)) (oc (by omega:0+(((j:Nat):Int):Int).toNat*3=(j*3)) (oc (yF brC 3 (fun _=>rfl) zA ((l.getD i qC).2) j 0 3 (by omega) (by decide):(j*3)+3≤((vE ((l.getD i qC).2))).length∧(((vE ((l.getD i qC).2))).drop (j*3)).take 3=[(iv ((((l.getD i qC).2).getD j zA).1)),(iv ((((l.getD i qC).2).getD j zA).2.1)),(.ssl (qN ((((l.getD i qC).2).getD j zA).2.2)) 0 (((((l.getD i qC).2).getD j zA).2.2).length))]) oz))) ?_
    refine qA<|qA ?_
    by_cases h6:((((l.getD i qC).2).getD j zA).1)<1
    ·refine zX mxd (gy 4 3++[(7,.yes true)]++gy 9 3++gy 14 3) [.k7,.n,.r] [ps 49 (bv true)] (on 4 (zO h6) (on 6 tt oz))<|yJ (b:=true) rfl rfl<|qA<|qj mxd [] [ps 2 (iv 3)] (oz) ?_
     have hT:qv l=3:=by unfold qv;rw [if_neg (by omega),← hW,yY (by omega),show zw (l.getD i qC)=3 from by unfold zw;rw [if_pos h3,if_neg (by omega),← hR,wC (by omega),show wJ ((l.getD i qC).2.getD j zA)=3 from by unfold wJ;rw [if_pos (by omega)],if_neg (by decide)],if_neg (by decide)]
     rw [hT]
     exact zz fun cx_ a_ hI_=>qx (qx (rt hc0 [ps 2 (iv 3)] [] hI_))
    by_cases h7:65536<((((l.getD i qC).2).getD j zA).1)
    ·refine zX mxd (gn 4 3++[(7,.yes false)]++gy 9 3++[(12,.yes true)]++gy 14 3) [.k7,.n,.r] [ps 49 (bv true)] (on 4 (zM h6) (on 4 (zO h7) (on 3 tt oz)))<|yJ (b:=true) rfl rfl<|qA<|qj mxd [] [ps 2 (iv 3)] (oz) ?_
     have hT:qv l=3:=by unfold qv;rw [if_neg (by omega),← hW,yY (by omega),show zw (l.getD i qC)=3 from by unfold zw;rw [if_pos h3,if_neg (by omega),← hR,wC (by omega),show wJ ((l.getD i qC).2.getD j zA)=3 from by unfold wJ;rw [if_pos (by omega)],if_neg (by decide)],if_neg (by decide)]
     rw [hT]
     exact zz fun cx_ a_ hI_=>qx (qx (rt hc0 [ps 2 (iv 3)] [] hI_))
    by_cases h8:((((l.getD i qC).2).getD j zA).2.1)<1
    ·refine zX mxd (gn 4 3++[(7,.yes false)]++gn 9 3++[(12,.yes false)]++gy 14 3++[(17,.yes true)]) [.k7,.n,.r] [ps 49 (bv true)] (on 4 (zM h6) (on 4 (zM h7) (on 4 (zO h8) oz)))<|yJ (b:=true) rfl rfl<|qA<|qj mxd [] [ps 2 (iv 3)] (oz) ?_
     have hT:qv l=3:=by unfold qv;rw [if_neg (by omega),← hW,yY (by omega),show zw (l.getD i qC)=3 from by unfold zw;rw [if_pos h3,if_neg (by omega),← hR,wC (by omega),show wJ ((l.getD i qC).2.getD j zA)=3 from by unfold wJ;rw [if_pos (by omega)],if_neg (by decide)],if_neg (by decide)]
     rw [hT]
     exact zz fun cx_ a_ hI_=>qx (qx (rt hc0 [ps 2 (iv 3)] [] hI_))
    refine zX mxd (gn 4 3++[(7,.yes false)]++gn 9 3++[(12,.yes false)]++gn 14 3++[(17,.yes false)]) [.k7,.n,.r] [ps 49 (bv (decide (65536<((((l.getD i qC).2).getD j zA).2.1))))] (on 4 (zM h6) (on 4 (zM h7) (on 4 (zM h8) oz))) ?_
    by_cases h9:65536<((((l.getD i qC).2).getD j zA).2.1)
    ·refine qQ (zO h9)<|qA<|qj mxd [] [ps 2 (iv 3)] (oz) ?_
     have hT:qv l=3:=by unfold qv;rw [if_neg (by omega),← hW,yY (by omega),show zw (l.getD i qC)=3 from by unfold zw;rw [if_pos h3,if_neg (by omega),← hR,wC (by omega),show wJ ((l.getD i qC).2.getD j zA)=3 from by unfold wJ;rw [if_pos (by omega)],if_neg (by decide)],if_neg (by decide)]
     rw [hT]
     exact zz fun cx_ a_ hI_=>qx (qx (rt hc0 [ps 2 (iv 3)] [] hI_))
    refine qT (zM h9)<|qE<|qA<|qK mxd [.k1,.n,.k6,.d,.k1,.n] [ps 7 (.opt 192 0),pb 192 67 [(iv 4095)]]<|qA<|T_k1 mxd 3 [.d,.d,.k6,.n,.d,.d] [ps 56 (bv (!(decide ((wE (((l.getD i qC).2.getD j zA).2.2) 1 4095).1=true∧0<(((l.getD i qC).2.getD j zA).2.2).length))))] (oc1 [192] 232 (items_pc (((l.getD i qC).2.getD j zA).2.2) 1 4095 (by decide) (by decide) (by decide) (by decide) hb4 (by omega)) oz) ?_
    by_cases h10:(decide ((wE (((l.getD i qC).2.getD j zA).2.2) 1 4095).1=true∧0<(((l.getD i qC).2.getD j zA).2.2).length))=true
    ·refine qT (congrArg Bool.not h10)<|qE<|zE<|zX mxd [] [.k5,.d,.n,.d] [ps 28 (iv (((j:Nat):Int)+1))] (oi (((j:Nat):Int)+1) (by omega) oz) ?_
     exact zQ ⟨j+1,⟨by show j+1≤(l.getD i qC).2.length;omega,by have h1:=wC (l:=(l.getD i qC).2) (i:=j) (by omega);have h2:wJ ((l.getD i qC).2.getD j zA)=0:=by {unfold wJ;rw [if_neg (by omega),if_pos (by simpa using h10)]};rw [if_pos h2] at h1;rw [← hR,h1]⟩⟩ (Wk.trans (Wk.eq (show _=[ps 11 (.ssl (yI l) 0 l.length),ps 12 (nv l.length),ps 13 (nv i),ps 26 (.ssl (vE ((l.getD i qC).2)) 0 (((l.getD i qC).2).length)),ps 27 (nv (((l.getD i qC).2).length)),ps 28 (nv (j+1))] from by rfl)) (Wk.ren2 _ 0 hc0 [] rfl rfl (by kernel_rfl) (by kernel_rfl))) (show (l.getD i qC).2.length-(j+1)<(l.getD i qC).2.length-j from by show (l.getD i qC).2.length-(j+1)<(l.getD i qC).2.length-j;omega)
    refine qQ (congrArg Bool.not (Bool.eq_false_iff.2 h10))<|qA<|qj mxd [] [ps 2 (iv 2)] (oz) ?_
    have hT:qv l=2:=by unfold qv;rw [if_neg (by omega),← hW,yY (by omega),show zw (l.getD i qC)=2 from by unfold zw;rw [if_pos h3,if_neg (by omega),← hR,wC (by omega),show wJ ((l.getD i qC).2.getD j zA)=2 from by unfold wJ;rw [if_neg (by omega),if_neg (by simpa using h10)],if_neg (by decide)],if_neg (by decide)]
    rw [hT]
    exact zz fun cx_ a_ hI_=>qx (qx (rt hc0 [ps 2 (iv 2)] [] hI_))
   refine qT (zM h5)<|zR rfl rfl<|zE<|zX mxd [] [.k2,.d,.n,.d,.d,.d,.d] [ps 13 (iv (((i:Nat):Int)+1))] (oi (((i:Nat):Int)+1) (by omega) oz) ?_
   exact zQ ⟨i+1,⟨by show i+1≤l.length;omega,by have h1:=yY (l:=l) (i:=i) (by omega);have h2:zw (l.getD i qC)=0:=by {unfold zw;rw [if_pos h3,if_neg (by omega),← hR,List.drop_eq_nil_of_le (by omega),QW]};rw [if_pos h2] at h1;rw [← hW,h1]⟩⟩ (Wk.trans (Wk.eq (show _=[ps 11 (.ssl (yI l) 0 l.length),ps 12 (nv l.length),ps 13 (nv (i+1))] from by rfl)) (Wk.ren2 _ 0 hc0 [] rfl rfl (by kernel_rfl) (by kernel_rfl))) (show l.length-(i+1)<l.length-i from by show l.length-(i+1)<l.length-i;omega)
  refine qQ (congrArg Bool.not (Bool.eq_false_iff.2 h3))<|qA<|qj mxd [] [ps 2 (iv 7)] (oz) ?_
  have hT:qv l=7:=by unfold qv;rw [if_neg (by omega),← hW,yY (by omega),show zw (l.getD i qC)=7 from by unfold zw;rw [if_neg h3],if_neg (by decide)]
  rw [hT]
  exact zz fun cx_ a_ hI_=>qx (rt hc0 [ps 2 (iv 7)] [] hI_)
 refine qT (zM h2)<|zR rfl rfl<|qA<|qj mxd [] [ps 2 (iv 0)] (oz) ?_
 have hT:qv l=0:=by unfold qv;rw [if_neg (by omega),← hW,List.drop_eq_nil_of_le (by omega),wM]
 rw [hT]
 exact zy hc0 [2] []
abbrev vW (l:List Vo) (i j:Nat):=(l.getD i qC).2.getD j zA
abbrev aI2 (l:List Vo) (i j:Nat):=Fr.make (vW l i j).1 (vW l i j).2.1
abbrev aI3 (l:List Vo) (i j:Nat):=ww (yV (zY (vW l i j).2.2)) (aI2 l i j).1 (aI2 l i j).2.1
abbrev vv (l:List Vo) (i j:Nat) (a b:Int) (N:List Nt) (z:Nat):=vV (i:Int) (vW l i j) ((a,b),N,z)
abbrev aI5 (l:List Vo) (i j:Nat) (a b:Int) (N:List Nt) (z:Nat):=zD (i:Int) a b (aI3 l i j) (vW l i j).2.2 [] (N,z,0)
theorem qjn (N:List Nt):0+N.length*9≤(qz N).length∧((qz N).drop 0).take (N.length*9)=qz N:=by
 rw [List.drop_zero,List.take_of_length_le (by rw [YF];omega),YF]
 exact ⟨by omega,rfl⟩
theorem qbm (l:List Vo) (hf:qbz l) (h0:(zS l).1=0):PC Tryz.prog 12 [(.ssl (yI l) 0 l.length)] [] (.tup [(.osl 0 0 ((zS l).2.length)),(iv 0)]) [some (58,(qz ((zS l).2)))]:=by
 refine zH Tryz.func12 rfl (by kernel_rfl) (Nat.le_of_ble_eq_true rfl) (by kernel_rfl) (l0:=[ps 0 (.ssl (yI l) 0 l.length)]) rfl (fun c0 Bor hc0=>?_)
 refine qA<|qK mxd [.r] []<|qA<|qA<|vJ mxd 1 [.k1,.n] [ps 4 (iv (qv l))] (yC 24 (wW l hf) oz)<|qA<|qK mxd [.k2,.n] [ps 15 (bv (!(decide ((qv l)=0))))] ?_
 by_cases h1:(qv l)=0
 ·refine qT (bt h1)<|qE<|qA<|qK mxd [.k1,.d,.n,.d] [ps 5 sn]<|qA<|qA<|qK mxd [.d,.k1,.n,.n,.n] [ps 17 (.ssl (yI l) 0 l.length),ps 18 (nv l.length),ps 19 (iv 0)]<|qU<|qX (Wk.nil (s:=5) 58 (by kernel_rfl))<|qX (Wk.less (l':=[ps 5 (.osl 88 0 0),ps 17 (.ssl (yI l) 0 l.length),ps 18 (nv l.length),ps 19 (iv 0),pb 88 58 []]) 89 (by kernel_rfl) (by kernel_rfl)) ?_
  have hwp:=WB h1
  refine qX (Wk.eq (show _=[ps 5 (.osl 88 0 (([]:List Nt).length)),ps 17 (.ssl (yI l) 0 l.length),ps 18 (nv l.length),ps 19 (iv 0),pb 88 58 (qz ([]:List Nt))] from by rfl)) ?_
  refine yB (α:={x:Nat × List Nt // x.1≤l.length∧wT (l.drop x.1) (x.1:Int) x.2=wT l 0 []∧x.2.length≤x.1*70000000}) (fun x=>[ps 5 (.osl 0 0 x.1.2.length),ps 17 (.ssl (yI l) 0 l.length),ps 18 (nv l.length),ps 19 (nv x.1.1),pb 0 58 (qz x.1.2)]) (fun x=>l.length-x.1.1) 1 ⟨(0,[]),⟨Nat.zero_le _,rfl,Nat.zero_le _⟩⟩ (Wk.ren3 _ 0 hc0 [88] [(kb 0,(qz ([]:List Nt)))] (oc (qk _) (oz)) (by kernel_rfl) rfl rfl (by kernel_rfl) (by kernel_rfl)) ?_
  rintro ⟨⟨i,M⟩,⟨hi,hT,hM⟩⟩
  dsimp only at hi hT hM
  refine qA<|qj mxd [] [ps 5 (.osl 0 0 M.length),ps 17 (.ssl (yI l) 0 l.length),ps 18 (nv l.length),ps 19 (nv i),ps 20 (bv (decide (((i:Nat):Int)<(l.length:Int)))),pb 0 58 (qz M)] (oz)<|qA ?_
  by_cases h2:(i:Int)<(l.length:Int)
  ·refine qQ (zO h2)<|qE<|qA<|qU<|qA ?_
   have hfv:=hf.2 i (by omega)
   have hwv:=(hwp.2 i (by omega)).1
   have hwr:=(hwp.2 i (by omega)).2
   have hl64:=hwp.1
   refine zX mxd [(1,.nat (i*2)),(2,.cells [(sv (st ((l.getD i qC).1))),(.ssl (vE ((l.getD i qC).2)) 0 (((l.getD i qC).2).length))])] [.k1,.n,.n,.k3,.d,.k1,.n] [ps 6 (nv i),ps 7 (.opt 33 0),pb 33 44 [(sv (st ((l.getD i qC).1))),(.ssl (vE ((l.getD i qC).2)) 0 (((l.getD i qC).2).length))]] (oc (by omega:(0:Int)≤(i:Int)∧(i:Int)<(l.length:Int)) (oc (by omega:0+(((i:Nat):Int):Int).toNat*2=(i*2)) (oc (yF voC 2 (fun _=>rfl) qC l i 0 2 (by omega) (by decide):(i*2)+2≤((yI l)).length∧(((yI l)).drop (i*2)).take 2=[(sv (st ((l.getD i qC).1))),(.ssl (vE ((l.getD i qC).2)) 0 (((l.getD i qC).2).length))]) oz))) ?_
   refine qA<|qK mxd [.k1,.d,.k1,.n,.k5,.n] [ps 8 (.opt 81 0),pb 81 91 [(nv i),sn,(iv 0),(iv 0),(iv 1),sn]]<|qA<|qA<|qK mxd [.k1,.d,.k4,.n,.n,.n,.k1,.d,.r] [ps 29 (.ssl (vE ((l.getD i qC).2)) 0 (((l.getD i qC).2).length)),ps 30 (nv (((l.getD i qC).2).length)),ps 31 (iv 0)]<|qU<|qX (Wk.nilc (B:=91) (cells:=[(nv i),sn,(iv 0),(iv 0),(iv 1),sn]) 81 1 58 (by kernel_rfl) rfl)<|qX (Wk.less (l':=[ps 5 (.osl 0 0 M.length),ps 8 (.opt 81 0),ps 17 (.ssl (yI l) 0 l.length),ps 18 (nv l.length),ps 19 (nv i),ps 29 (.ssl (vE ((l.getD i qC).2)) 0 (((l.getD i qC).2).length)),ps 30 (nv (((l.getD i qC).2).length)),ps 31 (iv 0),pb 0 58 (qz M),pb 81 91 [(nv i),(.osl 129 0 0),(iv 0),(iv 0),(iv 1),sn],pb 129 58 []]) 130 (by kernel_rfl) (by kernel_rfl))<|qX (Wk.nilc (B:=91) (cells:=[(nv i),(.osl 129 0 0),(iv 0),(iv 0),(iv 1),sn]) 81 5 187 (by kernel_rfl) rfl)<|qX (Wk.less (l':=[ps 5 (.osl 0 0 M.length),ps 8 (.opt 81 0),ps 17 (.ssl (yI l) 0 l.length),ps 18 (nv l.length),ps 19 (nv i),ps 29 (.ssl (vE ((l.getD i qC).2)) 0 (((l.getD i qC).2).length)),ps 30 (nv (((l.getD i qC).2).length)),ps 31 (iv 0),pb 0 58 (qz M),pb 81 91 [(nv i),(.osl 129 0 0),(iv 0),(iv 0),(iv 1),(.osl 130 0 0)],pb 129 58 [],pb 130 187 []]) 131 (by kernel_rfl) (by kernel_rfl))<|qX (Wk.frz2 (l':=[ps 5 (.osl 0 0 M.length),ps 8 (.opt 81 0),ps 17 (.ssl (yI l) 0 l.length),ps 18 (nv l.length),ps 19 (nv i),ps 29 (.ssl (vE ((l.getD i qC).2)) 0 (((l.getD i qC).2).length)),ps 30 (nv (((l.getD i qC).2).length)),ps 31 (iv 0),pb 0 58 (qz M),pb 81 91 [(nv i),(.osl 129 0 0),(iv 0),(iv 0),(iv 1),(.ssl [] 0 0)],pb 129 58 [],(kb 130,none)]) 130 (T:=187) (cs:=[]) [(kb 0,(qz M))] (oc (qk _) (oz)) (by kernel_rfl) (by kernel_rfl) (fun p hp=>List.all_eq_true.1 (show [].all PV.shd=true from rfl) p hp) (by kernel_rfl)) ?_
   refine qX (Wk.less (l':=[ps 5 (.osl 0 0 M.length),ps 8 (.opt 81 0),ps 17 (.ssl (yI l) 0 l.length),ps 18 (nv l.length),ps 19 (nv i),ps 29 (.ssl (vE ((l.getD i qC).2)) 0 (((l.getD i qC).2).length)),ps 30 (nv (((l.getD i qC).2).length)),ps 31 (iv 0),pb 0 58 (qz M),pb 81 91 [(nv i),(.osl 129 0 0),(iv 0),(iv 0),(iv 1),(.ssl [] 0 0)],pb 129 58 []]) 131 (by kernel_rfl) (by kernel_rfl))<|qX (Wk.eq (show _=[ps 5 (.osl 0 0 M.length),ps 8 (.opt 81 0),ps 17 (.ssl (yI l) 0 l.length),ps 18 (nv l.length),ps 19 (nv i),ps 29 (.ssl (vE ((l.getD i qC).2)) 0 (((l.getD i qC).2).length)),ps 30 (nv (((l.getD i qC).2).length)),ps 31 (iv 0),pb 0 58 (qz M),pb 81 91 [(iv (i:Int)),(.osl 129 0 (([]:List Nt).length)),(nv 0),(iv 0),(iv 1),(.ssl (qF ([]:List Sp)) (0*5) 0)],pb 129 58 (qz ([]:List Nt))] from by rfl)) ?_
   refine yB (α:={x:Nat × Int × Int × List Nt × Nat × List Sp × Nat × Nat // x.1≤(l.getD i qC).2.length∧vj (i:Int) ((l.getD i qC).2.drop x.1) ((x.2.1,x.2.2.1),x.2.2.2.1,x.2.2.2.2.1)=vj (i:Int) (l.getD i qC).2 ((0,1),[],0)∧ZQ (x.2.2.2.1,x.2.2.2.2.1,0)∧x.2.2.2.1.length≤x.1*65536∧I64 x.2.1∧I64 x.2.2.1}) (fun x=>[ps 5 (.osl 0 0 M.length),ps 8 (.opt 1 0),ps 17 (.ssl (yI l) 0 l.length),ps 18 (nv l.length),ps 19 (nv i),ps 29 (.ssl (vE ((l.getD i qC).2)) 0 (((l.getD i qC).2).length)),ps 30 (nv (((l.getD i qC).2).length)),ps 31 (nv x.1.1),pb 0 58 (qz M),pb 1 91 [(iv (i:Int)),(.osl 2 0 x.1.2.2.2.1.length),(nv x.1.2.2.2.2.1),(iv x.1.2.1),(iv x.1.2.2.1),(.ssl (qF x.1.2.2.2.2.2.1) (x.1.2.2.2.2.2.2.1*5) x.1.2.2.2.2.2.2.2)],pb 2 58 (qz x.1.2.2.2.1)]) (fun x=>(l.getD i qC).2.length-x.1.1) 3 ⟨(0,0,1,[],0,[],0,0),⟨Nat.zero_le _,rfl,⟨Nat.le_refl _,fun n hn=>by cases hn⟩,Nat.zero_le _,by unfold I64;decide,by unfold I64;decide⟩⟩ (Wk.ren3 _ 0 hc0 [0,81,129] [(kb 0,(qz M)),(kb 2,(qz ([]:List Nt)))] (oc (qk _) (oc (qk _) (oz))) (by kernel_rfl) rfl rfl (by kernel_rfl) (by kernel_rfl)) ?_
   rintro ⟨⟨j,a,b,N,z,T,q,r⟩,⟨hj,hBt,hok,hNl,ha,hb⟩⟩
   dsimp only at hj hBt hok hNl ha hb
   refine qA<|qj mxd [] [ps 5 (.osl 0 0 M.length),ps 8 (.opt 1 0),ps 17 (.ssl (yI l) 0 l.length),ps 18 (nv l.length),ps 19 (nv i),ps 29 (.ssl (vE ((l.getD i qC).2)) 0 (((l.getD i qC).2).length)),ps 30 (nv (((l.getD i qC).2).length)),ps 31 (nv j),ps 32 (bv (decide (((j:Nat):Int)<((((l.getD i qC).2).length:Nat):Int)))),pb 0 58 (qz M),pb 1 91 [(iv (i:Int)),(.osl 2 0 N.length),(nv z),(iv a),(iv b),(.ssl (qF T) (q*5) r)],pb 2 58 (qz N)] (oz)<|qA ?_
   by_cases h3:(j:Int)<((((l.getD i qC).2).length:Nat):Int)
   ·refine qQ (zO h3)<|qE<|qA<|qU<|qA<|zX mxd [(0,.nat (j*3)),(1,.cells [(iv ((vW l i j).1)),(iv ((vW l i j).2.1)),(.ssl (qN ((vW l i j).2.2)) 0 (((vW l i j).2.2).length))])] [.k2,.n,.k6,.d,.k3,.n] [ps 10 (.opt 27 0),pb 27 47 [(iv ((vW l i j).1)),(iv ((vW l i j).2.1)),(.ssl (qN ((vW l i j).2.2)) 0 (((vW l i j).2.2).length))]] (oc (by omega:(0:Int)≤(j:Int)∧(j:Int)<((((l.getD i qC).2).length:Nat):Int)) (oc (by omega:0+(((j:Nat):Int):Int).toNat*3=(j*3)) (oc (yF brC 3 (fun _=>rfl) zA ((l.getD i qC).2) j 0 3 (by omega) (by decide):(j*3)+3≤((vE ((l.getD i qC).2))).length∧(((vE ((l.getD i qC).2))).drop (j*3)).take 3=[(iv ((vW l i j).1)),(iv ((vW l i j).2.1)),(.ssl (qN ((vW l i j).2.2)) 0 (((vW l i j).2.2).length))]) oz))) ?_
    refine qA ?_
    have hyf:=hfv.2.2 j (by omega)
    by_cases h4:((vv l i j a b N z).1)=0
    ·refine zX mxd [(2,.call [1,2] [(.opt 0 0),(.agg [(iv ((vW l i j).1)),(iv ((vW l i j).2.1)),(.ssl (qN ((vW l i j).2.2)) 0 (((vW l i j).2.2).length))])] [some (91,[(iv (i:Int)),(.osl 1 0 N.length),(nv z),(iv a),(iv b),(.ssl (qF T) (q*5) r)]),some (58,(qz N))] (iv ((vv l i j a b N z).1)) [some (91,[(iv (i:Int)),(.osl 2 0 (((vv l i j a b N z).2.2.1).length)),(nv ((vv l i j a b N z).2.2.2)),(iv ((vv l i j a b N z).2.1.1)),(iv ((vv l i j a b N z).2.1.2)),(.ssl (qF (aI3 l i j)) (((aI5 l i j a b N z).2.2.2)*5) ((aI3 l i j).length-(aI5 l i j a b N z).2.2.2))]),none,some (58,(qz ((vv l i j a b N z).2.2.1)))])] [.k2,.d,.n,.k7,.d,.n,.d,.d,.n] [ps 11 (iv ((vv l i j a b N z).1)),pb 1 91 [(iv (i:Int)),(.osl 59 0 (((vv l i j a b N z).2.2.1).length)),(nv ((vv l i j a b N z).2.2.2)),(iv ((vv l i j a b N z).2.1.1)),(iv ((vv l i j a b N z).2.1.2)),(.ssl (qF (aI3 l i j)) (((aI5 l i j a b N z).2.2.2)*5) ((aI3 l i j).length-(aI5 l i j a b N z).2.2.2))],pb 59 58 (qM (yH [1,2] 59) (qz ((vv l i j a b N z).2.2.1)))] (oc (qif (vW l i j) (i:Int) a b T N z q r hyf (hwr j (by omega)).1 (hwr j (by omega)).2 hok (by omega) ⟨ha,hb⟩ h4:PC Tryz.prog 35 [(.opt 0 0),(.agg [(iv ((vW l i j).1)),(iv ((vW l i j).2.1)),(.ssl (qN ((vW l i j).2.2)) 0 (((vW l i j).2.2).length))])] [some (91,[(iv (i:Int)),(.osl 1 0 N.length),(nv z),(iv a),(iv b),(.ssl (qF T) (q*5) r)]),some (58,(qz N))] (iv ((vv l i j a b N z).1)) [some (91,[(iv (i:Int)),(.osl 2 0 (((vv l i j a b N z).2.2.1).length)),(nv ((vv l i j a b N z).2.2.2)),(iv ((vv l i j a b N z).2.1.1)),(iv ((vv l i j a b N z).2.1.2)),(.ssl (qF (aI3 l i j)) (((aI5 l i j a b N z).2.2.2)*5) ((aI3 l i j).length-(aI5 l i j a b N z).2.2.2))]),none,some (58,(qz ((vv l i j a b N z).2.2.1)))]) (oc (rfl:[(.opt 1 0),(.agg [(iv ((vW l i j).1)),(iv ((vW l i j).2.1)),(.ssl (qN ((vW l i j).2.2)) 0 (((vW l i j).2.2).length))])]=qM (qY [1,2] 59) [(.opt 0 0),(.agg [(iv ((vW l i j).1)),(iv ((vW l i j).2.1)),(.ssl (qN ((vW l i j).2.2)) 0 (((vW l i j).2.2).length))])]) (oc (rfl:[(iv (i:Int)),(.osl 2 0 N.length),(nv z),(iv a),(iv b),(.ssl (qF T) (q*5) r)]=qM (qY [1,2] 59) [(iv (i:Int)),(.osl 1 0 N.length),(nv z),(iv a),(iv b),(.ssl (qF T) (q*5) r)]) (oc ((qG (qk _)).symm:(qz N)=qM (qY [1,2] 59) (qz N)) oz))))<|qX (Wk.eq (show _=[ps 5 (.osl 0 0 M.length),ps 8 (.opt 1 0),ps 11 (iv ((vv l i j a b N z).1)),ps 17 (.ssl (yI l) 0 l.length),ps 18 (nv l.length),ps 19 (nv i),ps 29 (.ssl (vE ((l.getD i qC).2)) 0 (((l.getD i qC).2).length)),ps 30 (nv (((l.getD i qC).2).length)),ps 31 (nv j),pb 0 58 (qz M),pb 1 91 [(iv (i:Int)),(.osl 59 0 (((vv l i j a b N z).2.2.1).length)),(nv ((vv l i j a b N z).2.2.2)),(iv ((vv l i j a b N z).2.1.1)),(iv ((vv l i j a b N z).2.1.2)),(.ssl (qF (aI3 l i j)) (((aI5 l i j a b N z).2.2.2)*5) ((aI3 l i j).length-(aI5 l i j a b N z).2.2.2))],pb 59 58 (qz ((vv l i j a b N z).2.2.1))] from by simp only [qG (qk _)])) ?_
     refine qA<|qK mxd [.k8,.k1,.n,.r] [ps 39 (bv (!(decide (((vv l i j a b N z).1)=0))))]<|qT (bt h4)<|qE<|zE<|zX mxd [] [.k2,.d,.k5,.d,.n,.d,.r] [ps 31 (iv (((j:Nat):Int)+1))] (oi (((j:Nat):Int)+1) (by omega) oz) ?_
     have hkp:=qcd (hwr j (by omega)).1 (hwr j (by omega)).2 hok h4
     exact zQ ⟨(j+1,((vv l i j a b N z).2.1.1),((vv l i j a b N z).2.1.2),((vv l i j a b N z).2.2.1),((vv l i j a b N z).2.2.2),(aI3 l i j),((aI5 l i j a b N z).2.2.2),((aI3 l i j).length-(aI5 l i j a b N z).2.2.2)),⟨by show j+1≤(l.getD i qC).2.length;omega,by rw [ZD (by omega),if_pos h4] at hBt;exact hBt,hkp.1,by show ((vv l i j a b N z).2.2.1).length≤(j+1)*65536;have hk2:((vv l i j a b N z).2.2.1).length≤N.length+65536:=hkp.2.1;omega,hkp.2.2.1,hkp.2.2.2⟩⟩ (Wk.trans (Wk.eq (show _=[ps 5 (.osl 0 0 M.length),ps 8 (.opt 1 0),ps 17 (.ssl (yI l) 0 l.length),ps 18 (nv l.length),ps 19 (nv i),ps 29 (.ssl (vE ((l.getD i qC).2)) 0 (((l.getD i qC).2).length)),ps 30 (nv (((l.getD i qC).2).length)),ps 31 (nv (j+1)),pb 0 58 (qz M),pb 1 91 [(iv (i:Int)),(.osl 59 0 (((vv l i j a b N z).2.2.1).length)),(nv ((vv l i j a b N z).2.2.2)),(iv ((vv l i j a b N z).2.1.1)),(iv ((vv l i j a b N z).2.1.2)),(.ssl (qF (aI3 l i j)) (((aI5 l i j a b N z).2.2.2)*5) ((aI3 l i j).length-(aI5 l i j a b N z).2.2.2))],pb 59 58 (qz ((vv l i j a b N z).2.2.1))] from by rfl)) (Wk.ren3 _ 0 hc0 [0,1,59] [(kb 0,(qz M)),(kb 2,(qz ((vv l i j a b N z).2.2.1)))] (oc (qk _) (oc (qk _) (oz))) (by kernel_rfl) rfl rfl (by kernel_rfl) (by kernel_rfl))) (show (l.getD i qC).2.length-(j+1)<(l.getD i qC).2.length-j from by show (l.getD i qC).2.length-(j+1)<(l.getD i qC).2.length-j;omega)
    refine zX mxd [(2,.call [1,2] [(.opt 0 0),(.agg [(iv ((vW l i j).1)),(iv ((vW l i j).2.1)),(.ssl (qN ((vW l i j).2.2)) 0 (((vW l i j).2.2).length))])] [some (91,[(iv (i:Int)),(.osl 1 0 N.length),(nv z),(iv a),(iv b),(.ssl (qF T) (q*5) r)]),some (58,(qz N))] (iv ((vv l i j a b N z).1)) [none,none,none])] [.k2,.d,.n,.k7,.d,.d,.d] [ps 11 (iv ((vv l i j a b N z).1))] (oc (qgi (vW l i j) (i:Int) a b T N z q r hyf (hwr j (by omega)).1 (hwr j (by omega)).2 hok (by omega) ⟨ha,hb⟩:PC Tryz.prog 35 [(.opt 0 0),(.agg [(iv ((vW l i j).1)),(iv ((vW l i j).2.1)),(.ssl (qN ((vW l i j).2.2)) 0 (((vW l i j).2.2).length))])] [some (91,[(iv (i:Int)),(.osl 1 0 N.length),(nv z),(iv a),(iv b),(.ssl (qF T) (q*5) r)]),some (58,(qz N))] (iv ((vv l i j a b N z).1)) [none,none,none]) (oc (rfl:[(.opt 1 0),(.agg [(iv ((vW l i j).1)),(iv ((vW l i j).2.1)),(.ssl (qN ((vW l i j).2.2)) 0 (((vW l i j).2.2).length))])]=qM (qY [1,2] 59) [(.opt 0 0),(.agg [(iv ((vW l i j).1)),(iv ((vW l i j).2.1)),(.ssl (qN ((vW l i j).2.2)) 0 (((vW l i j).2.2).length))])]) (oc (rfl:[(iv (i:Int)),(.osl 2 0 N.length),(nv z),(iv a),(iv b),(.ssl (qF T) (q*5) r)]=qM (qY [1,2] 59) [(iv (i:Int)),(.osl 1 0 N.length),(nv z),(iv a),(iv b),(.ssl (qF T) (q*5) r)]) (oc ((qG (qk _)).symm:(qz N)=qM (qY [1,2] 59) (qz N)) oz))))<|qA<|qK mxd [.k8,.k1,.n,.r] [ps 39 (bv (!(decide (((vv l i j a b N z).1)=0))))]<|qQ (bf h4)<|qA<|qj mxd [] [ps 2 sn,ps 3 (iv ((vv l i j a b N z).1))] (oz) ?_
    have hbE:vj (i:Int) (l.getD i qC).2 ((0,1),[],0)=(vv l i j a b N z):=by rw [← hBt,ZD (by omega),if_neg h4]
    have hR1:(zS l).1=(vv l i j a b N z).1:=by unfold zS;rw [if_pos h1,← hT,jj (by omega),hbE,if_neg h4]
    exact absurd (hR1.symm.trans h0) h4
   refine qT (zM h3)<|zR rfl rfl ?_
   have hbt:vj (i:Int) (l.getD i qC).2 ((0,1),[],0)=(0,(a,b),N,z):=by rw [← hBt,List.drop_eq_nil_of_le (by omega),vj]
   refine zX mxd [(5,.app (some (qz N)) (some (qz (M++N))))] [.d,.n,.d,.k3,.d,.d,.d,.d,.d,.d,.d,.n] [ps 5 (.osl 51 0 (M.length+N.length)),pb 51 58 (qz (M++N))] (oc (qjn N:0+N.length*9≤((qz N)).length∧(((qz N)).drop 0).take (N.length*9)=(qz N)) (oc (YF _:((qz M)).length=M.length*9) (oc (by omega:(M.length+N.length)*80≤140737488355328∧M.length+N.length≤9223372036854775807) (oc ((wq noC M N).symm:(qz M)++(qz N)=(qz (M++N))) oz))))<|zE<|zX mxd [] [.k3,.d,.n,.r] [ps 19 (iv (((i:Nat):Int)+1))] (oi (((i:Nat):Int)+1) (by omega) oz) ?_
   exact zQ ⟨(i+1,M++N),⟨by show i+1≤l.length;omega,by rw [jj (by omega),hbt,if_pos rfl] at hT;rw [show (((i+1:Nat):Nat):Int)=(i:Int)+1 from by omega];exact hT,by show (M++N).length≤(i+1)*70000000;rw [List.length_append];omega⟩⟩ (Wk.trans (Wk.eq (show _=[ps 5 (.osl 51 0 ((M++N).length)),ps 17 (.ssl (yI l) 0 l.length),ps 18 (nv l.length),ps 19 (nv (i+1)),pb 51 58 (qz (M++N))] from by rw [List.length_append];rfl)) (Wk.ren3 _ 0 hc0 [51] [(kb 0,(qz (M++N)))] (oc (qk _) (oz)) (by kernel_rfl) rfl rfl (by kernel_rfl) (by kernel_rfl))) (show l.length-(i+1)<l.length-i from by show l.length-(i+1)<l.length-i;omega)
  refine qT (zM h2)<|zR rfl rfl<|qA<|qj mxd [] [ps 2 (.osl 0 0 M.length),ps 3 (iv 0),pb 0 58 (qz M)] (oz) ?_
  have hR:zS l=(0,M):=by unfold zS;rw [if_pos h1,← hT,List.drop_eq_nil_of_le (by omega),wT]
  rw [hR]
  exact zz fun cx_ a_ hI_=>zU (H':=[some (58,(qz M))]) (.inr rfl) (Wk.ren3 [ps 2 (.osl 0 0 M.length),ps 3 (iv 0),pb 0 58 (qz M)] 0 hc0 [0] [(kb 0,(qz M))] (oc (qk _) (oz)) (by kernel_rfl) rfl rfl (by kernel_rfl) (by kernel_rfl)) rfl (oc rfl (oz)) (fun cx_ a_ hI_=>zK (l':=[ps 2 (.osl 0 0 M.length),ps 3 (iv 0),pb 0 58 (qz M)]) (by kernel_rfl) cx_ a_ hI_) hI_
 refine qQ (bf h1)<|qA<|qj mxd [] [ps 2 sn,ps 3 (iv (qv l))] (oz) ?_
 have hR1:(zS l).1=qv l:=by unfold zS;rw [if_neg h1]
 exact absurd (hR1.symm.trans h0) h1
theorem qbn (l:List Vo) (hf:qbz l) (h0:¬ (zS l).1=0):PC Tryz.prog 12 [(.ssl (yI l) 0 l.length)] [] (.tup [(.ssl [] 0 0),(iv ((zS l).1))]) []:=by
 refine zH Tryz.func12 rfl (by kernel_rfl) (Nat.le_of_ble_eq_true rfl) (by kernel_rfl) (l0:=[ps 0 (.ssl (yI l) 0 l.length)]) rfl (fun c0 Bor hc0=>?_)
 refine qA<|qK mxd [.r] []<|qA<|qA<|vJ mxd 1 [.k1,.n] [ps 4 (iv (qv l))] (yC 24 (wW l hf) oz)<|qA<|qK mxd [.k2,.n] [ps 15 (bv (!(decide ((qv l)=0))))] ?_
 by_cases h1:(qv l)=0
 ·refine qT (bt h1)<|qE<|qA<|qK mxd [.k1,.d,.n,.d] [ps 5 sn]<|qA<|qA<|qK mxd [.d,.k1,.n,.n,.n] [ps 17 (.ssl (yI l) 0 l.length),ps 18 (nv l.length),ps 19 (iv 0)]<|qU<|qX (Wk.nil (s:=5) 58 (by kernel_rfl))<|qX (Wk.less (l':=[ps 5 (.osl 88 0 0),ps 17 (.ssl (yI l) 0 l.length),ps 18 (nv l.length),ps 19 (iv 0),pb 88 58 []]) 89 (by kernel_rfl) (by kernel_rfl)) ?_
  have hwp:=WB h1
  refine qX (Wk.eq (show _=[ps 5 (.osl 88 0 (([]:List Nt).length)),ps 17 (.ssl (yI l) 0 l.length),ps 18 (nv l.length),ps 19 (iv 0),pb 88 58 (qz ([]:List Nt))] from by rfl)) ?_
  refine yB (α:={x:Nat × List Nt // x.1≤l.length∧wT (l.drop x.1) (x.1:Int) x.2=wT l 0 []∧x.2.length≤x.1*70000000}) (fun x=>[ps 5 (.osl 0 0 x.1.2.length),ps 17 (.ssl (yI l) 0 l.length),ps 18 (nv l.length),ps 19 (nv x.1.1),pb 0 58 (qz x.1.2)]) (fun x=>l.length-x.1.1) 1 ⟨(0,[]),⟨Nat.zero_le _,rfl,Nat.zero_le _⟩⟩ (Wk.ren3 _ 0 hc0 [88] [(kb 0,(qz ([]:List Nt)))] (oc (qk _) (oz)) (by kernel_rfl) rfl rfl (by kernel_rfl) (by kernel_rfl)) ?_
  rintro ⟨⟨i,M⟩,⟨hi,hT,hM⟩⟩
  dsimp only at hi hT hM
  refine qA<|qj mxd [] [ps 5 (.osl 0 0 M.length),ps 17 (.ssl (yI l) 0 l.length),ps 18 (nv l.length),ps 19 (nv i),ps 20 (bv (decide (((i:Nat):Int)<(l.length:Int)))),pb 0 58 (qz M)] (oz)<|qA ?_
  by_cases h2:(i:Int)<(l.length:Int)
  ·refine qQ (zO h2)<|qE<|qA<|qU<|qA ?_
   have hfv:=hf.2 i (by omega)
   have hwv:=(hwp.2 i (by omega)).1
   have hwr:=(hwp.2 i (by omega)).2
   have hl64:=hwp.1
   refine zX mxd [(1,.nat (i*2)),(2,.cells [(sv (st ((l.getD i qC).1))),(.ssl (vE ((l.getD i qC).2)) 0 (((l.getD i qC).2).length))])] [.k1,.n,.n,.k3,.d,.k1,.n] [ps 6 (nv i),ps 7 (.opt 33 0),pb 33 44 [(sv (st ((l.getD i qC).1))),(.ssl (vE ((l.getD i qC).2)) 0 (((l.getD i qC).2).length))]] (oc (by omega:(0:Int)≤(i:Int)∧(i:Int)<(l.length:Int)) (oc (by omega:0+(((i:Nat):Int):Int).toNat*2=(i*2)) (oc (yF voC 2 (fun _=>rfl) qC l i 0 2 (by omega) (by decide):(i*2)+2≤((yI l)).length∧(((yI l)).drop (i*2)).take 2=[(sv (st ((l.getD i qC).1))),(.ssl (vE ((l.getD i qC).2)) 0 (((l.getD i qC).2).length))]) oz))) ?_
   refine qA<|qK mxd [.k1,.d,.k1,.n,.k5,.n] [ps 8 (.opt 81 0),pb 81 91 [(nv i),sn,(iv 0),(iv 0),(iv 1),sn]]<|qA<|qA<|qK mxd [.k1,.d,.k4,.n,.n,.n,.k1,.d,.r] [ps 29 (.ssl (vE ((l.getD i qC).2)) 0 (((l.getD i qC).2).length)),ps 30 (nv (((l.getD i qC).2).length)),ps 31 (iv 0)]<|qU<|qX (Wk.nilc (B:=91) (cells:=[(nv i),sn,(iv 0),(iv 0),(iv 1),sn]) 81 1 58 (by kernel_rfl) rfl)<|qX (Wk.less (l':=[ps 5 (.osl 0 0 M.length),ps 8 (.opt 81 0),ps 17 (.ssl (yI l) 0 l.length),ps 18 (nv l.length),ps 19 (nv i),ps 29 (.ssl (vE ((l.getD i qC).2)) 0 (((l.getD i qC).2).length)),ps 30 (nv (((l.getD i qC).2).length)),ps 31 (iv 0),pb 0 58 (qz M),pb 81 91 [(nv i),(.osl 129 0 0),(iv 0),(iv 0),(iv 1),sn],pb 129 58 []]) 130 (by kernel_rfl) (by kernel_rfl))<|qX (Wk.nilc (B:=91) (cells:=[(nv i),(.osl 129 0 0),(iv 0),(iv 0),(iv 1),sn]) 81 5 187 (by kernel_rfl) rfl)<|qX (Wk.less (l':=[ps 5 (.osl 0 0 M.length),ps 8 (.opt 81 0),ps 17 (.ssl (yI l) 0 l.length),ps 18 (nv l.length),ps 19 (nv i),ps 29 (.ssl (vE ((l.getD i qC).2)) 0 (((l.getD i qC).2).length)),ps 30 (nv (((l.getD i qC).2).length)),ps 31 (iv 0),pb 0 58 (qz M),pb 81 91 [(nv i),(.osl 129 0 0),(iv 0),(iv 0),(iv 1),(.osl 130 0 0)],pb 129 58 [],pb 130 187 []]) 131 (by kernel_rfl) (by kernel_rfl))<|qX (Wk.frz2 (l':=[ps 5 (.osl 0 0 M.length),ps 8 (.opt 81 0),ps 17 (.ssl (yI l) 0 l.length),ps 18 (nv l.length),ps 19 (nv i),ps 29 (.ssl (vE ((l.getD i qC).2)) 0 (((l.getD i qC).2).length)),ps 30 (nv (((l.getD i qC).2).length)),ps 31 (iv 0),pb 0 58 (qz M),pb 81 91 [(nv i),(.osl 129 0 0),(iv 0),(iv 0),(iv 1),(.ssl [] 0 0)],pb 129 58 [],(kb 130,none)]) 130 (T:=187) (cs:=[]) [(kb 0,(qz M))] (oc (qk _) (oz)) (by kernel_rfl) (by kernel_rfl) (fun p hp=>List.all_eq_true.1 (show [].all PV.shd=true from rfl) p hp) (by kernel_rfl)) ?_
   refine qX (Wk.less (l':=[ps 5 (.osl 0 0 M.length),ps 8 (.opt 81 0),ps 17 (.ssl (yI l) 0 l.length),ps 18 (nv l.length),ps 19 (nv i),ps 29 (.ssl (vE ((l.getD i qC).2)) 0 (((l.getD i qC).2).length)),ps 30 (nv (((l.getD i qC).2).length)),ps 31 (iv 0),pb 0 58 (qz M),pb 81 91 [(nv i),(.osl 129 0 0),(iv 0),(iv 0),(iv 1),(.ssl [] 0 0)],pb 129 58 []]) 131 (by kernel_rfl) (by kernel_rfl))<|qX (Wk.eq (show _=[ps 5 (.osl 0 0 M.length),ps 8 (.opt 81 0),ps 17 (.ssl (yI l) 0 l.length),ps 18 (nv l.length),ps 19 (nv i),ps 29 (.ssl (vE ((l.getD i qC).2)) 0 (((l.getD i qC).2).length)),ps 30 (nv (((l.getD i qC).2).length)),ps 31 (iv 0),pb 0 58 (qz M),pb 81 91 [(iv (i:Int)),(.osl 129 0 (([]:List Nt).length)),(nv 0),(iv 0),(iv 1),(.ssl (qF ([]:List Sp)) (0*5) 0)],pb 129 58 (qz ([]:List Nt))] from by rfl)) ?_
   refine yB (α:={x:Nat × Int × Int × List Nt × Nat × List Sp × Nat × Nat // x.1≤(l.getD i qC).2.length∧vj (i:Int) ((l.getD i qC).2.drop x.1) ((x.2.1,x.2.2.1),x.2.2.2.1,x.2.2.2.2.1)=vj (i:Int) (l.getD i qC).2 ((0,1),[],0)∧ZQ (x.2.2.2.1,x.2.2.2.2.1,0)∧x.2.2.2.1.length≤x.1*65536∧I64 x.2.1∧I64 x.2.2.1}) (fun x=>[ps 5 (.osl 0 0 M.length),ps 8 (.opt 1 0),ps 17 (.ssl (yI l) 0 l.length),ps 18 (nv l.length),ps 19 (nv i),ps 29 (.ssl (vE ((l.getD i qC).2)) 0 (((l.getD i qC).2).length)),ps 30 (nv (((l.getD i qC).2).length)),ps 31 (nv x.1.1),pb 0 58 (qz M),pb 1 91 [(iv (i:Int)),(.osl 2 0 x.1.2.2.2.1.length),(nv x.1.2.2.2.2.1),(iv x.1.2.1),(iv x.1.2.2.1),(.ssl (qF x.1.2.2.2.2.2.1) (x.1.2.2.2.2.2.2.1*5) x.1.2.2.2.2.2.2.2)],pb 2 58 (qz x.1.2.2.2.1)]) (fun x=>(l.getD i qC).2.length-x.1.1) 3 ⟨(0,0,1,[],0,[],0,0),⟨Nat.zero_le _,rfl,⟨Nat.le_refl _,fun n hn=>by cases hn⟩,Nat.zero_le _,by unfold I64;decide,by unfold I64;decide⟩⟩ (Wk.ren3 _ 0 hc0 [0,81,129] [(kb 0,(qz M)),(kb 2,(qz ([]:List Nt)))] (oc (qk _) (oc (qk _) (oz))) (by kernel_rfl) rfl rfl (by kernel_rfl) (by kernel_rfl)) ?_
   rintro ⟨⟨j,a,b,N,z,T,q,r⟩,⟨hj,hBt,hok,hNl,ha,hb⟩⟩
   dsimp only at hj hBt hok hNl ha hb
   refine qA<|qj mxd [] [ps 5 (.osl 0 0 M.length),ps 8 (.opt 1 0),ps 17 (.ssl (yI l) 0 l.length),ps 18 (nv l.length),ps 19 (nv i),ps 29 (.ssl (vE ((l.getD i qC).2)) 0 (((l.getD i qC).2).length)),ps 30 (nv (((l.getD i qC).2).length)),ps 31 (nv j),ps 32 (bv (decide (((j:Nat):Int)<((((l.getD i qC).2).length:Nat):Int)))),pb 0 58 (qz M),pb 1 91 [(iv (i:Int)),(.osl 2 0 N.length),(nv z),(iv a),(iv b),(.ssl (qF T) (q*5) r)],pb 2 58 (qz N)] (oz)<|qA ?_
   by_cases h3:(j:Int)<((((l.getD i qC).2).length:Nat):Int)
   ·refine qQ (zO h3)<|qE<|qA<|qU<|qA<|zX mxd [(0,.nat (j*3)),(1,.cells [(iv ((vW l i j).1)),(iv ((vW l i j).2.1)),(.ssl (qN ((vW l i j).2.2)) 0 (((vW l i j).2.2).length))])] [.k2,.n,.k6,.d,.k3,.n] [ps 10 (.opt 27 0),pb 27 47 [(iv ((vW l i j).1)),(iv ((vW l i j).2.1)),(.ssl (qN ((vW l i j).2.2)) 0 (((vW l i j).2.2).length))]] (oc (by omega:(0:Int)≤(j:Int)∧(j:Int)<((((l.getD i qC).2).length:Nat):Int)) (oc (by omega:0+(((j:Nat):Int):Int).toNat*3=(j*3)) (oc (yF brC 3 (fun _=>rfl) zA ((l.getD i qC).2) j 0 3 (by omega) (by decide):(j*3)+3≤((vE ((l.getD i qC).2))).length∧(((vE ((l.getD i qC).2))).drop (j*3)).take 3=[(iv ((vW l i j).1)),(iv ((vW l i j).2.1)),(.ssl (qN ((vW l i j).2.2)) 0 (((vW l i j).2.2).length))]) oz))) ?_
    refine qA ?_
    have hyf:=hfv.2.2 j (by omega)
    by_cases h4:((vv l i j a b N z).1)=0
    ·refine zX mxd [(2,.call [1,2] [(.opt 0 0),(.agg [(iv ((vW l i j).1)),(iv ((vW l i j).2.1)),(.ssl (qN ((vW l i j).2.2)) 0 (((vW l i j).2.2).length))])] [some (91,[(iv (i:Int)),(.osl 1 0 N.length),(nv z),(iv a),(iv b),(.ssl (qF T) (q*5) r)]),some (58,(qz N))] (iv ((vv l i j a b N z).1)) [some (91,[(iv (i:Int)),(.osl 2 0 (((vv l i j a b N z).2.2.1).length)),(nv ((vv l i j a b N z).2.2.2)),(iv ((vv l i j a b N z).2.1.1)),(iv ((vv l i j a b N z).2.1.2)),(.ssl (qF (aI3 l i j)) (((aI5 l i j a b N z).2.2.2)*5) ((aI3 l i j).length-(aI5 l i j a b N z).2.2.2))]),none,some (58,(qz ((vv l i j a b N z).2.2.1)))])] [.k2,.d,.n,.k7,.d,.n,.d,.d,.n] [ps 11 (iv ((vv l i j a b N z).1)),pb 1 91 [(iv (i:Int)),(.osl 59 0 (((vv l i j a b N z).2.2.1).length)),(nv ((vv l i j a b N z).2.2.2)),(iv ((vv l i j a b N z).2.1.1)),(iv ((vv l i j a b N z).2.1.2)),(.ssl (qF (aI3 l i j)) (((aI5 l i j a b N z).2.2.2)*5) ((aI3 l i j).length-(aI5 l i j a b N z).2.2.2))],pb 59 58 (qM (yH [1,2] 59) (qz ((vv l i j a b N z).2.2.1)))] (oc (qif (vW l i j) (i:Int) a b T N z q r hyf (hwr j (by omega)).1 (hwr j (by omega)).2 hok (by omega) ⟨ha,hb⟩ h4:PC Tryz.prog 35 [(.opt 0 0),(.agg [(iv ((vW l i j).1)),(iv ((vW l i j).2.1)),(.ssl (qN ((vW l i j).2.2)) 0 (((vW l i j).2.2).length))])] [some (91,[(iv (i:Int)),(.osl 1 0 N.length),(nv z),(iv a),(iv b),(.ssl (qF T) (q*5) r)]),some (58,(qz N))] (iv ((vv l i j a b N z).1)) [some (91,[(iv (i:Int)),(.osl 2 0 (((vv l i j a b N z).2.2.1).length)),(nv ((vv l i j a b N z).2.2.2)),(iv ((vv l i j a b N z).2.1.1)),(iv ((vv l i j a b N z).2.1.2)),(.ssl (qF (aI3 l i j)) (((aI5 l i j a b N z).2.2.2)*5) ((aI3 l i j).length-(aI5 l i j a b N z).2.2.2))]),none,some (58,(qz ((vv l i j a b N z).2.2.1)))]) (oc (rfl:[(.opt 1 0),(.agg [(iv ((vW l i j).1)),(iv ((vW l i j).2.1)),(.ssl (qN ((vW l i j).2.2)) 0 (((vW l i j).2.2).length))])]=qM (qY [1,2] 59) [(.opt 0 0),(.agg [(iv ((vW l i j).1)),(iv ((vW l i j).2.1)),(.ssl (qN ((vW l i j).2.2)) 0 (((vW l i j).2.2).length))])]) (oc (rfl:[(iv (i:Int)),(.osl 2 0 N.length),(nv z),(iv a),(iv b),(.ssl (qF T) (q*5) r)]=qM (qY [1,2] 59) [(iv (i:Int)),(.osl 1 0 N.length),(nv z),(iv a),(iv b),(.ssl (qF T) (q*5) r)]) (oc ((qG (qk _)).symm:(qz N)=qM (qY [1,2] 59) (qz N)) oz))))<|qX (Wk.eq (show _=[ps 5 (.osl 0 0 M.length),ps 8 (.opt 1 0),ps 11 (iv ((vv l i j a b N z).1)),ps 17 (.ssl (yI l) 0 l.length),ps 18 (nv l.length),ps 19 (nv i),ps 29 (.ssl (vE ((l.getD i qC).2)) 0 (((l.getD i qC).2).length)),ps 30 (nv (((l.getD i qC).2).length)),ps 31 (nv j),pb 0 58 (qz M),pb 1 91 [(iv (i:Int)),(.osl 59 0 (((vv l i j a b N z).2.2.1).length)),(nv ((vv l i j a b N z).2.2.2)),(iv ((vv l i j a b N z).2.1.1)),(iv ((vv l i j a b N z).2.1.2)),(.ssl (qF (aI3 l i j)) (((aI5 l i j a b N z).2.2.2)*5) ((aI3 l i j).length-(aI5 l i j a b N z).2.2.2))],pb 59 58 (qz ((vv l i j a b N z).2.2.1))] from by simp only [qG (qk _)])) ?_
     refine qA<|qK mxd [.k8,.k1,.n,.r] [ps 39 (bv (!(decide (((vv l i j a b N z).1)=0))))]<|qT (bt h4)<|qE<|zE<|zX mxd [] [.k2,.d,.k5,.d,.n,.d,.r] [ps 31 (iv (((j:Nat):Int)+1))] (oi (((j:Nat):Int)+1) (by omega) oz) ?_
     have hkp:=qcd (hwr j (by omega)).1 (hwr j (by omega)).2 hok h4
     exact zQ ⟨(j+1,((vv l i j a b N z).2.1.1),((vv l i j a b N z).2.1.2),((vv l i j a b N z).2.2.1),((vv l i j a b N z).2.2.2),(aI3 l i j),((aI5 l i j a b N z).2.2.2),((aI3 l i j).length-(aI5 l i j a b N z).2.2.2)),⟨by show j+1≤(l.getD i qC).2.length;omega,by rw [ZD (by omega),if_pos h4] at hBt;exact hBt,hkp.1,by show ((vv l i j a b N z).2.2.1).length≤(j+1)*65536;have hk2:((vv l i j a b N z).2.2.1).length≤N.length+65536:=hkp.2.1;omega,hkp.2.2.1,hkp.2.2.2⟩⟩ (Wk.trans (Wk.eq (show _=[ps 5 (.osl 0 0 M.length),ps 8 (.opt 1 0),ps 17 (.ssl (yI l) 0 l.length),ps 18 (nv l.length),ps 19 (nv i),ps 29 (.ssl (vE ((l.getD i qC).2)) 0 (((l.getD i qC).2).length)),ps 30 (nv (((l.getD i qC).2).length)),ps 31 (nv (j+1)),pb 0 58 (qz M),pb 1 91 [(iv (i:Int)),(.osl 59 0 (((vv l i j a b N z).2.2.1).length)),(nv ((vv l i j a b N z).2.2.2)),(iv ((vv l i j a b N z).2.1.1)),(iv ((vv l i j a b N z).2.1.2)),(.ssl (qF (aI3 l i j)) (((aI5 l i j a b N z).2.2.2)*5) ((aI3 l i j).length-(aI5 l i j a b N z).2.2.2))],pb 59 58 (qz ((vv l i j a b N z).2.2.1))] from by rfl)) (Wk.ren3 _ 0 hc0 [0,1,59] [(kb 0,(qz M)),(kb 2,(qz ((vv l i j a b N z).2.2.1)))] (oc (qk _) (oc (qk _) (oz))) (by kernel_rfl) rfl rfl (by kernel_rfl) (by kernel_rfl))) (show (l.getD i qC).2.length-(j+1)<(l.getD i qC).2.length-j from by show (l.getD i qC).2.length-(j+1)<(l.getD i qC).2.length-j;omega)
    refine zX mxd [(2,.call [1,2] [(.opt 0 0),(.agg [(iv ((vW l i j).1)),(iv ((vW l i j).2.1)),(.ssl (qN ((vW l i j).2.2)) 0 (((vW l i j).2.2).length))])] [some (91,[(iv (i:Int)),(.osl 1 0 N.length),(nv z),(iv a),(iv b),(.ssl (qF T) (q*5) r)]),some (58,(qz N))] (iv ((vv l i j a b N z).1)) [none,none,none])] [.k2,.d,.n,.k7,.d,.d,.d] [ps 11 (iv ((vv l i j a b N z).1))] (oc (qgi (vW l i j) (i:Int) a b T N z q r hyf (hwr j (by omega)).1 (hwr j (by omega)).2 hok (by omega) ⟨ha,hb⟩:PC Tryz.prog 35 [(.opt 0 0),(.agg [(iv ((vW l i j).1)),(iv ((vW l i j).2.1)),(.ssl (qN ((vW l i j).2.2)) 0 (((vW l i j).2.2).length))])] [some (91,[(iv (i:Int)),(.osl 1 0 N.length),(nv z),(iv a),(iv b),(.ssl (qF T) (q*5) r)]),some (58,(qz N))] (iv ((vv l i j a b N z).1)) [none,none,none]) (oc (rfl:[(.opt 1 0),(.agg [(iv ((vW l i j).1)),(iv ((vW l i j).2.1)),(.ssl (qN ((vW l i j).2.2)) 0 (((vW l i j).2.2).length))])]=qM (qY [1,2] 59) [(.opt 0 0),(.agg [(iv ((vW l i j).1)),(iv ((vW l i j).2.1)),(.ssl (qN ((vW l i j).2.2)) 0 (((vW l i j).2.2).length))])]) (oc (rfl:[(iv (i:Int)),(.osl 2 0 N.length),(nv z),(iv a),(iv b),(.ssl (qF T) (q*5) r)]=qM (qY [1,2] 59) [(iv (i:Int)),(.osl 1 0 N.length),(nv z),(iv a),(iv b),(.ssl (qF T) (q*5) r)]) (oc ((qG (qk _)).symm:(qz N)=qM (qY [1,2] 59) (qz N)) oz))))<|qA<|qK mxd [.k8,.k1,.n,.r] [ps 39 (bv (!(decide (((vv l i j a b N z).1)=0))))]<|qQ (bf h4)<|qA<|qj mxd [] [ps 2 sn,ps 3 (iv ((vv l i j a b N z).1))] (oz) ?_
    have hbE:vj (i:Int) (l.getD i qC).2 ((0,1),[],0)=(vv l i j a b N z):=by rw [← hBt,ZD (by omega),if_neg h4]
    have hR1:(zS l).1=(vv l i j a b N z).1:=by unfold zS;rw [if_pos h1,← hT,jj (by omega),hbE,if_neg h4]
    rw [hR1]
    exact zz fun cx_ a_ hI_=>qx (qx (rt hc0 [ps 2 sn,ps 3 (iv ((vv l i j a b N z).1))] [] hI_))
   refine qT (zM h3)<|zR rfl rfl ?_
   have hbt:vj (i:Int) (l.getD i qC).2 ((0,1),[],0)=(0,(a,b),N,z):=by rw [← hBt,List.drop_eq_nil_of_le (by omega),vj]
   refine zX mxd [(5,.app (some (qz N)) (some (qz (M++N))))] [.d,.n,.d,.k3,.d,.d,.d,.d,.d,.d,.d,.n] [ps 5 (.osl 51 0 (M.length+N.length)),pb 51 58 (qz (M++N))] (oc (qjn N:0+N.length*9≤((qz N)).length∧(((qz N)).drop 0).take (N.length*9)=(qz N)) (oc (YF _:((qz M)).length=M.length*9) (oc (by omega:(M.length+N.length)*80≤140737488355328∧M.length+N.length≤9223372036854775807) (oc ((wq noC M N).symm:(qz M)++(qz N)=(qz (M++N))) oz))))<|zE<|zX mxd [] [.k3,.d,.n,.r] [ps 19 (iv (((i:Nat):Int)+1))] (oi (((i:Nat):Int)+1) (by omega) oz) ?_
   exact zQ ⟨(i+1,M++N),⟨by show i+1≤l.length;omega,by rw [jj (by omega),hbt,if_pos rfl] at hT;rw [show (((i+1:Nat):Nat):Int)=(i:Int)+1 from by omega];exact hT,by show (M++N).length≤(i+1)*70000000;rw [List.length_append];omega⟩⟩ (Wk.trans (Wk.eq (show _=[ps 5 (.osl 51 0 ((M++N).length)),ps 17 (.ssl (yI l) 0 l.length),ps 18 (nv l.length),ps 19 (nv (i+1)),pb 51 58 (qz (M++N))] from by rw [List.length_append];rfl)) (Wk.ren3 _ 0 hc0 [51] [(kb 0,(qz (M++N)))] (oc (qk _) (oz)) (by kernel_rfl) rfl rfl (by kernel_rfl) (by kernel_rfl))) (show l.length-(i+1)<l.length-i from by show l.length-(i+1)<l.length-i;omega)
  refine qT (zM h2)<|zR rfl rfl<|qA<|qj mxd [] [ps 2 (.osl 0 0 M.length),ps 3 (iv 0),pb 0 58 (qz M)] (oz) ?_
  have hR:zS l=(0,M):=by unfold zS;rw [if_pos h1,← hT,List.drop_eq_nil_of_le (by omega),wT]
  exact absurd (congrArg Prod.fst hR) h0
 refine qQ (bf h1)<|qA<|qj mxd [] [ps 2 sn,ps 3 (iv (qv l))] (oz) ?_
 have hR1:(zS l).1=qv l:=by unfold zS;rw [if_neg h1]
 rw [hR1]
 exact zy hc0 [2,3] []
abbrev jI (l:List Vo) (i j:Nat):=(l.getD i qC).2.getD j zA
abbrev aE2 (l:List Vo) (i j:Nat):=Fr.make (jI l i j).1 (jI l i j).2.1
abbrev aE3 (l:List Vo) (i j:Nat) (a b:Int):=Fr.plus a b (aE2 l i j).1 (aE2 l i j).2.1
abbrev Yv (l:List Vo) (i j:Nat) (a b:Int) (N:List Nt) (z:Nat):=nbT (i:Int) (jI l i j) ((a,b),N,z)
theorem qhk (l:List Vo) (hf:qbz l) (hwd:wdVs l):PC Tryz.prog 13 [(.ssl (yI l) 0 l.length)] [] (if (zS l).1=0 then (.tup [(.osl 0 0 ((zS l).2.length)),(iv 0)]) else (.tup [(.ssl [] 0 0),(iv ((zS l).1))])) (if (zS l).1=0 then [some (58,(qz ((zS l).2)))] else []):=by
 refine zH Tryz.func13 rfl (by kernel_rfl) (le_if (Nat.le_of_ble_eq_true rfl) (Nat.le_of_ble_eq_true rfl)) (by kernel_rfl) (l0:=[ps 0 (.ssl (yI l) 0 l.length)]) rfl (fun c0 Bor hc0=>?_)
 refine qA<|qj mxd [] [ps 0 (.ssl (yI l) 0 l.length)] (oz)<|qA<|qA<|ZE mxd 1 [ps 0 (.ssl (yI l) 0 l.length),ps 4 (iv (qv l))] (yC 24 (qcr l hf hwd) oz)<|qA<|qj mxd [] [ps 0 (.ssl (yI l) 0 l.length),ps 4 (iv (qv l)),ps 17 (bv (!(decide ((qv l)=0))))] (oz) ?_
 by_cases h1:(qv l)=0
 ·refine qT (bt h1)<|qE<|qA<|qj mxd [] [ps 0 (.ssl (yI l) 0 l.length),ps 5 sn] (oz)<|qA<|qA<|qj mxd [] [ps 5 sn,ps 19 (.ssl (yI l) 0 l.length),ps 20 (nv l.length),ps 21 (iv 0)] (oz)<|qU ?_
  have hwE:qv l=0:=h1
  have hwp:=WB hwE
  refine qX (Wk.nil (s:=5) 58 (by kernel_rfl))<|qX (Wk.less (l':=[ps 5 (.osl 88 0 0),ps 19 (.ssl (yI l) 0 l.length),ps 20 (nv l.length),ps 21 (iv 0),pb 88 58 []]) 89 (by kernel_rfl) (by kernel_rfl))<|qX (Wk.eq (show _=[ps 5 (.osl 88 0 (([]:List Nt).length)),ps 19 (.ssl (yI l) 0 l.length),ps 20 (nv l.length),ps 21 (iv 0),pb 88 58 (qz ([]:List Nt))] from by rfl)) ?_
  refine yB (α:={x:Nat × List Nt // x.1≤l.length∧wT (l.drop x.1) (x.1:Int) x.2=wT l 0 []∧x.2.length≤x.1*70000000}) (fun x=>[ps 5 (.osl 0 0 x.1.2.length),ps 19 (.ssl (yI l) 0 l.length),ps 20 (nv l.length),ps 21 (nv x.1.1),pb 0 58 (qz x.1.2)]) (fun x=>l.length-x.1.1) 1 ⟨(0,[]),⟨Nat.zero_le _,rfl,Nat.zero_le _⟩⟩ (Wk.ren3 _ 0 hc0 [88] [(kb 0,(qz ([]:List Nt)))] (oc (qk _) (oz)) (by kernel_rfl) rfl rfl (by kernel_rfl) (by kernel_rfl)) ?_
  rintro ⟨⟨i,M⟩,⟨hi,hT,hM⟩⟩
  dsimp only at hi hT hM
  refine qA<|qj mxd [] [ps 5 (.osl 0 0 M.length),ps 19 (.ssl (yI l) 0 l.length),ps 20 (nv l.length),ps 21 (nv i),ps 22 (bv (decide (((i:Nat):Int)<(l.length:Int)))),pb 0 58 (qz M)] (oz)<|qA ?_
  by_cases h2:(i:Int)<(l.length:Int)
  ·refine qQ (zO h2)<|qE<|qA<|qU<|qA ?_
   have hfv:=hf.2 i (by omega)
   refine qj mxd [(1,.nat (i*2)),(2,.cells [(sv (st ((l.getD i qC).1))),(.ssl (vE ((l.getD i qC).2)) 0 (((l.getD i qC).2).length))])] [ps 5 (.osl 0 0 M.length),ps 6 (nv i),ps 7 (.opt 33 0),ps 19 (.ssl (yI l) 0 l.length),ps 20 (nv l.length),ps 21 (nv i),pb 0 58 (qz M),pb 33 44 [(sv (st ((l.getD i qC).1))),(.ssl (vE ((l.getD i qC).2)) 0 (((l.getD i qC).2).length))]] (oc (by omega:(0:Int)≤(i:Int)∧(i:Int)<(l.length:Int)) (oc (by omega:0+(((i:Nat):Int):Int).toNat*2=(i*2)) (oc (yF voC 2 (fun _=>rfl) qC l i 0 2 (by omega) (by decide):(i*2)+2≤((yI l)).length∧(((yI l)).drop (i*2)).take 2=[(sv (st ((l.getD i qC).1))),(.ssl (vE ((l.getD i qC).2)) 0 (((l.getD i qC).2).length))]) oz))) ?_
   refine qA<|qj mxd [] [ps 5 (.osl 0 0 M.length),ps 6 (nv i),ps 7 (.opt 33 0),ps 8 sn,ps 19 (.ssl (yI l) 0 l.length),ps 20 (nv l.length),ps 21 (nv i),pb 0 58 (qz M),pb 33 44 [(sv (st ((l.getD i qC).1))),(.ssl (vE ((l.getD i qC).2)) 0 (((l.getD i qC).2).length))]] (oz)<|qA<|qj mxd [] [ps 5 (.osl 0 0 M.length),ps 6 (nv i),ps 7 (.opt 33 0),ps 8 sn,ps 9 (iv 0),ps 10 (.opt 73 0),ps 19 (.ssl (yI l) 0 l.length),ps 20 (nv l.length),ps 21 (nv i),pb 0 58 (qz M),pb 33 44 [(sv (st ((l.getD i qC).1))),(.ssl (vE ((l.getD i qC).2)) 0 (((l.getD i qC).2).length))],pb 73 56 [(iv 0),(iv 1)]] (oz)<|qA<|qA<|qj mxd [] [ps 5 (.osl 0 0 M.length),ps 6 (nv i),ps 8 sn,ps 9 (iv 0),ps 10 (.opt 73 0),ps 19 (.ssl (yI l) 0 l.length),ps 20 (nv l.length),ps 21 (nv i),ps 28 (.ssl (vE ((l.getD i qC).2)) 0 (((l.getD i qC).2).length)),ps 29 (nv (((l.getD i qC).2).length)),ps 30 (iv 0),pb 0 58 (qz M),pb 73 56 [(iv 0),(iv 1)]] (oz)<|qU ?_
   have hwv:=(hwp.2 i (by omega)).1
   have hwr:=(hwp.2 i (by omega)).2
   have hl64:=hwp.1
   refine qX (Wk.nil (s:=8) 58 (by kernel_rfl))<|qX (Wk.less (l':=[ps 5 (.osl 0 0 M.length),ps 6 (nv i),ps 8 (.osl 129 0 0),ps 9 (iv 0),ps 10 (.opt 73 0),ps 19 (.ssl (yI l) 0 l.length),ps 20 (nv l.length),ps 21 (nv i),ps 28 (.ssl (vE ((l.getD i qC).2)) 0 (((l.getD i qC).2).length)),ps 29 (nv (((l.getD i qC).2).length)),ps 30 (iv 0),pb 0 58 (qz M),pb 73 56 [(iv 0),(iv 1)],pb 129 58 []]) 130 (by kernel_rfl) (by kernel_rfl))<|qX (Wk.eq (show _=[ps 5 (.osl 0 0 M.length),ps 6 (nv i),ps 8 (.osl 129 0 (([]:List Nt).length)),ps 9 (iv 0),ps 10 (.opt 73 0),ps 19 (.ssl (yI l) 0 l.length),ps 20 (nv l.length),ps 21 (nv i),ps 28 (.ssl (vE ((l.getD i qC).2)) 0 (((l.getD i qC).2).length)),ps 29 (nv (((l.getD i qC).2).length)),ps 30 (iv 0),pb 0 58 (qz M),pb 73 56 [(iv 0),(iv 1)],pb 129 58 (qz ([]:List Nt))] from by rfl)) ?_
   refine yB (α:={x:Nat × Int × Int × List Nt × Nat // x.1≤(l.getD i qC).2.length∧vj (i:Int) ((l.getD i qC).2.drop x.1) ((x.2.1,x.2.2.1),x.2.2.2.1,x.2.2.2.2)=vj (i:Int) (l.getD i qC).2 ((0,1),[],0)∧ZQ (x.2.2.2.1,x.2.2.2.2,0)∧x.2.2.2.1.length≤x.1*65536∧I64 x.2.1∧I64 x.2.2.1}) (fun x=>[ps 5 (.osl 0 0 M.length),ps 6 (nv i),ps 8 (.osl 2 0 x.1.2.2.2.1.length),ps 9 (nv x.1.2.2.2.2),ps 10 (.opt 1 0),ps 19 (.ssl (yI l) 0 l.length),ps 20 (nv l.length),ps 21 (nv i),ps 28 (.ssl (vE ((l.getD i qC).2)) 0 (((l.getD i qC).2).length)),ps 29 (nv (((l.getD i qC).2).length)),ps 30 (nv x.1.1),pb 0 58 (qz M),pb 1 56 [(iv x.1.2.1),(iv x.1.2.2.1)],pb 2 58 (qz x.1.2.2.2.1)]) (fun x=>(l.getD i qC).2.length-x.1.1) 3 ⟨(0,0,1,[],0),⟨Nat.zero_le _,rfl,⟨Nat.le_refl _,fun n hn=>(by cases hn)⟩,Nat.zero_le _,by show I64 0;unfold I64;decide,by show I64 1;unfold I64;decide⟩⟩ (Wk.ren3 _ 0 hc0 [0,73,129] [(kb 0,(qz M)),(kb 2,(qz ([]:List Nt)))] (oc (qk _) (oc (qk _) (oz))) (by kernel_rfl) rfl rfl (by kernel_rfl) (by kernel_rfl)) ?_
   rintro ⟨⟨j,a,b,N,z⟩,⟨hj,hBt,hok,hNl,ha,hb⟩⟩
   dsimp only at hj hBt hok hNl ha hb
   refine qA<|qj mxd [] [ps 5 (.osl 0 0 M.length),ps 6 (nv i),ps 8 (.osl 2 0 N.length),ps 9 (nv z),ps 10 (.opt 1 0),ps 19 (.ssl (yI l) 0 l.length),ps 20 (nv l.length),ps 21 (nv i),ps 28 (.ssl (vE ((l.getD i qC).2)) 0 (((l.getD i qC).2).length)),ps 29 (nv (((l.getD i qC).2).length)),ps 30 (nv j),ps 31 (bv (decide (((j:Nat):Int)<((((l.getD i qC).2).length:Nat):Int)))),pb 0 58 (qz M),pb 1 56 [(iv a),(iv b)],pb 2 58 (qz N)] (oz)<|qA ?_
   by_cases h3:(j:Int)<((((l.getD i qC).2).length:Nat):Int)
   ·refine qQ (zO h3)<|qE<|qA<|qU<|qA ?_
    have hbg:BarG (jI l i j):=bar_g (hfv.2.2 j (by omega)) (hwd i (by omega) j (by omega)).1 (hwr j (by omega)).1 (hwr j (by omega)).2
    refine qj mxd [(0,.nat (j*3)),(1,.cells [(iv ((jI l i j).1)),(iv ((jI l i j).2.1)),(.ssl (qN ((jI l i j).2.2)) 0 (((jI l i j).2.2).length))])] [ps 5 (.osl 0 0 M.length),ps 6 (nv i),ps 8 (.osl 2 0 N.length),ps 9 (nv z),ps 10 (.opt 1 0),ps 12 (.opt 27 0),ps 19 (.ssl (yI l) 0 l.length),ps 20 (nv l.length),ps 21 (nv i),ps 28 (.ssl (vE ((l.getD i qC).2)) 0 (((l.getD i qC).2).length)),ps 29 (nv (((l.getD i qC).2).length)),ps 30 (nv j),pb 0 58 (qz M),pb 1 56 [(iv a),(iv b)],pb 2 58 (qz N),pb 27 47 [(iv ((jI l i j).1)),(iv ((jI l i j).2.1)),(.ssl (qN ((jI l i j).2.2)) 0 (((jI l i j).2.2).length))]] (oc (by omega:(0:Int)≤(j:Int)∧(j:Int)<((((l.getD i qC).2).length:Nat):Int)) (oc (by omega:0+(((j:Nat):Int):Int).toNat*3=(j*3)) (oc (yF brC 3 (fun _=>rfl) zA ((l.getD i qC).2) j 0 3 (by omega) (by decide):(j*3)+3≤((vE ((l.getD i qC).2))).length∧(((vE ((l.getD i qC).2))).drop (j*3)).take 3=[(iv ((jI l i j).1)),(iv ((jI l i j).2.1)),(.ssl (qN ((jI l i j).2.2)) 0 (((jI l i j).2.2).length))]) oz))) ?_
    refine qA<|qj mxd [] [ps 5 (.osl 0 0 M.length),ps 6 (nv i),ps 8 (.osl 2 0 N.length),ps 9 (nv z),ps 10 (.opt 1 0),ps 12 (.opt 27 0),ps 19 (.ssl (yI l) 0 l.length),ps 20 (nv l.length),ps 21 (nv i),ps 28 (.ssl (vE ((l.getD i qC).2)) 0 (((l.getD i qC).2).length)),ps 29 (nv (((l.getD i qC).2).length)),ps 30 (nv j),pb 0 58 (qz M),pb 1 56 [(iv a),(iv b)],pb 2 58 (qz N),pb 27 47 [(iv ((jI l i j).1)),(iv ((jI l i j).2.1)),(.ssl (qN ((jI l i j).2.2)) 0 (((jI l i j).2.2).length))]] (oz)<|qA ?_
    by_cases h4:((Yv l i j a b N z).1)=0
    ·refine qj mxd [(5,.call [2] [(nv i),(.agg [(iv ((jI l i j).1)),(iv ((jI l i j).2.1)),(.ssl (qN ((jI l i j).2.2)) 0 (((jI l i j).2.2).length))]),(.osl 0 0 N.length),(nv z),(.agg [(iv a),(iv b)])] [some (58,(qz N))] (.tup [(.osl 1 0 ((Yv l i j a b N z).2.1.length)),(nv ((Yv l i j a b N z).2.2)),(.agg [(iv ((aE3 l i j a b).1)),(iv ((aE3 l i j a b).2.1))]),(iv ((aE3 l i j a b).2.2))]) [none,some (58,(qz ((Yv l i j a b N z).2.1))),none])] [ps 5 (.osl 0 0 M.length),ps 6 (nv i),ps 8 (.osl 91 0 ((Yv l i j a b N z).2.1.length)),ps 9 (nv ((Yv l i j a b N z).2.2)),ps 10 (.opt 1 0),ps 13 (iv ((aE3 l i j a b).2.2)),ps 19 (.ssl (yI l) 0 l.length),ps 20 (nv l.length),ps 21 (nv i),ps 28 (.ssl (vE ((l.getD i qC).2)) 0 (((l.getD i qC).2).length)),ps 29 (nv (((l.getD i qC).2).length)),ps 30 (nv j),pb 0 58 (qz M),pb 1 56 [(iv ((aE3 l i j a b).1)),(iv ((aE3 l i j a b).2.1))],pb 91 58 (qM (yH [2] 91) (qz ((Yv l i j a b N z).2.1)))] (oc (pc_yes (qig (jI l i j) (i:Int) a b N z hbg hok (by omega) ⟨ha,hb⟩ _ rfl (Yv l i j a b N z) rfl) h4:PC Tryz.prog 36 [(nv i),(.agg [(iv ((jI l i j).1)),(iv ((jI l i j).2.1)),(.ssl (qN ((jI l i j).2.2)) 0 (((jI l i j).2.2).length))]),(.osl 0 0 N.length),(nv z),(.agg [(iv a),(iv b)])] [some (58,(qz N))] (.tup [(.osl 1 0 ((Yv l i j a b N z).2.1.length)),(nv ((Yv l i j a b N z).2.2)),(.agg [(iv ((aE3 l i j a b).1)),(iv ((aE3 l i j a b).2.1))]),(iv ((aE3 l i j a b).2.2))]) [none,some (58,(qz ((Yv l i j a b N z).2.1))),none]) (oc (rfl:[(nv i),(.agg [(iv ((jI l i j).1)),(iv ((jI l i j).2.1)),(.ssl (qN ((jI l i j).2.2)) 0 (((jI l i j).2.2).length))]),(.osl 2 0 N.length),(nv z),(.agg [(iv a),(iv b)])]=qM (qY [2] 91) [(nv i),(.agg [(iv ((jI l i j).1)),(iv ((jI l i j).2.1)),(.ssl (qN ((jI l i j).2.2)) 0 (((jI l i j).2.2).length))]),(.osl 0 0 N.length),(nv z),(.agg [(iv a),(iv b)])]) (oc ((qG (qk _)).symm:(qz N)=qM (qY [2] 91) (qz N)) oz)))<|qX (Wk.eq (show _=[ps 5 (.osl 0 0 M.length),ps 6 (nv i),ps 8 (.osl 91 0 ((Yv l i j a b N z).2.1.length)),ps 9 (nv ((Yv l i j a b N z).2.2)),ps 10 (.opt 1 0),ps 13 (iv ((aE3 l i j a b).2.2)),ps 19 (.ssl (yI l) 0 l.length),ps 20 (nv l.length),ps 21 (nv i),ps 28 (.ssl (vE ((l.getD i qC).2)) 0 (((l.getD i qC).2).length)),ps 29 (nv (((l.getD i qC).2).length)),ps 30 (nv j),pb 0 58 (qz M),pb 1 56 [(iv ((aE3 l i j a b).1)),(iv ((aE3 l i j a b).2.1))],pb 91 58 (qz ((Yv l i j a b N z).2.1))] from by simp only [qG (qk _)])) ?_
     refine qA<|qj mxd [] [ps 5 (.osl 0 0 M.length),ps 6 (nv i),ps 8 (.osl 91 0 ((Yv l i j a b N z).2.1.length)),ps 9 (nv ((Yv l i j a b N z).2.2)),ps 10 (.opt 1 0),ps 13 (iv ((aE3 l i j a b).2.2)),ps 19 (.ssl (yI l) 0 l.length),ps 20 (nv l.length),ps 21 (nv i),ps 28 (.ssl (vE ((l.getD i qC).2)) 0 (((l.getD i qC).2).length)),ps 29 (nv (((l.getD i qC).2).length)),ps 30 (nv j),ps 46 (bv (!(decide (((aE3 l i j a b).2.2)=0)))),pb 0 58 (qz M),pb 1 56 [(iv ((aE3 l i j a b).1)),(iv ((aE3 l i j a b).2.1))],pb 91 58 (qz ((Yv l i j a b N z).2.1))] (oz) ?_
     by_cases h5:((aE3 l i j a b).2.2)=0
     ·refine qT (bt h5)<|qE<|zE<|qj mxd [] [ps 5 (.osl 0 0 M.length),ps 6 (nv i),ps 8 (.osl 91 0 ((Yv l i j a b N z).2.1.length)),ps 9 (nv ((Yv l i j a b N z).2.2)),ps 10 (.opt 1 0),ps 19 (.ssl (yI l) 0 l.length),ps 20 (nv l.length),ps 21 (nv i),ps 28 (.ssl (vE ((l.getD i qC).2)) 0 (((l.getD i qC).2).length)),ps 29 (nv (((l.getD i qC).2).length)),ps 30 (iv (((j:Nat):Int)+1)),pb 0 58 (qz M),pb 1 56 [(iv ((aE3 l i j a b).1)),(iv ((aE3 l i j a b).2.1))],pb 91 58 (qz ((Yv l i j a b N z).2.1))] (oi (((j:Nat):Int)+1) (by omega) oz) ?_
      have hbT:=qkp (v:=(i:Int)) (y:=(jI l i j)) (s:=((a,b),N,z)) (qkq hwE (by omega) (by omega))
      rw [if_pos h4] at hbT
      have hb0:(vV (i:Int) (jI l i j) ((a,b),N,z)).1=0:=by rw [hbT];exact h5
      have hkp:=qcd (hwr j (by omega)).1 (hwr j (by omega)).2 hok hb0
      rw [hbT] at hkp
      exact zQ ⟨(j+1,(aE3 l i j a b).1,(aE3 l i j a b).2.1,(Yv l i j a b N z).2.1,(Yv l i j a b N z).2.2),⟨by show j+1≤(l.getD i qC).2.length;omega,by rw [ZD (by omega),if_pos hb0,hbT] at hBt;exact hBt,hkp.1,by have h3:((Yv l i j a b N z).2.1).length≤N.length+65536:=hkp.2.1;show ((Yv l i j a b N z).2.1).length≤(j+1)*65536;omega,hkp.2.2.1,hkp.2.2.2⟩⟩ (Wk.trans (Wk.eq (show _=[ps 5 (.osl 0 0 M.length),ps 6 (nv i),ps 8 (.osl 91 0 ((Yv l i j a b N z).2.1.length)),ps 9 (nv ((Yv l i j a b N z).2.2)),ps 10 (.opt 1 0),ps 19 (.ssl (yI l) 0 l.length),ps 20 (nv l.length),ps 21 (nv i),ps 28 (.ssl (vE ((l.getD i qC).2)) 0 (((l.getD i qC).2).length)),ps 29 (nv (((l.getD i qC).2).length)),ps 30 (nv (j+1)),pb 0 58 (qz M),pb 1 56 [(iv ((aE3 l i j a b).1)),(iv ((aE3 l i j a b).2.1))],pb 91 58 (qz ((Yv l i j a b N z).2.1))] from by rfl)) (Wk.ren3 _ 0 hc0 [0,1,91] [(kb 0,(qz M)),(kb 2,(qz ((Yv l i j a b N z).2.1)))] (oc (qk _) (oc (qk _) (oz))) (by kernel_rfl) rfl rfl (by kernel_rfl) (by kernel_rfl))) (show (l.getD i qC).2.length-(j+1)<(l.getD i qC).2.length-j from by show (l.getD i qC).2.length-(j+1)<(l.getD i qC).2.length-j;omega)
     refine qQ (bf h5)<|qA<|qj mxd [] [ps 2 sn,ps 3 (iv ((aE3 l i j a b).2.2))] (oz) ?_
     have hbT:=qkp (v:=(i:Int)) (y:=(jI l i j)) (s:=((a,b),N,z)) (qkq hwE (by omega) (by omega))
     rw [if_pos h4] at hbT
     have hb1:(vV (i:Int) (jI l i j) ((a,b),N,z)).1=((aE3 l i j a b).2.2):=by rw [hbT]
     have hbn:¬ (vV (i:Int) (jI l i j) ((a,b),N,z)).1=0:=by rw [hb1];exact h5
     have hbE:vj (i:Int) (l.getD i qC).2 ((0,1),[],0)=(vV (i:Int) (jI l i j) ((a,b),N,z)):=by rw [← hBt,ZD (by omega),if_neg hbn]
     have hR1:(zS l).1=((aE3 l i j a b).2.2):=by unfold zS;rw [if_pos h1,← hT,jj (by omega),hbE,if_neg hbn];exact hb1
     have hn:¬ (zS l).1=0:=by rw [hR1];exact h5
     rw [if_neg hn,if_neg hn,hR1]
     exact zz fun cx_ a_ hI_=>qx (qx (rt hc0 [ps 2 sn,ps 3 (iv ((aE3 l i j a b).2.2))] [] hI_))
    refine qj mxd [(5,.call [2] [(nv i),(.agg [(iv ((jI l i j).1)),(iv ((jI l i j).2.1)),(.ssl (qN ((jI l i j).2.2)) 0 (((jI l i j).2.2).length))]),(.osl 0 0 N.length),(nv z),(.agg [(iv a),(iv b)])] [some (58,(qz N))] (.tup [(.ssl [] 0 0),(iv 0),(.agg [(iv a),(iv b)]),(iv ((Yv l i j a b N z).1))]) [none,none])] [ps 5 (.osl 0 0 M.length),ps 6 (nv i),ps 8 (.ssl [] 0 0),ps 9 (iv 0),ps 10 (.opt 1 0),ps 13 (iv ((Yv l i j a b N z).1)),ps 19 (.ssl (yI l) 0 l.length),ps 20 (nv l.length),ps 21 (nv i),ps 28 (.ssl (vE ((l.getD i qC).2)) 0 (((l.getD i qC).2).length)),ps 29 (nv (((l.getD i qC).2).length)),ps 30 (nv j),pb 0 58 (qz M),pb 1 56 [(iv a),(iv b)]] (oc (pc_no (qig (jI l i j) (i:Int) a b N z hbg hok (by omega) ⟨ha,hb⟩ _ rfl (Yv l i j a b N z) rfl) h4:PC Tryz.prog 36 [(nv i),(.agg [(iv ((jI l i j).1)),(iv ((jI l i j).2.1)),(.ssl (qN ((jI l i j).2.2)) 0 (((jI l i j).2.2).length))]),(.osl 0 0 N.length),(nv z),(.agg [(iv a),(iv b)])] [some (58,(qz N))] (.tup [(.ssl [] 0 0),(iv 0),(.agg [(iv a),(iv b)]),(iv ((Yv l i j a b N z).1))]) [none,none]) (oc (rfl:[(nv i),(.agg [(iv ((jI l i j).1)),(iv ((jI l i j).2.1)),(.ssl (qN ((jI l i j).2.2)) 0 (((jI l i j).2.2).length))]),(.osl 2 0 N.length),(nv z),(.agg [(iv a),(iv b)])]=qM (qY [2] 91) [(nv i),(.agg [(iv ((jI l i j).1)),(iv ((jI l i j).2.1)),(.ssl (qN ((jI l i j).2.2)) 0 (((jI l i j).2.2).length))]),(.osl 0 0 N.length),(nv z),(.agg [(iv a),(iv b)])]) (oc ((qG (qk _)).symm:(qz N)=qM (qY [2] 91) (qz N)) oz)))<|qA<|qj mxd [] [ps 5 (.osl 0 0 M.length),ps 6 (nv i),ps 8 (.ssl [] 0 0),ps 9 (iv 0),ps 10 (.opt 1 0),ps 13 (iv ((Yv l i j a b N z).1)),ps 19 (.ssl (yI l) 0 l.length),ps 20 (nv l.length),ps 21 (nv i),ps 28 (.ssl (vE ((l.getD i qC).2)) 0 (((l.getD i qC).2).length)),ps 29 (nv (((l.getD i qC).2).length)),ps 30 (nv j),ps 46 (bv (!(decide (((Yv l i j a b N z).1)=0)))),pb 0 58 (qz M),pb 1 56 [(iv a),(iv b)]] (oz)<|qQ (bf h4)<|qA<|qj mxd [] [ps 2 sn,ps 3 (iv ((Yv l i j a b N z).1))] (oz) ?_
    have hbT:=qkp (v:=(i:Int)) (y:=(jI l i j)) (s:=((a,b),N,z)) (qkq hwE (by omega) (by omega))
    rw [if_neg h4] at hbT
    have hb1:(vV (i:Int) (jI l i j) ((a,b),N,z)).1=((Yv l i j a b N z).1):=by rw [hbT]
    have hbn:¬ (vV (i:Int) (jI l i j) ((a,b),N,z)).1=0:=by rw [hb1];exact h4
    have hbE:vj (i:Int) (l.getD i qC).2 ((0,1),[],0)=(vV (i:Int) (jI l i j) ((a,b),N,z)):=by rw [← hBt,ZD (by omega),if_neg hbn]
    have hR1:(zS l).1=((Yv l i j a b N z).1):=by unfold zS;rw [if_pos h1,← hT,jj (by omega),hbE,if_neg hbn];exact hb1
    have hn:¬ (zS l).1=0:=by rw [hR1];exact h4
    rw [if_neg hn,if_neg hn,hR1]
    exact zz fun cx_ a_ hI_=>qx (qx (rt hc0 [ps 2 sn,ps 3 (iv ((Yv l i j a b N z).1))] [] hI_))
   refine qT (zM h3)<|zR rfl rfl ?_
   have hbt:vj (i:Int) (l.getD i qC).2 ((0,1),[],0)=(0,(a,b),N,z):=by rw [← hBt,List.drop_eq_nil_of_le (by omega),vj]
   refine qj mxd [(2,.app (some (qz N)) (some (qz (M++N))))] [ps 5 (.osl 27 0 (M.length+N.length)),ps 19 (.ssl (yI l) 0 l.length),ps 20 (nv l.length),ps 21 (nv i),pb 27 58 (qz (M++N))] (oc (qjn N:0+N.length*9≤((qz N)).length∧(((qz N)).drop 0).take (N.length*9)=(qz N)) (oc (YF _:((qz M)).length=M.length*9) (oc (by omega:(M.length+N.length)*80≤140737488355328∧M.length+N.length≤9223372036854775807) (oc ((wq noC M N).symm:(qz M)++(qz N)=(qz (M++N))) oz))))<|zE<|qj mxd [] [ps 5 (.osl 27 0 (M.length+N.length)),ps 19 (.ssl (yI l) 0 l.length),ps 20 (nv l.length),ps 21 (iv (((i:Nat):Int)+1)),pb 27 58 (qz (M++N))] (oi (((i:Nat):Int)+1) (by omega) oz) ?_
   exact zQ ⟨(i+1,M++N),⟨by show i+1≤l.length;omega,by rw [jj (by omega),hbt,if_pos rfl] at hT;rw [show (((i+1:Nat):Nat):Int)=(i:Int)+1 from by omega];exact hT,by show (M++N).length≤(i+1)*70000000;rw [List.length_append];omega⟩⟩ (Wk.trans (Wk.eq (show _=[ps 5 (.osl 27 0 ((M++N).length)),ps 19 (.ssl (yI l) 0 l.length),ps 20 (nv l.length),ps 21 (nv (i+1)),pb 27 58 (qz (M++N))] from by rw [List.length_append];rfl)) (Wk.ren3 _ 0 hc0 [27] [(kb 0,(qz (M++N)))] (oc (qk _) (oz)) (by kernel_rfl) rfl rfl (by kernel_rfl) (by kernel_rfl))) (show l.length-(i+1)<l.length-i from by show l.length-(i+1)<l.length-i;omega)
  refine qT (zM h2)<|zR rfl rfl<|qA<|qj mxd [] [ps 2 (.osl 0 0 M.length),ps 3 (iv 0),pb 0 58 (qz M)] (oz) ?_
  have hR:zS l=(0,M):=by unfold zS;rw [if_pos h1,← hT,List.drop_eq_nil_of_le (by omega),wT]
  rw [hR,if_pos rfl,if_pos rfl]
  exact zz fun cx_ a_ hI_=>zU (H':=[some (58,(qz M))]) (.inr rfl) (Wk.ren3 [ps 2 (.osl 0 0 M.length),ps 3 (iv 0),pb 0 58 (qz M)] 0 hc0 [0] [(kb 0,(qz M))] (oc (qk _) (oz)) (by kernel_rfl) rfl rfl (by kernel_rfl) (by kernel_rfl)) rfl (oc rfl (oz)) (fun cx_ a_ hI_=>zK (l':=[ps 2 (.osl 0 0 M.length),ps 3 (iv 0),pb 0 58 (qz M)]) (by kernel_rfl) cx_ a_ hI_) hI_
 refine qQ (bf h1)<|qA<|qj mxd [] [ps 2 sn,ps 3 (iv (qv l))] (oz) ?_
 have hR1:(zS l).1=qv l:=by unfold zS;rw [if_neg h1]
 have hn:¬ (zS l).1=0:=by rw [hR1];exact h1
 rw [if_neg hn,if_neg hn,hR1]
 exact zy hc0 [2,3] []
theorem text_step (l:List It) (ih:∀ (c:List It),SizeOf.sizeOf c<SizeOf.sizeOf l→(qZ c).length≤140737488355328→wx c→wdL c→c.length≤1466015503658→prL c→PC Tryz.prog 34 [.ssl (qN c) 0 c.length] [] (sv (st (qZ c))) []) (hb:(qZ l).length≤140737488355328) (hfl:wx l) (hwl:wdL l) (hll:l.length≤1466015503658) (hpl:prL l):PC Tryz.prog 34 [(.ssl (qN l) 0 l.length)] [] (sv (st (qZ l))) []:=by
 refine zH Tryz.func34 rfl (by kernel_rfl) (Nat.le_of_ble_eq_true rfl) (by kernel_rfl) (l0:=[ps 0 (.ssl (qN l) 0 l.length)]) rfl (fun c0 Bor hc0=>?_)
 refine qA<|qK mxd [.r] []<|qA<|qK mxd [.k1,.n] [ps 3 se]<|qA<|qA<|qK mxd [.d,.k1,.n,.n,.n] [ps 13 (.ssl (qN l) 0 l.length),ps 14 (nv l.length),ps 15 (iv 0)]<|qU<|qX (Wk.eq (show _=[ps 3 (sv (st (qZ (l.take 0)))),ps 13 (.ssl (qN l) 0 l.length),ps 14 (nv l.length),ps 15 (iv 0)] from by rw [List.take_zero,QE])) ?_
 refine yB (α:={x:Nat // x≤l.length}) (fun x=>[ps 3 (sv (st (qZ (l.take x.1)))),ps 13 (.ssl (qN l) 0 l.length),ps 14 (nv l.length),ps 15 (nv x.1)]) (fun x=>l.length-x.1) 0 ⟨0,Nat.zero_le _⟩ (Wk.ren2 _ 0 hc0 [] rfl rfl (by kernel_rfl) (by kernel_rfl)) ?_
 rintro ⟨i,hi⟩
 refine qA<|qj mxd [] [ps 3 (sv (st (qZ (l.take i)))),ps 13 (.ssl (qN l) 0 l.length),ps 14 (nv l.length),ps 15 (nv i),ps 16 (bv (decide (((i:Nat):Int)<(l.length:Int))))] (oz)<|qA ?_
 by_cases h1:(i:Int)<(l.length:Int)
 ·refine qQ (zO h1)<|qE<|qA<|qU<|qA ?_
  obtain ⟨hx1,hx2,hx3,hx4,hx5⟩:=(jH (l.getD i qB)).1 (jL hfl (show i<l.length from by omega))
  obtain ⟨hw1,hw2⟩:=(qcf (l.getD i qB)).1 (wd_at hwl (show i<l.length from by omega))
  have hpr:=pr_item (hpl i (by omega))
  have hrm:=preT_room (show i<l.length from by omega)
  have hrn:=its_room (show i<l.length from by omega)
  have hL1:=it_len (l.getD i qB)
  have hple:=qjy l i
  refine zX mxd [(1,.nat (i*7)),(2,.cells [(iv (iK (l.getD i qB))),(iv (iS (l.getD i qB))),(.ssl (zF (iP (l.getD i qB))) 0 ((iP (l.getD i qB)).length)),(iv ((iB (l.getD i qB)).1)),(iv ((iB (l.getD i qB)).2)),(sv (st (iL (l.getD i qB)))),(.ssl (qN (iC (l.getD i qB))) 0 ((iC (l.getD i qB)).length))])] [.k1,.n,.n,.k3,.d,.n] [ps 4 (nv i),ps 5 (.opt 32 0),pb 32 50 [(iv (iK (l.getD i qB))),(iv (iS (l.getD i qB))),(.ssl (zF (iP (l.getD i qB))) 0 ((iP (l.getD i qB)).length)),(iv ((iB (l.getD i qB)).1)),(iv ((iB (l.getD i qB)).2)),(sv (st (iL (l.getD i qB)))),(.ssl (qN (iC (l.getD i qB))) 0 ((iC (l.getD i qB)).length))]] (oc (by omega:(0:Int)≤(i:Int)∧(i:Int)<(l.length:Int)) (oc (by omega:0+(((i:Nat):Int):Int).toNat*7=(i*7)) (oc (YM l i 0 7 (by omega) (by decide):(i*7)+7≤((qN l)).length∧(((qN l)).drop (i*7)).take 7=[(iv (iK (l.getD i qB))),(iv (iS (l.getD i qB))),(.ssl (zF (iP (l.getD i qB))) 0 ((iP (l.getD i qB)).length)),(iv ((iB (l.getD i qB)).1)),(iv ((iB (l.getD i qB)).2)),(sv (st (iL (l.getD i qB)))),(.ssl (qN (iC (l.getD i qB))) 0 ((iC (l.getD i qB)).length))]) oz)))<|qA<|qA<|qK mxd [.k1,.d,.k4,.n,.r] [ps 21 (bv (decide (0<(i:Int))))]<|T_f1 96 [ps 3 (sv (st (zL l i))),ps 5 (.opt 32 0),ps 13 (.ssl (qN l) 0 l.length),ps 14 (nv l.length),ps 15 (nv i),pb 32 50 [(iv (iK (l.getD i qB))),(iv (iS (l.getD i qB))),(.ssl (zF (iP (l.getD i qB))) 0 ((iP (l.getD i qB)).length)),(iv ((iB (l.getD i qB)).1)),(iv ((iB (l.getD i qB)).2)),(sv (st (iL (l.getD i qB)))),(.ssl (qN (iC (l.getD i qB))) 0 ((iC (l.getD i qB)).length))]] ?_ fun hk1=>?_
  ·refine qA<|qA<|qj mxd [] [ps 3 (sv (st (zL l i))),ps 5 (.opt 32 0),ps 13 (.ssl (qN l) 0 l.length),ps 14 (nv l.length),ps 15 (nv i),ps 26 (bv (decide ((iK (l.getD i qB))=2))),pb 32 50 [(iv (iK (l.getD i qB))),(iv (iS (l.getD i qB))),(.ssl (zF (iP (l.getD i qB))) 0 ((iP (l.getD i qB)).length)),(iv ((iB (l.getD i qB)).1)),(iv ((iB (l.getD i qB)).2)),(sv (st (iL (l.getD i qB)))),(.ssl (qN (iC (l.getD i qB))) 0 ((iC (l.getD i qB)).length))]] (oz)<|T_f3 528 [ps 3 (sv (st (zL l i++zP (l.getD i qB)))),ps 13 (.ssl (qN l) 0 l.length),ps 14 (nv l.length),ps 15 (nv i)] ?_ fun hk7=>?_
   ·refine qj mxd [] [ps 3 (sv (st (zL l i++zP (l.getD i qB)))),ps 13 (.ssl (qN l) 0 l.length),ps 14 (nv l.length),ps 15 (iv (((i:Nat):Int)+1))] (oi (((i:Nat):Int)+1) (by omega) oz) ?_
    exact zQ ⟨i+1,by show i+1≤l.length;omega⟩ (Wk.trans (Wk.eq (show _=[ps 3 (sv (st (qZ (l.take (i+1))))),ps 13 (.ssl (qN l) 0 l.length),ps 14 (nv l.length),ps 15 (nv (i+1))] from by rw [qhs (show i<l.length from by omega)];rfl)) (Wk.ren2 _ 0 hc0 [] rfl rfl (by kernel_rfl) (by kernel_rfl))) (show l.length-(i+1)<l.length-i from by show l.length-(i+1)<l.length-i;omega)
   refine T_f1 368 [ps 3 (sv (st (zL l i++qD (l.getD i qB)))),ps 5 (.opt 32 0),ps 13 (.ssl (qN l) 0 l.length),ps 14 (nv l.length),ps 15 (nv i),pb 32 50 [(iv (iK (l.getD i qB))),(iv (iS (l.getD i qB))),(.ssl (zF (iP (l.getD i qB))) 0 ((iP (l.getD i qB)).length)),(iv ((iB (l.getD i qB)).1)),(iv ((iB (l.getD i qB)).2)),(sv (st (iL (l.getD i qB)))),(.ssl (qN (iC (l.getD i qB))) 0 ((iC (l.getD i qB)).length))]] ?_ fun hk2=>?_
   ·refine qA<|qA<|qj mxd [] [ps 3 (sv (st (zL l i++qD (l.getD i qB)))),ps 5 (.opt 32 0),ps 13 (.ssl (qN l) 0 l.length),ps 14 (nv l.length),ps 15 (nv i),ps 91 (bv (decide (1<(iS (l.getD i qB))))),pb 32 50 [(iv (iK (l.getD i qB))),(iv (iS (l.getD i qB))),(.ssl (zF (iP (l.getD i qB))) 0 ((iP (l.getD i qB)).length)),(iv ((iB (l.getD i qB)).1)),(iv ((iB (l.getD i qB)).2)),(sv (st (iL (l.getD i qB)))),(.ssl (qN (iC (l.getD i qB))) 0 ((iC (l.getD i qB)).length))]] (oz)<|T_f1 448 [ps 3 (sv (st (zL l i++qD (l.getD i qB)++qH (iS (l.getD i qB))))),ps 5 (.opt 32 0),ps 13 (.ssl (qN l) 0 l.length),ps 14 (nv l.length),ps 15 (nv i),pb 32 50 [(iv (iK (l.getD i qB))),(iv (iS (l.getD i qB))),(.ssl (zF (iP (l.getD i qB))) 0 ((iP (l.getD i qB)).length)),(iv ((iB (l.getD i qB)).1)),(iv ((iB (l.getD i qB)).2)),(sv (st (iL (l.getD i qB)))),(.ssl (qN (iC (l.getD i qB))) 0 ((iC (l.getD i qB)).length))]] ?_ fun hk5=>?_
    ·refine qA<|qj mxd [(2,.val (.av (.bool (!decide ((iL (l.getD i qB))=([]:TX))))))] [ps 3 (sv (st (zL l i++qD (l.getD i qB)++qH (iS (l.getD i qB))))),ps 5 (.opt 32 0),ps 13 (.ssl (qN l) 0 l.length),ps 14 (nv l.length),ps 15 (nv i),ps 100 (bv (!(decide ((iL (l.getD i qB))=([]:TX))))),pb 32 50 [(iv (iK (l.getD i qB))),(iv (iS (l.getD i qB))),(.ssl (zF (iP (l.getD i qB))) 0 ((iP (l.getD i qB)).length)),(iv ((iB (l.getD i qB)).1)),(iv ((iB (l.getD i qB)).2)),(sv (st (iL (l.getD i qB)))),(.ssl (qN (iC (l.getD i qB))) 0 ((iC (l.getD i qB)).length))]] (oc (jA _ _:(!((st (iL (l.getD i qB))).toList == (st ([]:TX)).toList)) = !decide ((iL (l.getD i qB))=([]:TX))) oz) ?_
     by_cases h23:(iL (l.getD i qB))=([]:TX)
     ·refine qT (bt h23)<|qE<|zE<|qX (Wk.eq (show _=[ps 3 (sv (st (zL l i++zP (l.getD i qB)))),ps 5 (.opt 32 0),ps 13 (.ssl (qN l) 0 l.length),ps 14 (nv l.length),ps 15 (nv i),ps 100 (bv (!(decide ((iL (l.getD i qB))=([]:TX))))),pb 32 50 [(iv (iK (l.getD i qB))),(iv (iS (l.getD i qB))),(.ssl (zF (iP (l.getD i qB))) 0 ((iP (l.getD i qB)).length)),(iv ((iB (l.getD i qB)).1)),(iv ((iB (l.getD i qB)).2)),(sv (st (iL (l.getD i qB)))),(.ssl (qN (iC (l.getD i qB))) 0 ((iC (l.getD i qB)).length))]] from by rw [yU,show lyT (iL (l.getD i qB))=[] from if_pos (by assumption),List.append_nil,List.append_assoc])) ?_
      exact vD hk7
     refine qQ (bf h23) ?_
     have hY:lyT (iL (l.getD i qB))=[32,34]++iL (l.getD i qB)++[34]:=if_neg (by assumption)
     have hY2:=congrArg List.length hY
     simp only [List.length_append,List.length_cons,List.length_nil] at hY2
     refine zX mxd [(1,.val (.av (.string (st ((zL l i++qD (l.getD i qB)++qH (iS (l.getD i qB)))++([32,34]:TX)))))),(4,.val (.av (.string (st (((zL l i++qD (l.getD i qB)++qH (iS (l.getD i qB)))++([32,34]:TX))++(iL (l.getD i qB))))))),(5,.val (.av (.string (st ((((zL l i++qD (l.getD i qB)++qH (iS (l.getD i qB)))++([32,34]:TX))++(iL (l.getD i qB)))++([34]:TX))))))] [.d,.n,.d,.k3,.d,.d] [ps 3 (sv (st ((((zL l i++qD (l.getD i qB)++qH (iS (l.getD i qB)))++([32,34]:TX))++(iL (l.getD i qB)))++([34]:TX))))] (oc (by first|omega|(simp only [List.length_append,List.length_cons,List.length_nil];omega):(((zL l i++qD (l.getD i qB)++qH (iS (l.getD i qB))).length+([32,34]:TX).length:Nat):Int)≤9223372036854775807) (oc (qJ _ _:st (zL l i++qD (l.getD i qB)++qH (iS (l.getD i qB)))++st ([32,34]:TX)=st ((zL l i++qD (l.getD i qB)++qH (iS (l.getD i qB)))++([32,34]:TX))) (oc (by first|omega|(simp only [List.length_append,List.length_cons,List.length_nil];omega):((((zL l i++qD (l.getD i qB)++qH (iS (l.getD i qB)))++([32,34]:TX)).length+(iL (l.getD i qB)).length:Nat):Int)≤9223372036854775807) (oc (qJ _ _:st ((zL l i++qD (l.getD i qB)++qH (iS (l.getD i qB)))++([32,34]:TX))++st (iL (l.getD i qB))=st (((zL l i++qD (l.getD i qB)++qH (iS (l.getD i qB)))++([32,34]:TX))++(iL (l.getD i qB)))) (oc (by first|omega|(simp only [List.length_append,List.length_cons,List.length_nil];omega):(((((zL l i++qD (l.getD i qB)++qH (iS (l.getD i qB)))++([32,34]:TX))++(iL (l.getD i qB))).length+([34]:TX).length:Nat):Int)≤9223372036854775807) (oc (qJ _ _:st (((zL l i++qD (l.getD i qB)++qH (iS (l.getD i qB)))++([32,34]:TX))++(iL (l.getD i qB)))++st ([34]:TX)=st ((((zL l i++qD (l.getD i qB)++qH (iS (l.getD i qB)))++([32,34]:TX))++(iL (l.getD i qB)))++([34]:TX))) oz))))))<|zE<|qX (Wk.eq (show _=[ps 3 (sv (st (zL l i++zP (l.getD i qB)))),ps 13 (.ssl (qN l) 0 l.length),ps 14 (nv l.length),ps 15 (nv i)] from by rw [yU,hY];simp only [List.append_assoc])) ?_
     exact vD hk7
    by_cases h22:1<(iS (l.getD i qB))
    ·refine qQ (zO h22) ?_
     have hS:qH (iS (l.getD i qB))=[42]++Lib.itoa (iS (l.getD i qB)):=if_neg (by omega)
     have hS2:=congrArg List.length hS
     simp only [List.length_append,List.length_cons,List.length_nil] at hS2
     refine zX mxd [(1,.val (.av (.string (st ((zL l i++qD (l.getD i qB))++([42]:TX)))))),(4,.call [] [(iv (iS (l.getD i qB)))] [] (sv (st (Lib.itoa (iS (l.getD i qB))))) []),(5,.val (.av (.string (st (((zL l i++qD (l.getD i qB))++([42]:TX))++(Lib.itoa (iS (l.getD i qB))))))))] [.d,.n,.k4,.d,.r] [ps 3 (sv (st (((zL l i++qD (l.getD i qB))++([42]:TX))++(Lib.itoa (iS (l.getD i qB))))))] (oc (by first|omega|(simp only [List.length_append,List.length_cons,List.length_nil];omega):(((zL l i++qD (l.getD i qB)).length+([42]:TX).length:Nat):Int)≤9223372036854775807) (oc (qJ _ _:st (zL l i++qD (l.getD i qB))++st ([42]:TX)=st ((zL l i++qD (l.getD i qB))++([42]:TX))) (yC 424 (vU (iS (l.getD i qB)) (by omega) (by omega)) (oc (by first|omega|(simp only [List.length_append,List.length_cons,List.length_nil];omega):((((zL l i++qD (l.getD i qB))++([42]:TX)).length+(Lib.itoa (iS (l.getD i qB))).length:Nat):Int)≤9223372036854775807) (oc (qJ _ _:st ((zL l i++qD (l.getD i qB))++([42]:TX))++st (Lib.itoa (iS (l.getD i qB)))=st (((zL l i++qD (l.getD i qB))++([42]:TX))++(Lib.itoa (iS (l.getD i qB))))) oz)))))<|qX (Wk.eq (show _=[ps 3 (sv (st (zL l i++qD (l.getD i qB)++qH (iS (l.getD i qB))))),ps 5 (.opt 32 0),ps 13 (.ssl (qN l) 0 l.length),ps 14 (nv l.length),ps 15 (nv i),pb 32 50 [(iv (iK (l.getD i qB))),(iv (iS (l.getD i qB))),(.ssl (zF (iP (l.getD i qB))) 0 ((iP (l.getD i qB)).length)),(iv ((iB (l.getD i qB)).1)),(iv ((iB (l.getD i qB)).2)),(sv (st (iL (l.getD i qB)))),(.ssl (qN (iC (l.getD i qB))) 0 ((iC (l.getD i qB)).length))]] from by rw [hS];simp only [List.append_assoc])) ?_
     exact vD hk5
    refine qT (zM h22)<|qE<|qX (Wk.eq (show _=[ps 3 (sv (st (zL l i++qD (l.getD i qB)++qH (iS (l.getD i qB))))),ps 5 (.opt 32 0),ps 13 (.ssl (qN l) 0 l.length),ps 14 (nv l.length),ps 15 (nv i),ps 91 (bv (decide (1<(iS (l.getD i qB))))),pb 32 50 [(iv (iK (l.getD i qB))),(iv (iS (l.getD i qB))),(.ssl (zF (iP (l.getD i qB))) 0 ((iP (l.getD i qB)).length)),(iv ((iB (l.getD i qB)).1)),(iv ((iB (l.getD i qB)).2)),(sv (st (iL (l.getD i qB)))),(.ssl (qN (iC (l.getD i qB))) 0 ((iC (l.getD i qB)).length))]] from by rw [show qH (iS (l.getD i qB))=[] from if_pos (by omega),List.append_nil])) ?_
    exact vD hk5
   by_cases h3:(iK (l.getD i qB))=2
   ·refine qQ (zO h3) ?_
    have hM:qD (l.getD i qB)=[45]:=by unfold qD;rw [if_pos (by omega)]
    have hM2:=congrArg List.length hM
    try simp only [List.length_append,List.length_cons,List.length_nil] at hM2
    refine zX mxd [(1,.val (.av (.string (st ((zL l i)++([45]:TX))))))] [.d,.n,.k4,.d,.r] [ps 3 (sv (st ((zL l i)++([45]:TX))))] (oc (by first|omega|(simp <;> omega):(((zL l i).length+([45]:TX).length:Nat):Int)≤9223372036854775807) (oc (qJ _ _:st (zL l i)++st ([45]:TX)=st ((zL l i)++([45]:TX))) oz))<|qX (Wk.eq (show _=[ps 3 (sv (st (zL l i++qD (l.getD i qB)))),ps 5 (.opt 32 0),ps 13 (.ssl (qN l) 0 l.length),ps 14 (nv l.length),ps 15 (nv i),pb 32 50 [(iv (iK (l.getD i qB))),(iv (iS (l.getD i qB))),(.ssl (zF (iP (l.getD i qB))) 0 ((iP (l.getD i qB)).length)),(iv ((iB (l.getD i qB)).1)),(iv ((iB (l.getD i qB)).2)),(sv (st (iL (l.getD i qB)))),(.ssl (qN (iC (l.getD i qB))) 0 ((iC (l.getD i qB)).length))]] from by rw [hM];try simp only [List.append_assoc,List.cons_append,List.nil_append])) ?_
    exact vD hk2
   refine qT (zM h3)<|qA<|qK mxd [.k5,.d,.n,.r] [ps 31 (bv (decide ((iK (l.getD i qB))=3)))] ?_
   by_cases h7:(iK (l.getD i qB))=3
   ·refine qQ (zO h7) ?_
    have hM:qD (l.getD i qB)=[126]:=by unfold qD;rw [if_neg (by omega),if_pos (by omega)]
    have hM2:=congrArg List.length hM
    try simp only [List.length_append,List.length_cons,List.length_nil] at hM2
    refine zX mxd [(1,.val (.av (.string (st ((zL l i)++([126]:TX))))))] [.d,.n,.k4,.d,.r] [ps 3 (sv (st ((zL l i)++([126]:TX))))] (oc (by first|omega|(simp <;> omega):(((zL l i).length+([126]:TX).length:Nat):Int)≤9223372036854775807) (oc (qJ _ _:st (zL l i)++st ([126]:TX)=st ((zL l i)++([126]:TX))) oz))<|qX (Wk.eq (show _=[ps 3 (sv (st (zL l i++qD (l.getD i qB)))),ps 5 (.opt 32 0),ps 13 (.ssl (qN l) 0 l.length),ps 14 (nv l.length),ps 15 (nv i),pb 32 50 [(iv (iK (l.getD i qB))),(iv (iS (l.getD i qB))),(.ssl (zF (iP (l.getD i qB))) 0 ((iP (l.getD i qB)).length)),(iv ((iB (l.getD i qB)).1)),(iv ((iB (l.getD i qB)).2)),(sv (st (iL (l.getD i qB)))),(.ssl (qN (iC (l.getD i qB))) 0 ((iC (l.getD i qB)).length))]] from by rw [hM];try simp only [List.append_assoc,List.cons_append,List.nil_append])) ?_
    exact vD hk2
   refine qT (zM h7)<|qA<|qK mxd [.k5,.d,.n,.r] [ps 36 (bv (decide ((iK (l.getD i qB))=1)))] ?_
   by_cases h11:(iK (l.getD i qB))=1
   ·refine qQ (zO h11)<|qA ?_
    have hM:qD (l.getD i qB)=Qv (iP (l.getD i qB)):=by unfold qD;rw [if_neg (by omega),if_neg (by omega),if_pos (by omega)]
    have hM2:=congrArg List.length hM
    try simp only [List.length_append,List.length_cons,List.length_nil] at hM2
    have hcl:=ch_len (iP (l.getD i qB))
    have hcl2:(zB (iP (l.getD i qB))).length≤(Qv (iP (l.getD i qB))).length:=by rw [hcl];exact Nat.le_add_right _ _
    refine qK mxd [.k2,.n,.k3,.d,.r] [ps 6 se]<|qA<|qA<|qK mxd [.k6,.n,.n,.n,.r] [ps 38 (.ssl (zF (iP (l.getD i qB))) 0 ((iP (l.getD i qB)).length)),ps 39 (nv ((iP (l.getD i qB)).length)),ps 40 (iv 0)]<|qU<|qX (Wk.eq (show _=[ps 3 (sv (st (zL l i))),ps 5 (.opt 32 0),ps 6 (sv (st (zB ((iP (l.getD i qB)).take 0)))),ps 13 (.ssl (qN l) 0 l.length),ps 14 (nv l.length),ps 15 (nv i),ps 38 (.ssl (zF (iP (l.getD i qB))) 0 ((iP (l.getD i qB)).length)),ps 39 (nv ((iP (l.getD i qB)).length)),ps 40 (iv 0),pb 32 50 [(iv (iK (l.getD i qB))),(iv (iS (l.getD i qB))),(.ssl (zF (iP (l.getD i qB))) 0 ((iP (l.getD i qB)).length)),(iv ((iB (l.getD i qB)).1)),(iv ((iB (l.getD i qB)).2)),(sv (st (iL (l.getD i qB)))),(.ssl (qN (iC (l.getD i qB))) 0 ((iC (l.getD i qB)).length))]] from by rw [List.take_zero];rfl)) ?_
    refine yB (α:={x:Nat // x≤(iP (l.getD i qB)).length}) (fun x=>[ps 3 (sv (st (zL l i))),ps 5 (.opt 0 0),ps 6 (sv (st (zB ((iP (l.getD i qB)).take x.1)))),ps 13 (.ssl (qN l) 0 l.length),ps 14 (nv l.length),ps 15 (nv i),ps 38 (.ssl (zF (iP (l.getD i qB))) 0 ((iP (l.getD i qB)).length)),ps 39 (nv ((iP (l.getD i qB)).length)),ps 40 (nv x.1),pb 0 50 [(iv (iK (l.getD i qB))),(iv (iS (l.getD i qB))),(.ssl (zF (iP (l.getD i qB))) 0 ((iP (l.getD i qB)).length)),(iv ((iB (l.getD i qB)).1)),(iv ((iB (l.getD i qB)).2)),(sv (st (iL (l.getD i qB)))),(.ssl (qN (iC (l.getD i qB))) 0 ((iC (l.getD i qB)).length))]]) (fun x=>(iP (l.getD i qB)).length-x.1) 1 ⟨0,Nat.zero_le _⟩ (Wk.ren2 _ 0 hc0 [32] rfl rfl (by kernel_rfl) (by kernel_rfl)) ?_
    rintro ⟨k,hk⟩
    refine qA<|qj mxd [] [ps 3 (sv (st (zL l i))),ps 5 (.opt 0 0),ps 6 (sv (st (zB ((iP (l.getD i qB)).take k)))),ps 13 (.ssl (qN l) 0 l.length),ps 14 (nv l.length),ps 15 (nv i),ps 38 (.ssl (zF (iP (l.getD i qB))) 0 ((iP (l.getD i qB)).length)),ps 39 (nv ((iP (l.getD i qB)).length)),ps 40 (nv k),ps 41 (bv (decide (((k:Nat):Int)<(((iP (l.getD i qB)).length:Nat):Int)))),pb 0 50 [(iv (iK (l.getD i qB))),(iv (iS (l.getD i qB))),(.ssl (zF (iP (l.getD i qB))) 0 ((iP (l.getD i qB)).length)),(iv ((iB (l.getD i qB)).1)),(iv ((iB (l.getD i qB)).2)),(sv (st (iL (l.getD i qB)))),(.ssl (qN (iC (l.getD i qB))) 0 ((iC (l.getD i qB)).length))]] (oz)<|qA ?_
    by_cases h12:(k:Int)<(((iP (l.getD i qB)).length:Nat):Int)
    ·refine qQ (zO h12)<|qE<|qA<|qU<|qA ?_
     have hpm:=preP_room (show k<(iP (l.getD i qB)).length from by omega)
     have hpn:=qfa (show k<(iP (l.getD i qB)).length from by omega)
     have hpp:=qfb (iP (l.getD i qB)) k
     have hpt:(vk ((iP (l.getD i qB)).getD k zT).1 ((iP (l.getD i qB)).getD k zT).2.1 ((iP (l.getD i qB)).getD k zT).2.2).1=wX ((iP (l.getD i qB)).getD k zT):=rfl
     have hpt2:=congrArg List.length hpt
     refine zX mxd [(1,.nat (k*3)),(2,.cells [(iv (((iP (l.getD i qB)).getD k zT).1)),(iv (((iP (l.getD i qB)).getD k zT).2.1)),(iv (((iP (l.getD i qB)).getD k zT).2.2))])] [.k3,.n,.n,.k6,.d,.k1,.n] [ps 7 (nv k),ps 8 (.opt 33 0),pb 33 52 [(iv (((iP (l.getD i qB)).getD k zT).1)),(iv (((iP (l.getD i qB)).getD k zT).2.1)),(iv (((iP (l.getD i qB)).getD k zT).2.2))]] (oc (by omega:(0:Int)≤(k:Int)∧(k:Int)<(((iP (l.getD i qB)).length:Nat):Int)) (oc (by omega:0+(((k:Nat):Int):Int).toNat*3=(k*3)) (oc (yF ptC 3 (fun _=>rfl) zT (iP (l.getD i qB)) k 0 3 (by omega) (by decide):(k*3)+3≤((zF (iP (l.getD i qB)))).length∧(((zF (iP (l.getD i qB)))).drop (k*3)).take 3=[(iv (((iP (l.getD i qB)).getD k zT).1)),(iv (((iP (l.getD i qB)).getD k zT).2.1)),(iv (((iP (l.getD i qB)).getD k zT).2.2))]) oz))) ?_
     refine qA<|qA<|qK mxd [.k3,.d,.k7,.n,.r] [ps 46 (bv (decide (0<(k:Int))))]<|T_f1 97 [ps 3 (sv (st (zL l i))),ps 5 (.opt 0 0),ps 6 (sv (st (preP (iP (l.getD i qB)) k))),ps 8 (.opt 33 0),ps 13 (.ssl (qN l) 0 l.length),ps 14 (nv l.length),ps 15 (nv i),ps 38 (.ssl (zF (iP (l.getD i qB))) 0 ((iP (l.getD i qB)).length)),ps 39 (nv ((iP (l.getD i qB)).length)),ps 40 (nv k),pb 0 50 [(iv (iK (l.getD i qB))),(iv (iS (l.getD i qB))),(.ssl (zF (iP (l.getD i qB))) 0 ((iP (l.getD i qB)).length)),(iv ((iB (l.getD i qB)).1)),(iv ((iB (l.getD i qB)).2)),(sv (st (iL (l.getD i qB)))),(.ssl (qN (iC (l.getD i qB))) 0 ((iC (l.getD i qB)).length))],pb 33 52 [(iv (((iP (l.getD i qB)).getD k zT).1)),(iv (((iP (l.getD i qB)).getD k zT).2.1)),(iv (((iP (l.getD i qB)).getD k zT).2.2))]] ?_ fun hk6=>?_
     ·refine qA<|ZE mxd 1 [ps 3 (sv (st (zL l i))),ps 5 (.opt 0 0),ps 6 (sv (st (preP (iP (l.getD i qB)) k))),ps 9 (sv (st ((vk (((iP (l.getD i qB)).getD k zT).1) (((iP (l.getD i qB)).getD k zT).2.1) (((iP (l.getD i qB)).getD k zT).2.2)).1))),ps 13 (.ssl (qN l) 0 l.length),ps 14 (nv l.length),ps 15 (nv i),ps 38 (.ssl (zF (iP (l.getD i qB))) 0 ((iP (l.getD i qB)).length)),ps 39 (nv ((iP (l.getD i qB)).length)),ps 40 (nv k),pb 0 50 [(iv (iK (l.getD i qB))),(iv (iS (l.getD i qB))),(.ssl (zF (iP (l.getD i qB))) 0 ((iP (l.getD i qB)).length)),(iv ((iB (l.getD i qB)).1)),(iv ((iB (l.getD i qB)).2)),(sv (st (iL (l.getD i qB)))),(.ssl (qN (iC (l.getD i qB))) 0 ((iC (l.getD i qB)).length))]] (yC 105 (qjb (((iP (l.getD i qB)).getD k zT).1) (((iP (l.getD i qB)).getD k zT).2.1) (((iP (l.getD i qB)).getD k zT).2.2) (hw1 k (by omega))) oz)<|zX mxd [(2,.val (.av (.string (st ((preP (iP (l.getD i qB)) k)++((vk (((iP (l.getD i qB)).getD k zT).1) (((iP (l.getD i qB)).getD k zT).2.1) (((iP (l.getD i qB)).getD k zT).2.2)).1))))))] [.k2,.d,.n,.d,.r] [ps 6 (sv (st ((preP (iP (l.getD i qB)) k)++((vk (((iP (l.getD i qB)).getD k zT).1) (((iP (l.getD i qB)).getD k zT).2.1) (((iP (l.getD i qB)).getD k zT).2.2)).1))))] (oc (by first|omega|(simp only [List.length_append,List.length_cons,List.length_nil];omega):(((preP (iP (l.getD i qB)) k).length+((vk (((iP (l.getD i qB)).getD k zT).1) (((iP (l.getD i qB)).getD k zT).2.1) (((iP (l.getD i qB)).getD k zT).2.2)).1).length:Nat):Int)≤9223372036854775807) (oc (qJ _ _:st (preP (iP (l.getD i qB)) k)++st ((vk (((iP (l.getD i qB)).getD k zT).1) (((iP (l.getD i qB)).getD k zT).2.1) (((iP (l.getD i qB)).getD k zT).2.2)).1)=st ((preP (iP (l.getD i qB)) k)++((vk (((iP (l.getD i qB)).getD k zT).1) (((iP (l.getD i qB)).getD k zT).2.1) (((iP (l.getD i qB)).getD k zT).2.2)).1))) oz))<|zE<|zX mxd [] [.k8,.d,.n,.r] [ps 40 (iv (((k:Nat):Int)+1))] (oi (((k:Nat):Int)+1) (by omega) oz) ?_
      exact zQ ⟨k+1,by show k+1≤(iP (l.getD i qB)).length;omega⟩ (Wk.trans (Wk.eq (show _=[ps 3 (sv (st (zL l i))),ps 5 (.opt 0 0),ps 6 (sv (st (zB ((iP (l.getD i qB)).take (k+1))))),ps 13 (.ssl (qN l) 0 l.length),ps 14 (nv l.length),ps 15 (nv i),ps 38 (.ssl (zF (iP (l.getD i qB))) 0 ((iP (l.getD i qB)).length)),ps 39 (nv ((iP (l.getD i qB)).length)),ps 40 (nv (k+1)),pb 0 50 [(iv (iK (l.getD i qB))),(iv (iS (l.getD i qB))),(.ssl (zF (iP (l.getD i qB))) 0 ((iP (l.getD i qB)).length)),(iv ((iB (l.getD i qB)).1)),(iv ((iB (l.getD i qB)).2)),(sv (st (iL (l.getD i qB)))),(.ssl (qN (iC (l.getD i qB))) 0 ((iC (l.getD i qB)).length))]] from by rw [qhf (show k<(iP (l.getD i qB)).length from by omega)];rfl)) (Wk.ren2 _ 0 hc0 [0] rfl rfl (by kernel_rfl) (by kernel_rfl))) (show (iP (l.getD i qB)).length-(k+1)<(iP (l.getD i qB)).length-k from by show (iP (l.getD i qB)).length-(k+1)<(iP (l.getD i qB)).length-k;omega)
     by_cases h13:0<(k:Int)
     ·refine qQ (zO h13) ?_
      have hpn2:=hpn.1
      rw [if_neg (show ¬ k=0 from by omega)] at hpn2
      refine zX mxd [(1,.val (.av (.string (st ((zB ((iP (l.getD i qB)).take k))++([32]:TX))))))] [.k2,.d,.n,.k7,.d,.r] [ps 6 (sv (st ((zB ((iP (l.getD i qB)).take k))++([32]:TX))))] (oc (by first|omega|(simp only [List.length_append,List.length_cons,List.length_nil];omega):(((zB ((iP (l.getD i qB)).take k)).length+([32]:TX).length:Nat):Int)≤9223372036854775807) (oc (qJ _ _:st (zB ((iP (l.getD i qB)).take k))++st ([32]:TX)=st ((zB ((iP (l.getD i qB)).take k))++([32]:TX))) oz))<|qX (Wk.eq (show _=[ps 3 (sv (st (zL l i))),ps 5 (.opt 0 0),ps 6 (sv (st (preP (iP (l.getD i qB)) k))),ps 8 (.opt 33 0),ps 13 (.ssl (qN l) 0 l.length),ps 14 (nv l.length),ps 15 (nv i),ps 38 (.ssl (zF (iP (l.getD i qB))) 0 ((iP (l.getD i qB)).length)),ps 39 (nv ((iP (l.getD i qB)).length)),ps 40 (nv k),pb 0 50 [(iv (iK (l.getD i qB))),(iv (iS (l.getD i qB))),(.ssl (zF (iP (l.getD i qB))) 0 ((iP (l.getD i qB)).length)),(iv ((iB (l.getD i qB)).1)),(iv ((iB (l.getD i qB)).2)),(sv (st (iL (l.getD i qB)))),(.ssl (qN (iC (l.getD i qB))) 0 ((iC (l.getD i qB)).length))],pb 33 52 [(iv (((iP (l.getD i qB)).getD k zT).1)),(iv (((iP (l.getD i qB)).getD k zT).2.1)),(iv (((iP (l.getD i qB)).getD k zT).2.2))]] from by rw [preP_p (show ¬ k=0 from by omega)])) ?_
      exact vD hk6
     refine qT (zM h13)<|qE<|qX (Wk.eq (show _=[ps 3 (sv (st (zL l i))),ps 5 (.opt 0 0),ps 6 (sv (st (preP (iP (l.getD i qB)) k))),ps 8 (.opt 33 0),ps 13 (.ssl (qN l) 0 l.length),ps 14 (nv l.length),ps 15 (nv i),ps 38 (.ssl (zF (iP (l.getD i qB))) 0 ((iP (l.getD i qB)).length)),ps 39 (nv ((iP (l.getD i qB)).length)),ps 40 (nv k),ps 46 (bv (decide (0<(k:Int)))),pb 0 50 [(iv (iK (l.getD i qB))),(iv (iS (l.getD i qB))),(.ssl (zF (iP (l.getD i qB))) 0 ((iP (l.getD i qB)).length)),(iv ((iB (l.getD i qB)).1)),(iv ((iB (l.getD i qB)).2)),(sv (st (iL (l.getD i qB)))),(.ssl (qN (iC (l.getD i qB))) 0 ((iC (l.getD i qB)).length))],pb 33 52 [(iv (((iP (l.getD i qB)).getD k zT).1)),(iv (((iP (l.getD i qB)).getD k zT).2.1)),(iv (((iP (l.getD i qB)).getD k zT).2.2))]] from by rw [preP_0 (show k=0 from by omega)])) ?_
     exact vD hk6
    refine qT (zM h12)<|zR rfl rfl<|qA<|qA<|qX (Wk.eq (show _=[ps 3 (sv (st (zL l i))),ps 5 (.opt 0 0),ps 6 (sv (st (zB (iP (l.getD i qB))))),ps 13 (.ssl (qN l) 0 l.length),ps 14 (nv l.length),ps 15 (nv i),ps 38 (.ssl (zF (iP (l.getD i qB))) 0 ((iP (l.getD i qB)).length)),ps 39 (nv ((iP (l.getD i qB)).length)),ps 40 (nv k),ps 41 (bv (decide (((k:Nat):Int)<(((iP (l.getD i qB)).length:Nat):Int)))),pb 0 50 [(iv (iK (l.getD i qB))),(iv (iS (l.getD i qB))),(.ssl (zF (iP (l.getD i qB))) 0 ((iP (l.getD i qB)).length)),(iv ((iB (l.getD i qB)).1)),(iv ((iB (l.getD i qB)).2)),(sv (st (iL (l.getD i qB)))),(.ssl (qN (iC (l.getD i qB))) 0 ((iC (l.getD i qB)).length))]] from by rw [List.take_of_length_le (show (iP (l.getD i qB)).length≤k from by omega)])) ?_
    refine qK mxd [.k6,.d,.d,.d,.d,.n,.r] [ps 61 (bv (decide (1<(((iP (l.getD i qB)).length:Nat):Int))))]<|T_f1 73 [ps 3 (sv (st (zL l i))),ps 5 (.opt 0 0),ps 6 (sv (st (Qv (iP (l.getD i qB))))),ps 13 (.ssl (qN l) 0 l.length),ps 14 (nv l.length),ps 15 (nv i),pb 0 50 [(iv (iK (l.getD i qB))),(iv (iS (l.getD i qB))),(.ssl (zF (iP (l.getD i qB))) 0 ((iP (l.getD i qB)).length)),(iv ((iB (l.getD i qB)).1)),(iv ((iB (l.getD i qB)).2)),(sv (st (iL (l.getD i qB)))),(.ssl (qN (iC (l.getD i qB))) 0 ((iC (l.getD i qB)).length))]] ?_ fun hk3=>?_
    ·refine qj mxd [(2,.val (.av (.string (st ((zL l i)++(Qv (iP (l.getD i qB))))))))] [ps 3 (sv (st ((zL l i)++(Qv (iP (l.getD i qB)))))),ps 5 (.opt 0 0),ps 13 (.ssl (qN l) 0 l.length),ps 14 (nv l.length),ps 15 (nv i),pb 0 50 [(iv (iK (l.getD i qB))),(iv (iS (l.getD i qB))),(.ssl (zF (iP (l.getD i qB))) 0 ((iP (l.getD i qB)).length)),(iv ((iB (l.getD i qB)).1)),(iv ((iB (l.getD i qB)).2)),(sv (st (iL (l.getD i qB)))),(.ssl (qN (iC (l.getD i qB))) 0 ((iC (l.getD i qB)).length))]] (oc (by first|omega|(simp only [List.length_append,List.length_cons,List.length_nil];omega):(((zL l i).length+(Qv (iP (l.getD i qB))).length:Nat):Int)≤9223372036854775807) (oc (qJ _ _:st (zL l i)++st (Qv (iP (l.getD i qB)))=st ((zL l i)++(Qv (iP (l.getD i qB))))) oz))<|qX (Wk.eq (show _=[ps 3 (sv (st (zL l i++qD (l.getD i qB)))),ps 5 (.opt 0 0),ps 13 (.ssl (qN l) 0 l.length),ps 14 (nv l.length),ps 15 (nv i),pb 0 50 [(iv (iK (l.getD i qB))),(iv (iS (l.getD i qB))),(.ssl (zF (iP (l.getD i qB))) 0 ((iP (l.getD i qB)).length)),(iv ((iB (l.getD i qB)).1)),(iv ((iB (l.getD i qB)).2)),(sv (st (iL (l.getD i qB)))),(.ssl (qN (iC (l.getD i qB))) 0 ((iC (l.getD i qB)).length))]] from by rw [hM];try simp only [List.append_assoc,List.cons_append,List.nil_append])) ?_
     refine qA<|qA<|qK mxd [.k5,.n,.r] [ps 91 (bv (decide (1<(iS (l.getD i qB)))))]<|T_f1 185 [ps 3 (sv (st (zL l i++qD (l.getD i qB)++qH (iS (l.getD i qB))))),ps 5 (.opt 0 0),ps 13 (.ssl (qN l) 0 l.length),ps 14 (nv l.length),ps 15 (nv i),pb 0 50 [(iv (iK (l.getD i qB))),(iv (iS (l.getD i qB))),(.ssl (zF (iP (l.getD i qB))) 0 ((iP (l.getD i qB)).length)),(iv ((iB (l.getD i qB)).1)),(iv ((iB (l.getD i qB)).2)),(sv (st (iL (l.getD i qB)))),(.ssl (qN (iC (l.getD i qB))) 0 ((iC (l.getD i qB)).length))]] ?_ fun hk4=>?_
     ·refine qA<|qj mxd [(2,.val (.av (.bool (!decide ((iL (l.getD i qB))=([]:TX))))))] [ps 3 (sv (st (zL l i++qD (l.getD i qB)++qH (iS (l.getD i qB))))),ps 5 (.opt 0 0),ps 13 (.ssl (qN l) 0 l.length),ps 14 (nv l.length),ps 15 (nv i),ps 100 (bv (!(decide ((iL (l.getD i qB))=([]:TX))))),pb 0 50 [(iv (iK (l.getD i qB))),(iv (iS (l.getD i qB))),(.ssl (zF (iP (l.getD i qB))) 0 ((iP (l.getD i qB)).length)),(iv ((iB (l.getD i qB)).1)),(iv ((iB (l.getD i qB)).2)),(sv (st (iL (l.getD i qB)))),(.ssl (qN (iC (l.getD i qB))) 0 ((iC (l.getD i qB)).length))]] (oc (jA _ _:(!((st (iL (l.getD i qB))).toList == (st ([]:TX)).toList)) = !decide ((iL (l.getD i qB))=([]:TX))) oz) ?_
      by_cases h16:(iL (l.getD i qB))=([]:TX)
      ·refine qT (bt h16)<|qE<|zE<|qX (Wk.eq (show _=[ps 3 (sv (st (zL l i++zP (l.getD i qB)))),ps 5 (.opt 0 0),ps 13 (.ssl (qN l) 0 l.length),ps 14 (nv l.length),ps 15 (nv i),ps 100 (bv (!(decide ((iL (l.getD i qB))=([]:TX))))),pb 0 50 [(iv (iK (l.getD i qB))),(iv (iS (l.getD i qB))),(.ssl (zF (iP (l.getD i qB))) 0 ((iP (l.getD i qB)).length)),(iv ((iB (l.getD i qB)).1)),(iv ((iB (l.getD i qB)).2)),(sv (st (iL (l.getD i qB)))),(.ssl (qN (iC (l.getD i qB))) 0 ((iC (l.getD i qB)).length))]] from by rw [yU,show lyT (iL (l.getD i qB))=[] from if_pos (by assumption),List.append_nil,List.append_assoc])) ?_
       exact vD hk7
      refine qQ (bf h16) ?_
      have hY:lyT (iL (l.getD i qB))=[32,34]++iL (l.getD i qB)++[34]:=if_neg (by assumption)
      have hY2:=congrArg List.length hY
      simp only [List.length_append,List.length_cons,List.length_nil] at hY2
      refine zX mxd [(1,.val (.av (.string (st ((zL l i++qD (l.getD i qB)++qH (iS (l.getD i qB)))++([32,34]:TX)))))),(4,.val (.av (.string (st (((zL l i++qD (l.getD i qB)++qH (iS (l.getD i qB)))++([32,34]:TX))++(iL (l.getD i qB))))))),(5,.val (.av (.string (st ((((zL l i++qD (l.getD i qB)++qH (iS (l.getD i qB)))++([32,34]:TX))++(iL (l.getD i qB)))++([34]:TX))))))] [.d,.n,.d,.k3,.d,.d] [ps 3 (sv (st ((((zL l i++qD (l.getD i qB)++qH (iS (l.getD i qB)))++([32,34]:TX))++(iL (l.getD i qB)))++([34]:TX))))] (oc (by first|omega|(simp only [List.length_append,List.length_cons,List.length_nil];omega):(((zL l i++qD (l.getD i qB)++qH (iS (l.getD i qB))).length+([32,34]:TX).length:Nat):Int)≤9223372036854775807) (oc (qJ _ _:st (zL l i++qD (l.getD i qB)++qH (iS (l.getD i qB)))++st ([32,34]:TX)=st ((zL l i++qD (l.getD i qB)++qH (iS (l.getD i qB)))++([32,34]:TX))) (oc (by first|omega|(simp only [List.length_append,List.length_cons,List.length_nil];omega):((((zL l i++qD (l.getD i qB)++qH (iS (l.getD i qB)))++([32,34]:TX)).length+(iL (l.getD i qB)).length:Nat):Int)≤9223372036854775807) (oc (qJ _ _:st ((zL l i++qD (l.getD i qB)++qH (iS (l.getD i qB)))++([32,34]:TX))++st (iL (l.getD i qB))=st (((zL l i++qD (l.getD i qB)++qH (iS (l.getD i qB)))++([32,34]:TX))++(iL (l.getD i qB)))) (oc (by first|omega|(simp only [List.length_append,List.length_cons,List.length_nil];omega):(((((zL l i++qD (l.getD i qB)++qH (iS (l.getD i qB)))++([32,34]:TX))++(iL (l.getD i qB))).length+([34]:TX).length:Nat):Int)≤9223372036854775807) (oc (qJ _ _:st (((zL l i++qD (l.getD i qB)++qH (iS (l.getD i qB)))++([32,34]:TX))++(iL (l.getD i qB)))++st ([34]:TX)=st ((((zL l i++qD (l.getD i qB)++qH (iS (l.getD i qB)))++([32,34]:TX))++(iL (l.getD i qB)))++([34]:TX))) oz))))))<|zE<|qX (Wk.eq (show _=[ps 3 (sv (st (zL l i++zP (l.getD i qB)))),ps 13 (.ssl (qN l) 0 l.length),ps 14 (nv l.length),ps 15 (nv i)] from by rw [yU,hY];simp only [List.append_assoc])) ?_
      exact vD hk7
     by_cases h15:1<(iS (l.getD i qB))
     ·refine qQ (zO h15) ?_
      have hS:qH (iS (l.getD i qB))=[42]++Lib.itoa (iS (l.getD i qB)):=if_neg (by omega)
      have hS2:=congrArg List.length hS
      simp only [List.length_append,List.length_cons,List.length_nil] at hS2
      refine zX mxd [(1,.val (.av (.string (st ((zL l i++qD (l.getD i qB))++([42]:TX)))))),(4,.call [] [(iv (iS (l.getD i qB)))] [] (sv (st (Lib.itoa (iS (l.getD i qB))))) []),(5,.val (.av (.string (st (((zL l i++qD (l.getD i qB))++([42]:TX))++(Lib.itoa (iS (l.getD i qB))))))))] [.d,.n,.k4,.d,.r] [ps 3 (sv (st (((zL l i++qD (l.getD i qB))++([42]:TX))++(Lib.itoa (iS (l.getD i qB))))))] (oc (by first|omega|(simp only [List.length_append,List.length_cons,List.length_nil];omega):(((zL l i++qD (l.getD i qB)).length+([42]:TX).length:Nat):Int)≤9223372036854775807) (oc (qJ _ _:st (zL l i++qD (l.getD i qB))++st ([42]:TX)=st ((zL l i++qD (l.getD i qB))++([42]:TX))) (yC 161 (vU (iS (l.getD i qB)) (by omega) (by omega)) (oc (by first|omega|(simp only [List.length_append,List.length_cons,List.length_nil];omega):((((zL l i++qD (l.getD i qB))++([42]:TX)).length+(Lib.itoa (iS (l.getD i qB))).length:Nat):Int)≤9223372036854775807) (oc (qJ _ _:st ((zL l i++qD (l.getD i qB))++([42]:TX))++st (Lib.itoa (iS (l.getD i qB)))=st (((zL l i++qD (l.getD i qB))++([42]:TX))++(Lib.itoa (iS (l.getD i qB))))) oz)))))<|qX (Wk.eq (show _=[ps 3 (sv (st (zL l i++qD (l.getD i qB)++qH (iS (l.getD i qB))))),ps 5 (.opt 0 0),ps 13 (.ssl (qN l) 0 l.length),ps 14 (nv l.length),ps 15 (nv i),pb 0 50 [(iv (iK (l.getD i qB))),(iv (iS (l.getD i qB))),(.ssl (zF (iP (l.getD i qB))) 0 ((iP (l.getD i qB)).length)),(iv ((iB (l.getD i qB)).1)),(iv ((iB (l.getD i qB)).2)),(sv (st (iL (l.getD i qB)))),(.ssl (qN (iC (l.getD i qB))) 0 ((iC (l.getD i qB)).length))]] from by rw [hS];simp only [List.append_assoc])) ?_
      exact vD hk4
     refine qT (zM h15)<|qE<|qX (Wk.eq (show _=[ps 3 (sv (st (zL l i++qD (l.getD i qB)++qH (iS (l.getD i qB))))),ps 5 (.opt 0 0),ps 13 (.ssl (qN l) 0 l.length),ps 14 (nv l.length),ps 15 (nv i),ps 91 (bv (decide (1<(iS (l.getD i qB))))),pb 0 50 [(iv (iK (l.getD i qB))),(iv (iS (l.getD i qB))),(.ssl (zF (iP (l.getD i qB))) 0 ((iP (l.getD i qB)).length)),(iv ((iB (l.getD i qB)).1)),(iv ((iB (l.getD i qB)).2)),(sv (st (iL (l.getD i qB)))),(.ssl (qN (iC (l.getD i qB))) 0 ((iC (l.getD i qB)).length))]] from by rw [show qH (iS (l.getD i qB))=[] from if_pos (by omega),List.append_nil])) ?_
     exact vD hk4
    by_cases h14:1<(((iP (l.getD i qB)).length:Nat):Int)
    ·refine qQ (zO h14) ?_
     rw [if_pos (show 1<(iP (l.getD i qB)).length from by omega)] at hcl
     refine zX mxd [(1,.val (.av (.string (st (([60]:TX)++(zB (iP (l.getD i qB)))))))),(2,.val (.av (.string (st ((([60]:TX)++(zB (iP (l.getD i qB))))++([62]:TX))))))] [.k2,.d,.n,.k3,.d,.r] [ps 6 (sv (st ((([60]:TX)++(zB (iP (l.getD i qB))))++([62]:TX))))] (oc (by first|omega|(simp only [List.length_append,List.length_cons,List.length_nil];omega):((([60]:TX).length+(zB (iP (l.getD i qB))).length:Nat):Int)≤9223372036854775807) (oc (qJ _ _:st ([60]:TX)++st (zB (iP (l.getD i qB)))=st (([60]:TX)++(zB (iP (l.getD i qB))))) (oc (by first|omega|(simp only [List.length_append,List.length_cons,List.length_nil];omega):(((([60]:TX)++(zB (iP (l.getD i qB)))).length+([62]:TX).length:Nat):Int)≤9223372036854775807) (oc (qJ _ _:st (([60]:TX)++(zB (iP (l.getD i qB))))++st ([62]:TX)=st ((([60]:TX)++(zB (iP (l.getD i qB))))++([62]:TX))) oz))))<|qX (Wk.eq (show _=[ps 3 (sv (st (zL l i))),ps 5 (.opt 0 0),ps 6 (sv (st (Qv (iP (l.getD i qB))))),ps 13 (.ssl (qN l) 0 l.length),ps 14 (nv l.length),ps 15 (nv i),pb 0 50 [(iv (iK (l.getD i qB))),(iv (iS (l.getD i qB))),(.ssl (zF (iP (l.getD i qB))) 0 ((iP (l.getD i qB)).length)),(iv ((iB (l.getD i qB)).1)),(iv ((iB (l.getD i qB)).2)),(sv (st (iL (l.getD i qB)))),(.ssl (qN (iC (l.getD i qB))) 0 ((iC (l.getD i qB)).length))]] from by rw [show Qv (iP (l.getD i qB))=60 :: (zB (iP (l.getD i qB))++[62]) from if_pos (by omega)];rfl)) ?_
     exact vD hk3
    refine qT (zM h14)<|qE<|qX (Wk.eq (show _=[ps 3 (sv (st (zL l i))),ps 5 (.opt 0 0),ps 6 (sv (st (Qv (iP (l.getD i qB))))),ps 13 (.ssl (qN l) 0 l.length),ps 14 (nv l.length),ps 15 (nv i),ps 61 (bv (decide (1<(((iP (l.getD i qB)).length:Nat):Int)))),pb 0 50 [(iv (iK (l.getD i qB))),(iv (iS (l.getD i qB))),(.ssl (zF (iP (l.getD i qB))) 0 ((iP (l.getD i qB)).length)),(iv ((iB (l.getD i qB)).1)),(iv ((iB (l.getD i qB)).2)),(sv (st (iL (l.getD i qB)))),(.ssl (qN (iC (l.getD i qB))) 0 ((iC (l.getD i qB)).length))]] from by rw [show Qv (iP (l.getD i qB))=zB (iP (l.getD i qB)) from if_neg (by omega)])) ?_
    exact vD hk3
   refine qT (zM h11)<|qA<|qA<|qK mxd [.k5,.d,.n,.r] [ps 70 (bv (decide ((iK (l.getD i qB))=5)))] ?_
   by_cases h21:(iK (l.getD i qB))=5
   ·refine qQ (zO h21)<|qA ?_
    have hM:qD (l.getD i qB)=([117,112,32]++((qW (iB (l.getD i qB)).1 (iB (l.getD i qB)).2).1++[32]))++(91 :: (qZ (iC (l.getD i qB))++[93])):=by unfold qD upT;rw [if_neg (show ¬ iK (l.getD i qB)=2 from by omega),if_neg (show ¬ iK (l.getD i qB)=3 from by omega),if_neg (show ¬ iK (l.getD i qB)=1 from by omega),if_pos (show iK (l.getD i qB)=5 from by omega)]
    have hM2:=congrArg List.length hM
    try simp only [List.length_append,List.length_cons,List.length_nil] at hM2
    refine vJ mxd 2 [.k2,.n,.k3,.d,.r] [ps 11 (sv (st ((qW ((iB (l.getD i qB)).1) ((iB (l.getD i qB)).2)).1)))] (yC 208 (VO (iB (l.getD i qB)).1 (iB (l.getD i qB)).2) oz)<|zX mxd [(1,.val (.av (.string (st ((zL l i)++([117,112,32]:TX)))))),(3,.val (.av (.string (st (((zL l i)++([117,112,32]:TX))++((qW ((iB (l.getD i qB)).1) ((iB (l.getD i qB)).2)).1)))))),(4,.val (.av (.string (st ((((zL l i)++([117,112,32]:TX))++((qW ((iB (l.getD i qB)).1) ((iB (l.getD i qB)).2)).1))++([32]:TX))))))] [.d,.n,.k1,.d,.r] [ps 3 (sv (st ((((zL l i)++([117,112,32]:TX))++((qW ((iB (l.getD i qB)).1) ((iB (l.getD i qB)).2)).1))++([32]:TX))))] (oc (by first|omega|(simp <;> omega):(((zL l i).length+([117,112,32]:TX).length:Nat):Int)≤9223372036854775807) (oc (qJ _ _:st (zL l i)++st ([117,112,32]:TX)=st ((zL l i)++([117,112,32]:TX))) (oc (by first|omega|(simp only [List.length_append,List.length_cons,List.length_nil];omega):((((zL l i)++([117,112,32]:TX)).length+((qW ((iB (l.getD i qB)).1) ((iB (l.getD i qB)).2)).1).length:Nat):Int)≤9223372036854775807) (oc (qJ _ _:st ((zL l i)++([117,112,32]:TX))++st ((qW ((iB (l.getD i qB)).1) ((iB (l.getD i qB)).2)).1)=st (((zL l i)++([117,112,32]:TX))++((qW ((iB (l.getD i qB)).1) ((iB (l.getD i qB)).2)).1))) (oc (by first|omega|(simp only [List.length_append,List.length_cons,List.length_nil];omega):(((((zL l i)++([117,112,32]:TX))++((qW ((iB (l.getD i qB)).1) ((iB (l.getD i qB)).2)).1)).length+([32]:TX).length:Nat):Int)≤9223372036854775807) (oc (qJ _ _:st (((zL l i)++([117,112,32]:TX))++((qW ((iB (l.getD i qB)).1) ((iB (l.getD i qB)).2)).1))++st ([32]:TX)=st ((((zL l i)++([117,112,32]:TX))++((qW ((iB (l.getD i qB)).1) ((iB (l.getD i qB)).2)).1))++([32]:TX))) oz))))))<|zX mxd [(1,.val (.av (.string (st (((((zL l i)++([117,112,32]:TX))++((qW ((iB (l.getD i qB)).1) ((iB (l.getD i qB)).2)).1))++([32]:TX))++([91]:TX)))))),(4,.call [] [(.ssl (qN (iC (l.getD i qB))) 0 ((iC (l.getD i qB)).length))] [] (sv (st (qZ (iC (l.getD i qB))))) []),(5,.val (.av (.string (st ((((((zL l i)++([117,112,32]:TX))++((qW ((iB (l.getD i qB)).1) ((iB (l.getD i qB)).2)).1))++([32]:TX))++([91]:TX))++(qZ (iC (l.getD i qB)))))))),(6,.val (.av (.string (st (((((((zL l i)++([117,112,32]:TX))++((qW ((iB (l.getD i qB)).1) ((iB (l.getD i qB)).2)).1))++([32]:TX))++([91]:TX))++(qZ (iC (l.getD i qB))))++([93]:TX))))))] [.d,.n,.r] [ps 3 (sv (st (((((((zL l i)++([117,112,32]:TX))++((qW ((iB (l.getD i qB)).1) ((iB (l.getD i qB)).2)).1))++([32]:TX))++([91]:TX))++(qZ (iC (l.getD i qB))))++([93]:TX))))] (oc (by first|omega|(simp only [List.length_append,List.length_cons,List.length_nil];omega):((((((zL l i)++([117,112,32]:TX))++((qW ((iB (l.getD i qB)).1) ((iB (l.getD i qB)).2)).1))++([32]:TX)).length+([91]:TX).length:Nat):Int)≤9223372036854775807) (oc (qJ _ _:st ((((zL l i)++([117,112,32]:TX))++((qW ((iB (l.getD i qB)).1) ((iB (l.getD i qB)).2)).1))++([32]:TX))++st ([91]:TX)=st (((((zL l i)++([117,112,32]:TX))++((qW ((iB (l.getD i qB)).1) ((iB (l.getD i qB)).2)).1))++([32]:TX))++([91]:TX))) (yC 336 (ih (iC (l.getD i qB)) (Nat.lt_trans (wZ (l.getD i qB)) (qaa (by omega))) (by omega) hx5 hw2 hx4 hpr.2.1) (oc (by first|omega|(simp only [List.length_append,List.length_cons,List.length_nil];omega):(((((((zL l i)++([117,112,32]:TX))++((qW ((iB (l.getD i qB)).1) ((iB (l.getD i qB)).2)).1))++([32]:TX))++([91]:TX)).length+(qZ (iC (l.getD i qB))).length:Nat):Int)≤9223372036854775807) (oc (qJ _ _:st (((((zL l i)++([117,112,32]:TX))++((qW ((iB (l.getD i qB)).1) ((iB (l.getD i qB)).2)).1))++([32]:TX))++([91]:TX))++st (qZ (iC (l.getD i qB)))=st ((((((zL l i)++([117,112,32]:TX))++((qW ((iB (l.getD i qB)).1) ((iB (l.getD i qB)).2)).1))++([32]:TX))++([91]:TX))++(qZ (iC (l.getD i qB))))) (oc (by first|omega|(simp only [List.length_append,List.length_cons,List.length_nil];omega):((((((((zL l i)++([117,112,32]:TX))++((qW ((iB (l.getD i qB)).1) ((iB (l.getD i qB)).2)).1))++([32]:TX))++([91]:TX))++(qZ (iC (l.getD i qB)))).length+([93]:TX).length:Nat):Int)≤9223372036854775807) (oc (qJ _ _:st ((((((zL l i)++([117,112,32]:TX))++((qW ((iB (l.getD i qB)).1) ((iB (l.getD i qB)).2)).1))++([32]:TX))++([91]:TX))++(qZ (iC (l.getD i qB))))++st ([93]:TX)=st (((((((zL l i)++([117,112,32]:TX))++((qW ((iB (l.getD i qB)).1) ((iB (l.getD i qB)).2)).1))++([32]:TX))++([91]:TX))++(qZ (iC (l.getD i qB))))++([93]:TX))) oz)))))))<|qX (Wk.eq (show _=[ps 3 (sv (st (zL l i++qD (l.getD i qB)))),ps 5 (.opt 32 0),ps 13 (.ssl (qN l) 0 l.length),ps 14 (nv l.length),ps 15 (nv i),pb 32 50 [(iv (iK (l.getD i qB))),(iv (iS (l.getD i qB))),(.ssl (zF (iP (l.getD i qB))) 0 ((iP (l.getD i qB)).length)),(iv ((iB (l.getD i qB)).1)),(iv ((iB (l.getD i qB)).2)),(sv (st (iL (l.getD i qB)))),(.ssl (qN (iC (l.getD i qB))) 0 ((iC (l.getD i qB)).length))]] from by rw [hM];try simp only [List.append_assoc,List.cons_append,List.nil_append])) ?_
    exact vD hk2
   refine qT (zM h21)<|qE ?_
   have hM:qD (l.getD i qB)=(91 :: (qZ (iC (l.getD i qB))++[93])):=by unfold qD upT;rw [if_neg (show ¬ iK (l.getD i qB)=2 from by omega),if_neg (show ¬ iK (l.getD i qB)=3 from by omega),if_neg (show ¬ iK (l.getD i qB)=1 from by omega),if_neg (show ¬ iK (l.getD i qB)=5 from by omega)];rfl
   have hM2:=congrArg List.length hM
   try simp only [List.length_append,List.length_cons,List.length_nil] at hM2
   refine zX mxd [(1,.val (.av (.string (st ((zL l i)++([91]:TX)))))),(4,.call [] [(.ssl (qN (iC (l.getD i qB))) 0 ((iC (l.getD i qB)).length))] [] (sv (st (qZ (iC (l.getD i qB))))) []),(5,.val (.av (.string (st (((zL l i)++([91]:TX))++(qZ (iC (l.getD i qB)))))))),(6,.val (.av (.string (st ((((zL l i)++([91]:TX))++(qZ (iC (l.getD i qB))))++([93]:TX))))))] [.d,.n,.k4,.d,.r] [ps 3 (sv (st ((((zL l i)++([91]:TX))++(qZ (iC (l.getD i qB))))++([93]:TX))))] (oc (by first|omega|(simp <;> omega):(((zL l i).length+([91]:TX).length:Nat):Int)≤9223372036854775807) (oc (qJ _ _:st (zL l i)++st ([91]:TX)=st ((zL l i)++([91]:TX))) (yC 224 (ih (iC (l.getD i qB)) (Nat.lt_trans (wZ (l.getD i qB)) (qaa (by omega))) (by omega) hx5 hw2 hx4 hpr.2.1) (oc (by first|omega|(simp only [List.length_append,List.length_cons,List.length_nil];omega):((((zL l i)++([91]:TX)).length+(qZ (iC (l.getD i qB))).length:Nat):Int)≤9223372036854775807) (oc (qJ _ _:st ((zL l i)++([91]:TX))++st (qZ (iC (l.getD i qB)))=st (((zL l i)++([91]:TX))++(qZ (iC (l.getD i qB))))) (oc (by first|omega|(simp only [List.length_append,List.length_cons,List.length_nil];omega):(((((zL l i)++([91]:TX))++(qZ (iC (l.getD i qB)))).length+([93]:TX).length:Nat):Int)≤9223372036854775807) (oc (qJ _ _:st (((zL l i)++([91]:TX))++(qZ (iC (l.getD i qB))))++st ([93]:TX)=st ((((zL l i)++([91]:TX))++(qZ (iC (l.getD i qB))))++([93]:TX))) oz)))))))<|qX (Wk.eq (show _=[ps 3 (sv (st (zL l i++qD (l.getD i qB)))),ps 5 (.opt 32 0),ps 13 (.ssl (qN l) 0 l.length),ps 14 (nv l.length),ps 15 (nv i),pb 32 50 [(iv (iK (l.getD i qB))),(iv (iS (l.getD i qB))),(.ssl (zF (iP (l.getD i qB))) 0 ((iP (l.getD i qB)).length)),(iv ((iB (l.getD i qB)).1)),(iv ((iB (l.getD i qB)).2)),(sv (st (iL (l.getD i qB)))),(.ssl (qN (iC (l.getD i qB))) 0 ((iC (l.getD i qB)).length))]] from by rw [hM];try simp only [List.append_assoc,List.cons_append,List.nil_append])) ?_
   exact vD hk2
  by_cases h2:0<(i:Int)
  ·refine qQ (zO h2) ?_
   have hrn2:=hrn.1
   rw [if_neg (show ¬ i=0 from by omega)] at hrn2
   refine zX mxd [(1,.val (.av (.string (st ((qZ (l.take i))++([32]:TX))))))] [.d,.n,.k4,.d,.r] [ps 3 (sv (st ((qZ (l.take i))++([32]:TX))))] (oc (by first|omega|(simp <;> omega):(((qZ (l.take i)).length+([32]:TX).length:Nat):Int)≤9223372036854775807) (oc (qJ _ _:st (qZ (l.take i))++st ([32]:TX)=st ((qZ (l.take i))++([32]:TX))) oz))<|qX (Wk.eq (show _=[ps 3 (sv (st (zL l i))),ps 5 (.opt 32 0),ps 13 (.ssl (qN l) 0 l.length),ps 14 (nv l.length),ps 15 (nv i),pb 32 50 [(iv (iK (l.getD i qB))),(iv (iS (l.getD i qB))),(.ssl (zF (iP (l.getD i qB))) 0 ((iP (l.getD i qB)).length)),(iv ((iB (l.getD i qB)).1)),(iv ((iB (l.getD i qB)).2)),(sv (st (iL (l.getD i qB)))),(.ssl (qN (iC (l.getD i qB))) 0 ((iC (l.getD i qB)).length))]] from by rw [preT_p (show ¬ i=0 from by omega)])) ?_
   exact vD hk1
  refine qT (zM h2)<|qE<|qX (Wk.eq (show _=[ps 3 (sv (st (zL l i))),ps 5 (.opt 32 0),ps 13 (.ssl (qN l) 0 l.length),ps 14 (nv l.length),ps 15 (nv i),ps 21 (bv (decide (0<(i:Int)))),pb 32 50 [(iv (iK (l.getD i qB))),(iv (iS (l.getD i qB))),(.ssl (zF (iP (l.getD i qB))) 0 ((iP (l.getD i qB)).length)),(iv ((iB (l.getD i qB)).1)),(iv ((iB (l.getD i qB)).2)),(sv (st (iL (l.getD i qB)))),(.ssl (qN (iC (l.getD i qB))) 0 ((iC (l.getD i qB)).length))]] from by rw [preT_0 (show i=0 from by omega)])) ?_
  exact vD hk1
 refine qT (zM h1)<|zR rfl rfl<|qA<|qj mxd [] [ps 2 (sv (st (qZ (l.take i))))] (oz)<|qX (Wk.eq (show _=[ps 2 (sv (st (qZ l)))] from by rw [List.take_of_length_le (show l.length≤i from by omega)])) ?_
 exact zy hc0 [2] []
theorem text_all:∀ (m:Nat) (l:List It),SizeOf.sizeOf l<m→(qZ l).length≤140737488355328→wx l→wdL l→l.length≤1466015503658→prL l→PC Tryz.prog 34 [.ssl (qN l) 0 l.length] [] (sv (st (qZ l))) []
 | 0,_,h=>absurd h (Nat.not_lt_zero _)
 | m+1,l,h=>text_step l fun c hc=>text_all m c (by omega)
theorem text_pc (l:List It):(qZ l).length≤140737488355328→wx l→wdL l→l.length≤1466015503658→prL l→PC Tryz.prog 34 [.ssl (qN l) 0 l.length] [] (sv (st (qZ l))) []:=text_all _ l (Nat.lt_succ_self _)
theorem nprint_pc (l:List Vo) (hfv:qbz l) (hwv:wdVs l):PC Tryz.prog 11 [(.ssl (yI l) 0 l.length)] [] (.tup [(sv (st ((yw l).1))),(iv ((yw l).2))]) []:=by
 refine zH Tryz.func11 rfl (by kernel_rfl) (Nat.le_of_ble_eq_true rfl) (by kernel_rfl) (l0:=[ps 0 (.ssl (yI l) 0 l.length)]) rfl (fun c0 Bor hc0=>?_)
 refine qA<|qK mxd [.r] []<|qA<|qA<|vJ mxd 1 [.k1,.n] [ps 4 (iv (qv l))] (yC 24 (qcr l hfv hwv) oz)<|qA<|qK mxd [.k2,.n] [ps 13 (bv (!(decide ((qv l)=0))))] ?_
 by_cases h1:(qv l)=0
 ·refine qT (bt h1)<|qE<|qA<|qK mxd [.k1,.d,.n,.d] [ps 5 se]<|qA<|qA<|qK mxd [.d,.k1,.n,.n,.n] [ps 15 (.ssl (yI l) 0 l.length),ps 16 (nv l.length),ps 17 (iv 0)]<|qU ?_
  have hb:=pc_bound (show qv l=0 from by omega)
  obtain ⟨hp1,hp2⟩:=qfd (show qv l=0 from by omega)
  refine qX (Wk.eq (show _=[ps 5 (sv (st (zv (l.take 0)))),ps 15 (.ssl (yI l) 0 l.length),ps 16 (nv l.length),ps 17 (iv 0)] from by rw [List.take_zero];rfl)) ?_
  refine yB (α:={x:Nat // x≤l.length}) (fun x=>[ps 5 (sv (st (zv (l.take x.1)))),ps 15 (.ssl (yI l) 0 l.length),ps 16 (nv l.length),ps 17 (nv x.1)]) (fun x=>l.length-x.1) 0 ⟨0,Nat.zero_le _⟩ (Wk.ren2 _ 0 hc0 [] rfl rfl (by kernel_rfl) (by kernel_rfl)) ?_
  rintro ⟨i,hi⟩
  refine qA<|qj mxd [] [ps 5 (sv (st (zv (l.take i)))),ps 15 (.ssl (yI l) 0 l.length),ps 16 (nv l.length),ps 17 (nv i),ps 18 (bv (decide (((i:Nat):Int)<(l.length:Int))))] (oz)<|qA ?_
  by_cases h2:(i:Int)<(l.length:Int)
  ·refine qQ (zO h2)<|qE<|qA<|qU<|qA ?_
   have hvo:=hp2 _ (qbw (d:=qC) (show i<l.length from by omega))
   obtain ⟨hv1,hv2,hv3⟩:=qef hvo
   have hvf:=hfv.2 i (by omega)
   have hnl:=(of_decide_eq_true hv1).2.1
   have hrm:=vo_room (show i<l.length from by omega)
   have hvl:=congrArg List.length (qeg (l.getD i qC))
   simp only [List.length_append,List.length_cons,List.length_nil] at hvl
   refine zX mxd [(0,.nat (i*2)),(1,.cells [(sv (st ((l.getD i qC).1))),(.ssl (vE ((l.getD i qC).2)) 0 (((l.getD i qC).2).length))])] [.k1,.n,.k3,.d,.n] [ps 7 (.opt 24 0),pb 24 44 [(sv (st ((l.getD i qC).1))),(.ssl (vE ((l.getD i qC).2)) 0 (((l.getD i qC).2).length))]] (oc (by omega:(0:Int)≤(i:Int)∧(i:Int)<(l.length:Int)) (oc (by omega:0+(((i:Nat):Int):Int).toNat*2=(i*2)) (oc (yF voC 2 (fun _=>rfl) qC l i 0 2 (by omega) (by decide):(i*2)+2≤((yI l)).length∧(((yI l)).drop (i*2)).take 2=[(sv (st ((l.getD i qC).1))),(.ssl (vE ((l.getD i qC).2)) 0 (((l.getD i qC).2).length))]) oz))) ?_
   refine qA<|zX mxd [(1,.val (.av (.string (st ((zv (l.take i))++([118,111,105,99,101,32]:TX)))))),(4,.val (.av (.string (st (((zv (l.take i))++([118,111,105,99,101,32]:TX))++((l.getD i qC).1)))))),(5,.val (.av (.string (st ((((zv (l.take i))++([118,111,105,99,101,32]:TX))++((l.getD i qC).1))++([10]:TX))))))] [.d,.n,.r] [ps 5 (sv (st ((((zv (l.take i))++([118,111,105,99,101,32]:TX))++((l.getD i qC).1))++([10]:TX))))] (oc (by first|omega|(simp <;> omega):(((zv (l.take i)).length+([118,111,105,99,101,32]:TX).length:Nat):Int)≤9223372036854775807) (oc (qJ _ _:st (zv (l.take i))++st ([118,111,105,99,101,32]:TX)=st ((zv (l.take i))++([118,111,105,99,101,32]:TX))) (oc (by first|omega|(simp only [List.length_append,List.length_cons,List.length_nil];omega):((((zv (l.take i))++([118,111,105,99,101,32]:TX)).length+((l.getD i qC).1).length:Nat):Int)≤9223372036854775807) (oc (qJ _ _:st ((zv (l.take i))++([118,111,105,99,101,32]:TX))++st ((l.getD i qC).1)=st (((zv (l.take i))++([118,111,105,99,101,32]:TX))++((l.getD i qC).1))) (oc (by first|omega|(simp only [List.length_append,List.length_cons,List.length_nil];omega):(((((zv (l.take i))++([118,111,105,99,101,32]:TX))++((l.getD i qC).1)).length+([10]:TX).length:Nat):Int)≤9223372036854775807) (oc (qJ _ _:st (((zv (l.take i))++([118,111,105,99,101,32]:TX))++((l.getD i qC).1))++st ([10]:TX)=st ((((zv (l.take i))++([118,111,105,99,101,32]:TX))++((l.getD i qC).1))++([10]:TX))) oz))))))<|qA<|qK mxd [.k1,.d,.k3,.n,.n,.n,.d] [ps 28 (.ssl (vE ((l.getD i qC).2)) 0 (((l.getD i qC).2).length)),ps 29 (nv (((l.getD i qC).2).length)),ps 30 (iv 0)]<|qU<|qX (Wk.eq (show _=[ps 5 (sv (st (zv (l.take i)++[118,111,105,99,101,32]++(l.getD i qC).1++[10]++zW ((l.getD i qC).2.take 0)))),ps 15 (.ssl (yI l) 0 l.length),ps 16 (nv l.length),ps 17 (nv i),ps 28 (.ssl (vE ((l.getD i qC).2)) 0 (((l.getD i qC).2).length)),ps 29 (nv (((l.getD i qC).2).length)),ps 30 (iv 0)] from by rw [List.take_zero];rw [show zW []=[] from rfl,List.append_nil])) ?_
   refine yB (α:={x:Nat // x≤(l.getD i qC).2.length}) (fun x=>[ps 5 (sv (st (zv (l.take i)++[118,111,105,99,101,32]++(l.getD i qC).1++[10]++zW ((l.getD i qC).2.take x.1)))),ps 15 (.ssl (yI l) 0 l.length),ps 16 (nv l.length),ps 17 (nv i),ps 28 (.ssl (vE ((l.getD i qC).2)) 0 (((l.getD i qC).2).length)),ps 29 (nv (((l.getD i qC).2).length)),ps 30 (nv x.1)]) (fun x=>(l.getD i qC).2.length-x.1) 0 ⟨0,Nat.zero_le _⟩ (Wk.ren2 _ 0 hc0 [] rfl rfl (by kernel_rfl) (by kernel_rfl)) ?_
   rintro ⟨k,hk⟩
   refine qA<|qj mxd [] [ps 5 (sv (st (zv (l.take i)++[118,111,105,99,101,32]++(l.getD i qC).1++[10]++zW ((l.getD i qC).2.take k)))),ps 15 (.ssl (yI l) 0 l.length),ps 16 (nv l.length),ps 17 (nv i),ps 28 (.ssl (vE ((l.getD i qC).2)) 0 (((l.getD i qC).2).length)),ps 29 (nv (((l.getD i qC).2).length)),ps 30 (nv k),ps 31 (bv (decide (((k:Nat):Int)<((((l.getD i qC).2).length:Nat):Int))))] (oz)<|qA ?_
   by_cases h3:(k:Int)<((((l.getD i qC).2).length:Nat):Int)
   ·refine qQ (zO h3)<|qE<|qA<|qU<|qA ?_
    have hbo:=qko (hv3 _ (qbw (d:=zA) (show k<(l.getD i qC).2.length from by omega)))
    have hbf:=hvf.2.2 k (by omega)
    have hbr:=br_room (show k<(l.getD i qC).2.length from by omega)
    have hbl:=congrArg List.length (qgf ((l.getD i qC).2.getD k zA))
    simp only [List.length_append,List.length_cons,List.length_nil] at hbl
    refine zX mxd [(0,.nat (k*3)),(1,.cells [(iv ((((l.getD i qC).2).getD k zA).1)),(iv ((((l.getD i qC).2).getD k zA).2.1)),(.ssl (qN ((((l.getD i qC).2).getD k zA).2.2)) 0 (((((l.getD i qC).2).getD k zA).2.2).length))])] [.k1,.n,.k6,.d,.n] [ps 9 (.opt 24 0),pb 24 47 [(iv ((((l.getD i qC).2).getD k zA).1)),(iv ((((l.getD i qC).2).getD k zA).2.1)),(.ssl (qN ((((l.getD i qC).2).getD k zA).2.2)) 0 (((((l.getD i qC).2).getD k zA).2.2).length))]] (oc (by omega:(0:Int)≤(k:Int)∧(k:Int)<((((l.getD i qC).2).length:Nat):Int)) (oc (by omega:0+(((k:Nat):Int):Int).toNat*3=(k*3)) (oc (yF brC 3 (fun _=>rfl) zA ((l.getD i qC).2) k 0 3 (by omega) (by decide):(k*3)+3≤((vE ((l.getD i qC).2))).length∧(((vE ((l.getD i qC).2))).drop (k*3)).take 3=[(iv ((((l.getD i qC).2).getD k zA).1)),(iv ((((l.getD i qC).2).getD k zA).2.1)),(.ssl (qN ((((l.getD i qC).2).getD k zA).2.2)) 0 (((((l.getD i qC).2).getD k zA).2.2).length))]) oz))) ?_
    refine QJ mxd [(1,.val (.av (.string (st ((zv (l.take i)++[118,111,105,99,101,32]++(l.getD i qC).1++[10]++zW ((l.getD i qC).2.take k))++([124,32]:TX)))))),(4,.call [] [(iv ((((l.getD i qC).2).getD k zA).1))] [] (sv (st (Lib.itoa ((((l.getD i qC).2).getD k zA).1)))) []),(5,.val (.av (.string (st (((zv (l.take i)++[118,111,105,99,101,32]++(l.getD i qC).1++[10]++zW ((l.getD i qC).2.take k))++([124,32]:TX))++(Lib.itoa ((((l.getD i qC).2).getD k zA).1))))))),(6,.val (.av (.string (st ((((zv (l.take i)++[118,111,105,99,101,32]++(l.getD i qC).1++[10]++zW ((l.getD i qC).2.take k))++([124,32]:TX))++(Lib.itoa ((((l.getD i qC).2).getD k zA).1)))++([47]:TX)))))),(9,.call [] [(iv ((((l.getD i qC).2).getD k zA).2.1))] [] (sv (st (Lib.itoa ((((l.getD i qC).2).getD k zA).2.1)))) []),(10,.val (.av (.string (st (((((zv (l.take i)++[118,111,105,99,101,32]++(l.getD i qC).1++[10]++zW ((l.getD i qC).2.take k))++([124,32]:TX))++(Lib.itoa ((((l.getD i qC).2).getD k zA).1)))++([47]:TX))++(Lib.itoa ((((l.getD i qC).2).getD k zA).2.1))))))),(11,.val (.av (.string (st ((((((zv (l.take i)++[118,111,105,99,101,32]++(l.getD i qC).1++[10]++zW ((l.getD i qC).2.take k))++([124,32]:TX))++(Lib.itoa ((((l.getD i qC).2).getD k zA).1)))++([47]:TX))++(Lib.itoa ((((l.getD i qC).2).getD k zA).2.1)))++([32]:TX)))))),(14,.call [] [(.ssl (qN ((((l.getD i qC).2).getD k zA).2.2)) 0 (((((l.getD i qC).2).getD k zA).2.2).length))] [] (sv (st (qZ ((l.getD i qC).2.getD k zA).2.2))) []),(15,.val (.av (.string (st (((((((zv (l.take i)++[118,111,105,99,101,32]++(l.getD i qC).1++[10]++zW ((l.getD i qC).2.take k))++([124,32]:TX))++(Lib.itoa ((((l.getD i qC).2).getD k zA).1)))++([47]:TX))++(Lib.itoa ((((l.getD i qC).2).getD k zA).2.1)))++([32]:TX))++(qZ ((l.getD i qC).2.getD k zA).2.2)))))),(16,.val (.av (.string (st ((((((((zv (l.take i)++[118,111,105,99,101,32]++(l.getD i qC).1++[10]++zW ((l.getD i qC).2.take k))++([124,32]:TX))++(Lib.itoa ((((l.getD i qC).2).getD k zA).1)))++([47]:TX))++(Lib.itoa ((((l.getD i qC).2).getD k zA).2.1)))++([32]:TX))++(qZ ((l.getD i qC).2.getD k zA).2.2))++([10]:TX))))))] (bfm [[],[(0,1)],[],[(2,1)],[(2,2)],[(0,5)],[(0,6)],[],[(7,1)],[(2,3),(7,2)],[(0,10)],[(0,11)],[],[(12,1)],[(2,3),(7,3),(12,2)],[(0,15)],[(0,16)],[(0,17)]]) [([68],[10]),([70],[68]),([72],[18]),([74],[49,72]),([76],[74]),([78],[70,76]),([80],[78]),([82],[18]),([84],[49,82]),([86],[84]),([88],[80,86]),([90],[88]),([92],[18]),([94],[49,92]),([96],[94]),([98],[90,96]),([100],[98]),([10],[100])] [.d,.n,.d,.k6,.d] [ps 5 (sv (st ((((((((zv (l.take i)++[118,111,105,99,101,32]++(l.getD i qC).1++[10]++zW ((l.getD i qC).2.take k))++([124,32]:TX))++(Lib.itoa ((((l.getD i qC).2).getD k zA).1)))++([47]:TX))++(Lib.itoa ((((l.getD i qC).2).getD k zA).2.1)))++([32]:TX))++(qZ ((l.getD i qC).2.getD k zA).2.2))++([10]:TX))))] (oc (by first|omega|(simp only [List.length_append,List.length_cons,List.length_nil];omega):(((zv (l.take i)++[118,111,105,99,101,32]++(l.getD i qC).1++[10]++zW ((l.getD i qC).2.take k)).length+([124,32]:TX).length:Nat):Int)≤9223372036854775807) (oc (qJ _ _:st (zv (l.take i)++[118,111,105,99,101,32]++(l.getD i qC).1++[10]++zW ((l.getD i qC).2.take k))++st ([124,32]:TX)=st ((zv (l.take i)++[118,111,105,99,101,32]++(l.getD i qC).1++[10]++zW ((l.getD i qC).2.take k))++([124,32]:TX))) (yC 72 (vU ((((l.getD i qC).2).getD k zA).1) (by omega) (by omega)) (oc (by first|omega|(simp only [List.length_append,List.length_cons,List.length_nil];omega):((((zv (l.take i)++[118,111,105,99,101,32]++(l.getD i qC).1++[10]++zW ((l.getD i qC).2.take k))++([124,32]:TX)).length+(Lib.itoa ((((l.getD i qC).2).getD k zA).1)).length:Nat):Int)≤9223372036854775807) (oc (qJ _ _:st ((zv (l.take i)++[118,111,105,99,101,32]++(l.getD i qC).1++[10]++zW ((l.getD i qC).2.take k))++([124,32]:TX))++st (Lib.itoa ((((l.getD i qC).2).getD k zA).1))=st (((zv (l.take i)++[118,111,105,99,101,32]++(l.getD i qC).1++[10]++zW ((l.getD i qC).2.take k))++([124,32]:TX))++(Lib.itoa ((((l.getD i qC).2).getD k zA).1)))) (oc (by first|omega|(simp only [List.length_append,List.length_cons,List.length_nil];omega):(((((zv (l.take i)++[118,111,105,99,101,32]++(l.getD i qC).1++[10]++zW ((l.getD i qC).2.take k))++([124,32]:TX))++(Lib.itoa ((((l.getD i qC).2).getD k zA).1))).length+([47]:TX).length:Nat):Int)≤9223372036854775807) (oc (qJ _ _:st (((zv (l.take i)++[118,111,105,99,101,32]++(l.getD i qC).1++[10]++zW ((l.getD i qC).2.take k))++([124,32]:TX))++(Lib.itoa ((((l.getD i qC).2).getD k zA).1)))++st ([47]:TX)=st ((((zv (l.take i)++[118,111,105,99,101,32]++(l.getD i qC).1++[10]++zW ((l.getD i qC).2.take k))++([124,32]:TX))++(Lib.itoa ((((l.getD i qC).2).getD k zA).1)))++([47]:TX))) (yC 112 (vU ((((l.getD i qC).2).getD k zA).2.1) (by omega) (by omega)) (oc (by first|omega|(simp only [List.length_append,List.length_cons,List.length_nil];omega):((((((zv (l.take i)++[118,111,105,99,101,32]++(l.getD i qC).1++[10]++zW ((l.getD i qC).2.take k))++([124,32]:TX))++(Lib.itoa ((((l.getD i qC).2).getD k zA).1)))++([47]:TX)).length+(Lib.itoa ((((l.getD i qC).2).getD k zA).2.1)).length:Nat):Int)≤9223372036854775807) (oc (qJ _ _:st ((((zv (l.take i)++[118,111,105,99,101,32]++(l.getD i qC).1++[10]++zW ((l.getD i qC).2.take k))++([124,32]:TX))++(Lib.itoa ((((l.getD i qC).2).getD k zA).1)))++([47]:TX))++st (Lib.itoa ((((l.getD i qC).2).getD k zA).2.1))=st (((((zv (l.take i)++[118,111,105,99,101,32]++(l.getD i qC).1++[10]++zW ((l.getD i qC).2.take k))++([124,32]:TX))++(Lib.itoa ((((l.getD i qC).2).getD k zA).1)))++([47]:TX))++(Lib.itoa ((((l.getD i qC).2).getD k zA).2.1)))) (oc (by first|omega|(simp only [List.length_append,List.length_cons,List.length_nil];omega):(((((((zv (l.take i)++[118,111,105,99,101,32]++(l.getD i qC).1++[10]++zW ((l.getD i qC).2.take k))++([124,32]:TX))++(Lib.itoa ((((l.getD i qC).2).getD k zA).1)))++([47]:TX))++(Lib.itoa ((((l.getD i qC).2).getD k zA).2.1))).length+([32]:TX).length:Nat):Int)≤9223372036854775807) (oc (qJ _ _:st (((((zv (l.take i)++[118,111,105,99,101,32]++(l.getD i qC).1++[10]++zW ((l.getD i qC).2.take k))++([124,32]:TX))++(Lib.itoa ((((l.getD i qC).2).getD k zA).1)))++([47]:TX))++(Lib.itoa ((((l.getD i qC).2).getD k zA).2.1)))++st ([32]:TX)=st ((((((zv (l.take i)++[118,111,105,99,101,32]++(l.getD i qC).1++[10]++zW ((l.getD i qC).2.take k))++([124,32]:TX))++(Lib.itoa ((((l.getD i qC).2).getD k zA).1)))++([47]:TX))++(Lib.itoa ((((l.getD i qC).2).getD k zA).2.1)))++([32]:TX))) (yC 152 (text_pc ((l.getD i qC).2.getD k zA).2.2 (by omega) hbf.2.2.2 (hwv i (by omega) k (by omega)).1 hbf.2.2.1 (qjk hbo.2.2.1)) (oc (by first|omega|(simp only [List.length_append,List.length_cons,List.length_nil];omega):((((((((zv (l.take i)++[118,111,105,99,101,32]++(l.getD i qC).1++[10]++zW ((l.getD i qC).2.take k))++([124,32]:TX))++(Lib.itoa ((((l.getD i qC).2).getD k zA).1)))++([47]:TX))++(Lib.itoa ((((l.getD i qC).2).getD k zA).2.1)))++([32]:TX)).length+(qZ ((l.getD i qC).2.getD k zA).2.2).length:Nat):Int)≤9223372036854775807) (oc (qJ _ _:st ((((((zv (l.take i)++[118,111,105,99,101,32]++(l.getD i qC).1++[10]++zW ((l.getD i qC).2.take k))++([124,32]:TX))++(Lib.itoa ((((l.getD i qC).2).getD k zA).1)))++([47]:TX))++(Lib.itoa ((((l.getD i qC).2).getD k zA).2.1)))++([32]:TX))++st (qZ ((l.getD i qC).2.getD k zA).2.2)=st (((((((zv (l.take i)++[118,111,105,99,101,32]++(l.getD i qC).1++[10]++zW ((l.getD i qC).2.take k))++([124,32]:TX))++(Lib.itoa ((((l.getD i qC).2).getD k zA).1)))++([47]:TX))++(Lib.itoa ((((l.getD i qC).2).getD k zA).2.1)))++([32]:TX))++(qZ ((l.getD i qC).2.getD k zA).2.2))) (oc (by first|omega|(simp only [List.length_append,List.length_cons,List.length_nil];omega):(((((((((zv (l.take i)++[118,111,105,99,101,32]++(l.getD i qC).1++[10]++zW ((l.getD i qC).2.take k))++([124,32]:TX))++(Lib.itoa ((((l.getD i qC).2).getD k zA).1)))++([47]:TX))++(Lib.itoa ((((l.getD i qC).2).getD k zA).2.1)))++([32]:TX))++(qZ ((l.getD i qC).2.getD k zA).2.2)).length+([10]:TX).length:Nat):Int)≤9223372036854775807) (oc (qJ _ _:st (((((((zv (l.take i)++[118,111,105,99,101,32]++(l.getD i qC).1++[10]++zW ((l.getD i qC).2.take k))++([124,32]:TX))++(Lib.itoa ((((l.getD i qC).2).getD k zA).1)))++([47]:TX))++(Lib.itoa ((((l.getD i qC).2).getD k zA).2.1)))++([32]:TX))++(qZ ((l.getD i qC).2.getD k zA).2.2))++st ([10]:TX)=st ((((((((zv (l.take i)++[118,111,105,99,101,32]++(l.getD i qC).1++[10]++zW ((l.getD i qC).2.take k))++([124,32]:TX))++(Lib.itoa ((((l.getD i qC).2).getD k zA).1)))++([47]:TX))++(Lib.itoa ((((l.getD i qC).2).getD k zA).2.1)))++([32]:TX))++(qZ ((l.getD i qC).2.getD k zA).2.2))++([10]:TX))) oz)))))))))))))))))<|zE ?_
    have hbn:zv (l.take i)++[118,111,105,99,101,32]++(l.getD i qC).1++[10]++zW ((l.getD i qC).2.take (k+1))=((((((((zv (l.take i)++[118,111,105,99,101,32]++(l.getD i qC).1++[10]++zW ((l.getD i qC).2.take k))++([124,32]:TX))++(Lib.itoa ((((l.getD i qC).2).getD k zA).1)))++([47]:TX))++(Lib.itoa ((((l.getD i qC).2).getD k zA).2.1)))++([32]:TX))++(qZ ((l.getD i qC).2.getD k zA).2.2))++([10]:TX)):=by rw [qkm (show k<(l.getD i qC).2.length from by omega),qgf];simp only [List.append_assoc]
    refine zX mxd [] [.k6,.d,.n] [ps 30 (iv (((k:Nat):Int)+1))] (oi (((k:Nat):Int)+1) (by omega) oz) ?_
    exact zQ ⟨k+1,by show k+1≤(l.getD i qC).2.length;omega⟩ (Wk.trans (Wk.eq (show _=[ps 5 (sv (st (zv (l.take i)++[118,111,105,99,101,32]++(l.getD i qC).1++[10]++zW ((l.getD i qC).2.take (k+1))))),ps 15 (.ssl (yI l) 0 l.length),ps 16 (nv l.length),ps 17 (nv i),ps 28 (.ssl (vE ((l.getD i qC).2)) 0 (((l.getD i qC).2).length)),ps 29 (nv (((l.getD i qC).2).length)),ps 30 (nv (k+1))] from by rw [hbn];rfl)) (Wk.ren2 _ 0 hc0 [] rfl rfl (by kernel_rfl) (by kernel_rfl))) (show (l.getD i qC).2.length-(k+1)<(l.getD i qC).2.length-k from by show (l.getD i qC).2.length-(k+1)<(l.getD i qC).2.length-k;omega)
   refine qT (zM h3)<|zR rfl rfl<|zE<|qX (Wk.eq (show _=[ps 5 (sv (st (zv (l.take i)++[118,111,105,99,101,32]++(l.getD i qC).1++[10]++zW (l.getD i qC).2))),ps 15 (.ssl (yI l) 0 l.length),ps 16 (nv l.length),ps 17 (nv i),ps 28 (.ssl (vE ((l.getD i qC).2)) 0 (((l.getD i qC).2).length)),ps 29 (nv (((l.getD i qC).2).length)),ps 30 (nv k),ps 31 (bv (decide (((k:Nat):Int)<((((l.getD i qC).2).length:Nat):Int))))] from by rw [List.take_of_length_le (show (l.getD i qC).2.length≤k from by omega)])) ?_
   have hvn:zv (l.take (i+1))=(zv (l.take i)++[118,111,105,99,101,32]++(l.getD i qC).1++[10]++zW (l.getD i qC).2):=by rw [qim (show i<l.length from by omega),qeg];simp only [List.append_assoc]
   refine zX mxd [] [.k3,.d,.n,.d,.d,.d,.d] [ps 17 (iv (((i:Nat):Int)+1))] (oi (((i:Nat):Int)+1) (by omega) oz) ?_
   exact zQ ⟨i+1,by show i+1≤l.length;omega⟩ (Wk.trans (Wk.eq (show _=[ps 5 (sv (st (zv (l.take (i+1))))),ps 15 (.ssl (yI l) 0 l.length),ps 16 (nv l.length),ps 17 (nv (i+1))] from by rw [hvn];rfl)) (Wk.ren2 _ 0 hc0 [] rfl rfl (by kernel_rfl) (by kernel_rfl))) (show l.length-(i+1)<l.length-i from by show l.length-(i+1)<l.length-i;omega)
  refine qT (zM h2)<|zR rfl rfl<|qA<|qA<|qX (Wk.eq (show _=[ps 5 (sv (st (zv l))),ps 15 (.ssl (yI l) 0 l.length),ps 16 (nv l.length),ps 17 (nv i),ps 18 (bv (decide (((i:Nat):Int)<(l.length:Int))))] from by rw [List.take_of_length_le (show l.length≤i from by omega)])) ?_
  refine qj mxd [] [ps 5 (sv (st (zv l))),ps 55 (bv (decide (65536<(((zv l).length:Nat):Int))))] (oz) ?_
  by_cases h4:65536<(((zv l).length:Nat):Int)
  ·refine qQ (zO h4)<|qA<|qj mxd [] [ps 2 se,ps 3 (iv 4)] (oz) ?_
   have hT:yw l=([],4):=by unfold yw;rw [if_pos (by omega),if_pos (show 65536<(zv l).length from by omega)]
   rw [hT]
   exact zy hc0 [2,3] []
  refine qT (zM h4)<|qE<|qA<|qj mxd [] [ps 2 (sv (st (zv l))),ps 3 (iv 0)] (oz) ?_
  have hT:yw l=(zv l,0):=by unfold yw;rw [if_pos (by omega),if_neg (show ¬ 65536<(zv l).length from by omega)]
  rw [hT]
  exact zy hc0 [2,3] []
 refine qQ (bf h1)<|qA<|qj mxd [] [ps 2 se,ps 3 (iv (qv l))] (oz) ?_
 have hT:yw l=([],qv l):=if_neg (by omega)
 rw [hT]
 exact zy hc0 [2,3] []
open Go.RowKit
theorem rep_opn {P:Program} {c:Cx} {id off:Nat} {v:Value} (h:Rep P c (.opn id off) v):v = .pointer none∨∃ b T,c.own id=some (some b,T)∧v = .pointer (some ⟨b,off,none⟩):=by
 cases h with
 | sh h=>cases h
 | opn h=>exact h
theorem qjm {P:Program} {c:Cx} {p:PV} {vs:Array Value} (h:RL P c [p] vs):vs = #[vs.getD 0 undef]∧Rep P c p (vs.getD 0 undef):=by
 obtain ⟨h1,h2⟩:=h
 refine ⟨?_,h2 0 (by simp)⟩
 apply Array.ext (by simpa using h1)
 intro i hi hj
 have:i=0:=by simp at hj;omega
 subst this
 simp [Array.getD_eq_getD_getElem?,hi]
theorem hSt_over {T:TypeId} {cells:List PV} {R:Hp}:over [(kb 0,some (.blk T cells))] (WY (some (T,cells) :: R))=WY (some (T,cells) :: R):=by
 funext k
 simp only [over,lk]
 by_cases h:Nat.beq k (kb 0)=true
 ·rw [h,Nat.eq_of_beq_eq_true h];rfl
 ·simp only [h];rfl
theorem YJ {P:Program} {c:Cx} {H:Hp} {i:Nat} {T:TypeId} {cells:List PV} {b:Nat} {T2:TypeId} (hh:Heap (ZH P c H) (· < H.length) c (WY H)) (hi:H.getD i none=some (T,cells)) (ho:c.own i=some (some b,T2)) :
  T2=T∧∃ cs:Array Value,c.w.heap[b]? = some (.cells cs T (0,0))∧cells.length≤cs.size∧∀ j,j<cells.length→Rep P c (cells.getD j P0) (cs.getD j undef):=by
 obtain ⟨ob,ho',hone,hbk⟩:=hh.blk i T cells (by rw [ZA,hi])
 rw [ho] at ho'
 cases ho'
 rcases hbk with ⟨hb,_⟩|⟨b',cs,hb1,hb2,hb3,hb4⟩
 ·cases hb
 ·obtain rfl:b=b':=by simpa using hb1
  exact ⟨rfl,cs,hb2,hb3,hb4⟩
theorem pc_check {P:Program} {f:FuncId} {T:TypeId} {q:PV} {R:Hp} (hf:FnOk P f)
  (h1:∀ (b:Nat) (w:World),w.cell? ⟨b,0,none⟩=some (.pointer (some ⟨b,0,none⟩))→Calls P f #[.pointer (some ⟨b,0,none⟩)] w fun e w'=>e = .returned (.tuple #[])∧w'=w)
  (h2:∀ (b:Nat) (w:World) (cs:Array Value),w.heap[b]? = some (.cells cs T (0,0))→2≤cs.size→w.cell? ⟨b,0,none⟩=some (.pointer none) →
   Calls P f #[.pointer (some ⟨b,0,none⟩)] w fun e w'=>e = .returned (.tuple #[])∧w'=w.setCell ⟨b,0,none⟩ (.pointer (some ⟨b,0,none⟩))) :
  PC P f [.opt 0 0] (some (T,[.opn 0 0,q]) :: R) (.tup []) (some (T,[.opn 0 0,q]) :: R):=by
 refine ⟨hf,Nat.le_refl _,fun c vs hh hrl=>?_⟩
 obtain ⟨hvs,hv⟩:=qjm hrl
 obtain ⟨b,T2,ho,hv⟩:=wj hv
 rw [hv] at hvs
 obtain ⟨rfl,cs,hb,hsz,hr⟩:=YJ (i:=0) hh rfl ho
 have hsz:2≤cs.size:=hsz
 have hcell:c.w.cell? ⟨b,0,none⟩=some (cs.getD 0 undef):=by
  rw [cell_of_row c.w _ _ cs _ _ hb]
  simp [Array.getD_eq_getD_getElem?,show 0<cs.size by omega]
 have ht:∀ {c':Cx},Rep P c' (.tup []) (.tuple #[]):=.tup rfl fun i hi=>by simp at hi
 rw [hvs]
 rcases rep_opn (hr 0 (by simp)) with e|⟨b2,T3,ho2,e⟩
 ·refine (h2 b c.w cs hb hsz (hcell.trans (congrArg some e))).mono ?_
  rintro ee w' ⟨rfl,rfl⟩
  have key:=qfv (E:=ZH P c (some (T2,[.opn 0 0,q]) :: R)) (g:=WY (some (T2,[.opn 0 0,q]) :: R)) hh (id:=0) (b:=b) (T:=T2) (cells:=[.opn 0 0,q]) (cells':=[.opn 0 0,q]) rfl ho cs (cs.setIfInBounds 0 (.pointer (some ⟨b,0,none⟩))) (c.w.setCell ⟨b,0,none⟩ (.pointer (some ⟨b,0,none⟩))) hb
   (by show (c.w.heap.modify b _)[b]? = _;rw [Array.getElem?_modify,if_pos rfl,hb];rfl) (by simp) (fun b' hb'=>by show (c.w.heap.modify b _)[b']? = _;rw [Array.getElem?_modify,if_neg (Ne.symm hb')]) (by show (c.w.heap.modify b _).size=_;simp) rfl rfl rfl
   (by obtain ⟨ob,_,hone,_⟩:=hh.blk 0 T2 [.opn 0 0,q] rfl;exact hone) hsz (fun j hj=>by
    have:j=0∨j=1:=by simp at hj;omega
    rcases this with rfl|rfl
    ·rw [show (cs.setIfInBounds 0 (.pointer (some ⟨b,0,none⟩))).getD 0 undef = .pointer (some ⟨b,0,none⟩) by simp [Array.getD_eq_getD_getElem?,show 0<cs.size by omega]]
     exact .opn (.inr ⟨b,T2,ho,rfl⟩)
    ·rw [show (cs.setIfInBounds 0 (.pointer (some ⟨b,0,none⟩))).getD 1 undef=cs.getD 1 undef by simp [Array.getD_eq_getD_getElem?]]
     exact hr 1 (by simp))
  rw [hSt_over] at key
  exact ⟨_,⟨_,c.S,c.own⟩,rfl,rfl,key.2,ht⟩
 ·rw [ho] at ho2
  cases ho2
  refine (h1 b c.w (hcell.trans (congrArg some e))).mono ?_
  rintro ee w' ⟨rfl,rfl⟩
  exact ⟨_,c,rfl,rfl,hh,ht⟩
def qS (l:List UInt8):List PV:=l.map fun b=>.av (.int .u8 b.toNat)
theorem qkk (l:List UInt8):(qS l).length=l.length:=by unfold qS;rw [List.length_map]
theorem byt_app (l m:List UInt8):qS l++qS m=qS (l++m):=by unfold qS;rw [List.map_append]
theorem byt_one (l:List UInt8) (b:UInt8):qS l++[.av (.int .u8 b.toNat)]=qS (l++[b]):=byt_app l [b]
theorem qI (l:List UInt8):jV (qS l):=fun p hp=>by
 obtain ⟨x,_,rfl⟩:=List.mem_map.1 hp
 rfl
theorem pc_string {P:Program} {f:FuncId} {T U:TypeId} {p:PV} {l:List UInt8} (hf:FnOk P f) (hl:l≠[])
  (h1:∀ (b g cap:Nat) (cs cur:Array Value) (w:World),w.heap[b]? = some (.cells cs T (0,0))→1<cs.size→cs.getD 1 undef = .slice (some ⟨g,0,none⟩) l.length cap→w.heap[g]? = some (.cells cur U (0,0))→l.length≤cap→l.length≤cur.size →
   (∀ j x,l[j]? = some x→cur.getD j undef = .int .u8 x.toNat)→Calls P f #[.pointer (some ⟨b,0,none⟩)] w fun e w'=>e = .returned (.string (st l))∧∃ k,w'=(w.drewN k).freeze ⟨g,0,none⟩ l.length) :
  PC P f [.opt 0 0] [some (T,[p,.osl 1 0 l.length]),some (U,qS l)] (.av (.string (st l))) [none,none]:=by
 refine ⟨hf,Nat.le_refl _,fun c vs hh hrl=>?_⟩
 obtain ⟨hvs,hv⟩:=qjm hrl
 obtain ⟨b,T2,ho,hv⟩:=wj hv
 rw [hv] at hvs
 obtain ⟨rfl,cs,hb,hsz,hr⟩:=YJ (i:=0) hh rfl ho
 have hsz:2≤cs.size:=hsz
 obtain ⟨ob,U2,ho1,hv1⟩:=jx (show Rep P c (.osl 1 0 l.length) (cs.getD 1 undef) from hr 1 (by simp))
 have hl0:l.length≠0:=by simpa using hl
 rcases hv1 with ⟨_,_,hz⟩|⟨g,cap,cur0,rfl,hsl,_,hcap,_⟩
 ·exact absurd hz hl0
 obtain ⟨rfl,cur,hg,hgs,hgr⟩:=YJ (i:=1) hh rfl ho1
 rw [qkk] at hgs hgr
 have hbytes:∀ j x,l[j]? = some x→cur.getD j undef = .int .u8 x.toNat:=fun j x hx=>by
  have hj:j<l.length:=(List.getElem?_eq_some_iff.1 hx).1
  have:=hgr j hj
  have e:(qS l).getD j P0 = .av (.int .u8 x.toNat):=by
   unfold qS
   rw [List.getD_eq_getElem?_getD,List.getElem?_map,hx];rfl
  rw [e] at this
  exact zG this
 rw [hvs]
 refine (h1 b g cap cs cur c.w hb (by omega) hsl hg hcap hgs hbytes).mono ?_
 rintro ee w' ⟨rfl,k,rfl⟩
 have hfz:((c.w.drewN k).freeze ⟨g,0,none⟩ l.length).heap=c.w.heap.modify g fun
   | .cells c elem (lo,hi)=>.cells c elem (if lo == hi then (0,0+l.length) else (min lo 0,max hi (0+l.length)))
   | o=>o:=by
  unfold World.freeze
  rw [if_neg hl0]
  rfl
 have hto:∀ b',b'≠g→((c.w.drewN k).freeze ⟨g,0,none⟩ l.length).heap[b']? = c.w.heap[b']? := fun b' hb'=>by rw [hfz,Array.getElem?_modify,if_neg (Ne.symm hb')]
 have hts:((c.w.drewN k).freeze ⟨g,0,none⟩ l.length).heap.size=c.w.heap.size:=by rw [hfz];simp
 have hos:((c.w.drewN k).freeze ⟨g,0,none⟩ l.length).os=c.w.os:=by unfold World.freeze;rw [if_neg hl0];rfl
 have htp:((c.w.drewN k).freeze ⟨g,0,none⟩ l.length).tape=c.w.tape:=by unfold World.freeze;rw [if_neg hl0];rfl
 have hou:((c.w.drewN k).freeze ⟨g,0,none⟩ l.length).output=c.w.output:=by unfold World.freeze;rw [if_neg hl0];rfl
 have hlive:vB (WY [some (T2,[p,.osl 1 0 l.length]),some (U2,qS l)]) 1:=⟨U2,qS l,rfl⟩
 have hap:=hh.apart 1 g U2 hlive ho1
 have hno:∀ i,¬ vB (WY [none,none]) i:=fun i ⟨T',ds,hx⟩=>by
  rw [ZA] at hx
  rcases i with _|_|i
  ·cases hx
  ·cases hx
  ·simp at hx
 have hk:Keep c ⟨(c.w.drewN k).freeze ⟨g,0,none⟩ l.length,c.S,c.own⟩:=⟨fun b' hS=>⟨hS,hto b' fun e=>hap.1 (e▸hS)⟩,fun _ _ hx=>hx,fun b' ds T' z hx=>by
  by_cases e:b'=g
  ·subst e
   show ∃ cs' z',((c.w.drewN k).freeze ⟨b',0,none⟩ l.length).heap[b']? = _∧_
   rw [hfz,Array.getElem?_modify,if_pos rfl,hx]
   exact ⟨ds,_,rfl,rfl⟩
  ·exact ⟨ds,z,(hto b' e).trans hx,rfl⟩⟩
 have hbnd:∀ i b' T',c.own i=some (some b',T')→b'<((c.w.drewN k).freeze ⟨g,0,none⟩ l.length).heap.size:=fun i b' T' hx=>by
  rw [hts];exact hh.bnd i b' T' hx
 have hsok:∀ b',c.S b'→b'<((c.w.drewN k).freeze ⟨g,0,none⟩ l.length).heap.size:=fun b' hS=>by
  rw [hts];exact hh.sok b' hS
 have hsame:∀ b',b'<c.w.heap.size→¬ (ZH P c [some (T2,[p,.osl 1 0 l.length]),some (U2,qS l)]).Bor b'→((c.w.drewN k).freeze ⟨g,0,none⟩ l.length).heap[b']? = c.w.heap[b']? := fun b' hb1 hB=>hto b' fun e=>hB (by
  subst e
  exact ⟨1,U2,hlive,ho1⟩)
 have hH:Heap (ZH P c [some (T2,[p,.osl 1 0 l.length]),some (U2,qS l)]) (· < 2) ⟨(c.w.drewN k).freeze ⟨g,0,none⟩ l.length,c.S,c.own⟩ (WY [none,none]) :=
  { ids:=hh.ids,blk:=fun i T' ds hx=>absurd ⟨T',ds,hx⟩ (hno i),inj:=fun i j b' T' T3 l1=>absurd l1 (hno i),apart:=fun i b' T' l1=>absurd l1 (hno i),bnd:=hbnd,sok:=hsok,
    os:=hos.trans hh.os,tape:=htp.trans hh.tape,output:=hou.trans hh.output,size:=by show _≤_;rw [hts];exact hh.size,same:=hsame,laid:=hh.laid,s0:=hh.s0,s1:=hh.s1,keep:=hh.keep.trans hk }
 exact ⟨_,⟨(c.w.drewN k).freeze ⟨g,0,none⟩ l.length,c.S,c.own⟩,rfl,rfl,hH,.sh (.av _)⟩
theorem pc_string0 {P:Program} {f:FuncId} {T:TypeId} {p:PV} (hf:FnOk P f)
  (h1:∀ (b:Nat) (w:World),w.cell? ⟨b,1,none⟩=some (.slice none 0 0)→Calls P f #[.pointer (some ⟨b,0,none⟩)] w fun e w'=>e = .returned (.string (st []))∧∃ k,w'=w.drewN k) :
  PC P f [.opt 0 0] [some (T,[p,.av (.slice none 0 0)])] (.av (.string (st []))) [some (T,[p,.av (.slice none 0 0)])]:=by
 refine ⟨hf,Nat.le_refl _,fun c vs hh hrl=>?_⟩
 obtain ⟨hvs,hv⟩:=qjm hrl
 obtain ⟨b,T2,ho,hv⟩:=wj hv
 rw [hv] at hvs
 obtain ⟨rfl,cs,hb,hsz,hr⟩:=YJ (i:=0) hh rfl ho
 have hsz:2≤cs.size:=hsz
 have hcell:c.w.cell? ⟨b,1,none⟩=some (.slice none 0 0):=by
  rw [cell_of_row c.w _ _ cs _ _ hb]
  have:=zG (hr 1 (by simp))
  rw [← this]
  simp [Array.getD_eq_getD_getElem?,show 1<cs.size by omega]
 rw [hvs]
 refine (h1 b c.w hcell).mono ?_
 rintro ee w' ⟨rfl,k,rfl⟩
 have hk:Keep c ⟨c.w.drewN k,c.S,c.own⟩:=⟨fun b' hS=>⟨hS,rfl⟩,fun _ _ hx=>hx,fun b' ds T' z hx=>⟨ds,z,hx,rfl⟩⟩
 have hblk:∀ i T' ds,WY [some (T2,[p,.av (.slice none 0 0)])] (kb i)=some (.blk T' ds)→∃ ob,c.own i=some (ob,T')∧BlkOk P ⟨c.w.drewN k,c.S,c.own⟩ ob T' ds:=fun i T' ds hx=>by
  obtain ⟨ob,h1,h2⟩:=hh.blk i T' ds hx
  exact ⟨ob,h1,h2.mono hk fun _ _=>rfl⟩
 have hH:Heap (ZH P c [some (T2,[p,.av (.slice none 0 0)])]) (· < 1) ⟨c.w.drewN k,c.S,c.own⟩ (WY [some (T2,[p,.av (.slice none 0 0)])]) :=
  { ids:=hh.ids,blk:=hblk,inj:=hh.inj,apart:=hh.apart,bnd:=hh.bnd,sok:=hh.sok,os:=hh.os,tape:=hh.tape,output:=hh.output,size:=hh.size,same:=hh.same,laid:=hh.laid,s0:=hh.s0,s1:=hh.s1,keep:=hh.keep.trans hk }
 exact ⟨_,⟨c.w.drewN k,c.S,c.own⟩,rfl,rfl,hH,.sh (.av _)⟩
section
variable {P:Program} {n:Nat} {c0:Cx} {Bor:BorD} {n0:Nat} {l:L}
theorem Wk.cell (id j:Nat) (p q:PV) {B:TypeId} {cells:List PV} (hs:get l (kb id)=some (.blk B cells)) (hj:cells[j]? = some p) (hq1:q.one=true) (hr:∀ c v,Rep P c p v→Rep P c q v) :
  Wk P n c0 Bor n0 l n0 ([(kb id,some (.blk B (cells.set j q)))]++l):=fun cx a hI=>by
 refine ⟨cx,rfl,?_⟩
 have hge:∀ k,get ([(kb id,some (.blk B (cells.set j q)))]++l) k=if Nat.beq k (kb id) then some (.blk B (cells.set j q)) else get l k:=fun k=>by
  rw [jK]
  simp only [over,lk]
  by_cases h1:Nat.beq k (kb id)=true
  ·simp [h1]
  ·simp only [h1];rfl
 have hb:∀ i,get ([(kb id,some (.blk B (cells.set j q)))]++l) (kb i)=if i=id then some (.blk B (cells.set j q)) else get l (kb i):=fun i=>by
  rw [hge,YS];by_cases e:i=id <;> simp [e]
 have hsl:∀ s,get ([(kb id,some (.blk B (cells.set j q)))]++l) (Pm.ks s)=get l (Pm.ks s):=fun s=>by
  rw [hge,jT,if_neg (by simp)]
 have hl:∀ i,vB (get ([(kb id,some (.blk B (cells.set j q)))]++l)) i→vB (get l) i:=fun i ⟨T',cs,hx⟩=>by
  rw [hb] at hx
  by_cases e:i=id
  ·subst e;exact ⟨B,cells,hs⟩
  ·rw [if_neg e] at hx;exact ⟨T',cs,hx⟩
 have hh:=hI.toHeap
 exact { ids:=hh.ids
         blk:=fun i T' cs hx=>by
           rw [hb] at hx
           by_cases e:i=id
           · subst e
             rw [if_pos rfl] at hx
             cases hx
             obtain ⟨ob,h1,h2,h3⟩:=hh.blk i B cells hs
             refine ⟨ob,h1,fun p hp=>?_,?_⟩
             · rcases List.mem_or_eq_of_mem_set hp with h|h
               · exact h2 p h
               · rw [h];exact hq1
             · rcases h3 with ⟨_,h4⟩|⟨b,arr,h4,h5,h6,h7⟩
               · rw [h4] at hj;simp at hj
               · refine .inr ⟨b,arr,h4,h5,by rw [List.length_set];exact h6,fun k hk=>?_⟩
                 rw [List.length_set] at hk
                 by_cases e:k=j
                 · subst e
                   have h8:=h7 k hk
                   have e2:cells.getD k P0=p:=by rw [List.getD_eq_getElem?_getD,hj];rfl
                   rw [e2] at h8
                   rw [show (cells.set k q).getD k P0=q from by rw [List.getD_eq_getElem?_getD,List.getElem?_set_self hk];rfl]
                   exact hr _ _ h8
                 · rw [show (cells.set j q).getD k P0=cells.getD k P0 from by rw [List.getD_eq_getElem?_getD,List.getD_eq_getElem?_getD,List.getElem?_set_ne (Ne.symm e)]]
                   exact h7 k hk
           · rw [if_neg e] at hx
             exact hh.blk i T' cs hx
         inj:=fun i j b T T' l1 l2=>hh.inj i j b T T' (hl i l1) (hl j l2),apart:=fun i b T l1=>hh.apart i b T (hl i l1),bnd:=hh.bnd,sok:=hh.sok,
         os:=hh.os,tape:=hh.tape,output:=hh.output,size:=hh.size,same:=hh.same,laid:=hh.laid,s0:=hh.s0,s1:=hh.s1,keep:=hh.keep,tmps:=hI.tmps,dfr:=hI.dfr
         slot:=fun s' p hp=>by
           rw [hsl] at hp
           exact hI.slot s' p hp
         isv:=fun s' x hx=>by
           rw [hsl] at hx
           exact hI.isv s' x hx }
theorem Wk.opnc (id j i off:Nat) {B:TypeId} {cells:List PV} (hs:get l (kb id)=some (.blk B cells)) (hj:cells[j]? = some (.av (.pointer none))):Wk P n c0 Bor n0 l n0 ([(kb id,some (.blk B (cells.set j (.opn i off))))]++l) :=
 Wk.cell id j (.av (.pointer none)) (.opn i off) hs hj rfl fun _ _ h=>.opn (.inl (zG h))
end
set_option maxHeartbeats 1000000 in
theorem cc_used (b:Nat) (w:World) (h0:w.cell? ⟨b,0,none⟩=some (.pointer (some ⟨b,0,none⟩))) :
  Calls Tryz.prog 60 #[.pointer (some ⟨b,0,none⟩)] w fun e w'=>e = .returned (.tuple #[])∧w'=w:=by
 obtain ⟨j,hj,_⟩:=Option.map_eq_some_iff.1 (show (Tryz.prog.info? 75).map (·.size)=some 2 by kernel_rfl)
 go_enter Tryz.func60,Tryz.ntmps60
 go_wp2
 rw [Lib.run_neq_ptr_same w _ Tryz.underlying72 hj]
 go_wp2
 go_end0
 exact ⟨rfl,rfl⟩
theorem row_lies:∀ {n:Nat},2≤n→liesAt Tryz.prog Tryz.prog.depth 77 (n / Tryz.prog.cellsOf 77) 0 75 1=true:=by
 intro n hn
 have hd:Tryz.prog.depth=Tryz.prog.depth-1+1:=by
  have:1≤Tryz.prog.depth:=by decide +kernel
  omega
 have hc:Tryz.prog.cellsOf 77=2:=by kernel_rfl
 have h1:rowAt Tryz.prog (sameLayout Tryz.prog Tryz.prog.depth · 75) Tryz.prog.depth 77 1 0 1=true:=by kernel_rfl
 have mono:∀ {d e m:Nat} {fits:TypeId→Bool},1≤m→rowAt Tryz.prog fits d e 1 0 1=true→rowAt Tryz.prog fits d e m 0 1=true:=by
  intro d e m fits hm h
  cases d with
  | zero=>cases h
  | succ d =>
   unfold rowAt at h ⊢
   dsimp only at h ⊢
   split at h
   ·cases h
   ·rename_i hs
    rw [if_neg hs]
    simp only [Nat.zero_div,Nat.zero_mod,Nat.zero_add,Bool.or_eq_true,Bool.and_eq_true,decide_eq_true_eq,Nat.zero_lt_one,true_and,Nat.le_refl] at h ⊢
    rcases h with h|h
    ·exact .inl ⟨⟨h.1.1,hm⟩,h.2⟩
    ·exact .inr ⟨by omega,h⟩
 rw [hd]
 unfold liesAt
 rw [hc,mono (m:=n / 2) (by omega) h1]
 rfl
set_option maxHeartbeats 1000000 in
theorem cc_fresh (b:Nat) (w:World) (cs:Array Value) (hb:w.heap[b]? = some (.cells cs 77 (0,0))) (hn:2≤cs.size) (h0:w.cell? ⟨b,0,none⟩=some (.pointer none)) :
  Calls Tryz.prog 60 #[.pointer (some ⟨b,0,none⟩)] w fun e w'=>e = .returned (.tuple #[])∧w'=w.setCell ⟨b,0,none⟩ (.pointer (some ⟨b,0,none⟩)):=by
 obtain ⟨j,hj,hjs⟩:=Option.map_eq_some_iff.1 (show (Tryz.prog.info? 75).map (·.size)=some 2 by kernel_rfl)
 have hsh:w.shape? b=some (77,cs.size):=by simp [World.shape?,hb]
 have hfz:w.frozen? ⟨b,0,none⟩=false:=Lib.frozen_of_heap hb 0
 have hlies:=row_lies hn
 clear hb
 go_enter Tryz.func60,Tryz.ntmps60
 go_wp2
 rw [Lib.run_to_unsafe w ⟨b,0,none⟩ Tryz.underlying72 Tryz.underlying149 hj (by rw [hjs];decide) hsh (by show 0<cs.size;omega)]
 simp only [Result.andThen]
 rw [Oper.upon_value]
 go_wp2
 rw [run_callFunc_extern Tryz.func93 (by kernel_rfl) (by kernel_rfl) (by kernel_rfl) (e:=Extern.AbiNoEscape.same) (by kernel_rfl)]
 rw [Lib.run_noEscape]
 simp only [Result.andThen]
 rw [Oper.upon_value]
 go_wp2
 rw [Lib.run_from_unsafe w ⟨b,0,none⟩ Tryz.underlying149 Tryz.underlying72 hj hsh hlies]
 simp only [Result.andThen]
 rw [Oper.upon_value]
 go_wp2
 go_end0
 exact ⟨rfl,rfl⟩
theorem check_pc (q:PV) (R:Hp):PC Tryz.prog 60 [.opt 0 0] (some (77,[.opn 0 0,q]) :: R) (.tup []) (some (77,[.opn 0 0,q]) :: R) :=
 pc_check (wF Tryz.func60 (by kernel_rfl) (by kernel_rfl)) cc_used cc_fresh
set_option maxHeartbeats 2000000 in
theorem str_some (b g cap:Nat) (cs cur:Array Value) (l:List UInt8) (w:World) (hb:w.heap[b]? = some (.cells cs 77 (0,0))) (hn:1<cs.size) (hsl:cs.getD 1 undef = .slice (some ⟨g,0,none⟩) l.length cap) (hg:w.heap[g]? = some (.cells cur 5 (0,0)))
  (hcap:l.length≤cap) (hcs:l.length≤cur.size) (hbytes:∀ j x,l[j]? = some x→cur.getD j undef = .int .u8 x.toNat) (h0:l≠[]) (h63:l.length≤140737488355328) :
  Calls Tryz.prog 32 #[.pointer (some ⟨b,0,none⟩)] w fun e w'=>e = .returned (.string (st l))∧∃ k,w'=(w.drewN k).freeze ⟨g,0,none⟩ l.length:=by
 have hl0:l.length≠0:=by simpa using h0
 have c1:w.drew.cell? ⟨b,1,none⟩=some (.slice (some ⟨g,0,none⟩) l.length cap):=by
  have hb':w.drew.heap[b]? = some (.cells cs 77 (0,0)):=hb
  rw [Lib.cell_of_heap hb',← hsl,Array.getD_eq_getD_getElem?,Array.getElem?_eq_getElem hn]
  rfl
 have hSD:(Builtin.unsafeSliceData_ #[73] 120 #[.slice (some ⟨g,0,none⟩) l.length cap]).run Tryz.prog w.drew = .ok (.pointer (some ⟨g,0,none⟩)) w.drew :=
  Lib.run_unsafeSliceData_row _ _ _ _ _ _ (by omega)
 have hUS:(Builtin.unsafeString_ #[120,3] 9 #[.pointer (some ⟨g,0,none⟩),.int .i64 l.length]).run Tryz.prog w.drew = .ok (.string (st l)) (w.drew.freeze ⟨g,0,none⟩ l.length):=by
  refine Lib.run_unsafeString_row w.drew 120 3 9 5 Tryz.underlying120 (by kernel_rfl) g cur.size (by have hg':w.drew.heap[g]? = some (.cells cur 5 (0,0)):=hg;simp [World.shape?,hg']) l h0 (by omega) (by omega) ?_
  intro j x hx
  have hg':w.drew.heap[g]? = some (.cells cur 5 (0,0)):=hg
  have hj:j<l.length:=(List.getElem?_eq_some_iff.1 hx).1
  have:=hbytes j x hx
  rw [wK,Nat.zero_add,Lib.cell_of_heap hg',← this,Array.getD_eq_getD_getElem?,Array.getElem?_eq_getElem (show j<cur.size by omega)]
  rfl
 clear hb hsl hg hcap hcs hbytes h0 h63 hl0
 go_enter Tryz.func32,Tryz.ntmps32
 go_wp2
 go_region
 all_goals (go_wp2;go_ret;exact ⟨rfl,1,rfl⟩)
theorem string_pc (p:PV) (l:List UInt8) (h0:l≠[]) (hl:l.length≤140737488355328):PC Tryz.prog 32 [.opt 0 0] [some (77,[p,.osl 1 0 l.length]),some (5,qS l)] (.av (.string (st l))) [none,none] :=
 pc_string (wF Tryz.func32 (by kernel_rfl) (by kernel_rfl)) h0 fun b g cap cs cur w h1 h2 h3 h4 h5 h6 h7=>str_some b g cap cs cur l w h1 h2 h3 h4 h5 h6 h7 h0 hl
set_option maxHeartbeats 2000000 in
theorem str_none (b:Nat) (w:World) (h0:w.cell? ⟨b,1,none⟩=some (.slice none 0 0)) :
  Calls Tryz.prog 32 #[.pointer (some ⟨b,0,none⟩)] w fun e w'=>e = .returned (.string (st []))∧∃ k,w'=w.drewN k:=by
 have c1:w.drew.cell? ⟨b,1,none⟩=some (.slice none 0 0):=h0
 have hSD:(Builtin.unsafeSliceData_ #[73] 120 #[.slice none 0 0]).run Tryz.prog w.drew = .ok (.pointer none) w.drew:=rfl
 have hUS:∀ W,(Builtin.unsafeString_ #[120,3] 9 #[.pointer none,.int .i64 0]).run Tryz.prog W = .ok (.string .empty) W:=fun W=>Lib.run_unsafeString_none W _ _ _ none
 go_enter Tryz.func32,Tryz.ntmps32
 go_wp2
 go_region
 all_goals (go_wp2;go_ret;exact ⟨rfl,1,rfl⟩)
theorem string0_pc (p:PV):PC Tryz.prog 32 [.opt 0 0] [some (77,[p,.av (.slice none 0 0)])] (.av (.string (st []))) [some (77,[p,.av (.slice none 0 0)])] :=
 pc_string0 (wF Tryz.func32 (by kernel_rfl) (by kernel_rfl)) str_none
theorem YV (t:qP) (x:UInt8) (hb:t.length+1≤140737488355328):PC Tryz.prog 30 [(.opt 0 0),(.av (.int .u8 (x.toNat:Int)))] [some (77,[(.opn 0 0),(.osl 1 0 t.length)]),some (5,(qS t))] (.av .nilIface) [some (77,[(.opn 0 0),(.osl 2 0 ((t++[x]:qP).length))]),none,some (5,(qS (t++[x])))]:=by
 refine zH Tryz.func30 rfl (by kernel_rfl) (Nat.le_of_ble_eq_true rfl) (by kernel_rfl) (l0:=[ps 0 (.opt 0 0),ps 1 (.av (.int .u8 (x.toNat:Int))),pb 0 77 [(.opn 0 0),(.osl 1 0 t.length)],pb 1 5 (qS t)]) rfl (fun c0 Bor hc0=>?_)
 refine qA<|qK mxd [.r] []<|qA<|zX mxd [(1,.call [0,1] [(.opt 0 0)] [some (77,[(.opn 0 0),(.osl 1 0 t.length)]),some (5,(qS t))] (.tup []) [some (77,[(.opn 0 0),(.osl 1 0 t.length)]),some (5,(qS t))])] [.k3,.d,.n] [pb 1 5 (qM (yH [0,1] 18) (qS t))] (oc (check_pc (.osl 1 0 t.length) [some (5,(qS t))]) (oc (rfl:[(.opt 0 0)]=qM (qY [0,1] 18) [(.opt 0 0)]) (oc (rfl:[(.opn 0 0),(.osl 1 0 t.length)]=qM (qY [0,1] 18) [(.opn 0 0),(.osl 1 0 t.length)]) (oc ((qG (qI _)).symm:(qS t)=qM (qY [0,1] 18) (qS t)) oz))))<|qX (Wk.eq (show _=[ps 0 (.opt 0 0),ps 1 (.av (.int .u8 (x.toNat:Int))),pb 0 77 [(.opn 0 0),(.osl 1 0 t.length)],pb 1 5 (qS t)] from by simp only [qG (qI _)])) ?_
 refine qA<|qj mxd [(7,.app none (some (qS (t++[x]))))] [pb 0 77 [(.opn 0 0),(.osl 82 0 (t.length+1))],pb 82 5 (qS (t++[x]))] (oc (by rw [qkk,Nat.mul_one]:((qS t)).length=t.length*1) (oc (by omega:(t.length+1)*1≤140737488355328∧t.length+1≤9223372036854775807) (oc (byt_one _ _:(qS t)++[(.av (.int .u8 (x.toNat:Int)))]=(qS (t++[x]))) oz)))<|qA<|qK mxd [.n,.r] [ps 4 (.av .nilIface)]<|qX (Wk.eq (show _=[ps 4 (.av .nilIface),pb 0 77 [(.opn 0 0),(.osl 82 0 ((t++[x]:qP).length))],pb 82 5 (qS (t++[x]))] from by simp only [List.length_append,List.length_cons,List.length_nil,Nat.zero_add])) ?_
 exact zz fun cx_ a_ hI_=>zU (H':=[some (77,[(.opn 0 0),(.osl 2 0 ((t++[x]:qP).length))]),none,some (5,(qS (t++[x])))]) (.inr rfl) (Wk.ren3 [ps 4 (.av .nilIface),pb 0 77 [(.opn 0 0),(.osl 2 0 ((t++[x]:qP).length))],pb 2 5 (qS (t++[x]))] 2 hc0 [0,1,82] [(kb 2,(qS (t++[x])))] (oc (qI _) (oz)) (by kernel_rfl) rfl rfl (by kernel_rfl) (by kernel_rfl)) rfl (oc rfl (oc rfl (oz))) (fun cx_ a_ hI_=>zK (l':=[ps 4 (.av .nilIface),pb 0 77 [(.opn 0 0),(.osl 2 0 ((t++[x]:qP).length))],pb 2 5 (qS (t++[x]))]) (by kernel_rfl) cx_ a_ hI_) hI_
theorem wv (t s:qP) (hb:t.length+s.length≤140737488355328):PC Tryz.prog 27 [(.opt 0 0),(sv (st s))] [some (77,[(.opn 0 0),(.osl 1 0 t.length)]),some (5,(qS t))] (.tup [(nv s.length),(.av .nilIface)]) [some (77,[(.opn 0 0),(.osl 2 0 ((t++s:qP).length))]),none,some (5,(qS (t++s)))]:=by
 refine zH Tryz.func27 rfl (by kernel_rfl) (Nat.le_of_ble_eq_true rfl) (by kernel_rfl) (l0:=[ps 0 (.opt 0 0),ps 1 (sv (st s)),pb 0 77 [(.opn 0 0),(.osl 1 0 t.length)],pb 1 5 (qS t)]) rfl (fun c0 Bor hc0=>?_)
 refine qA<|qK mxd [.r] []<|qA<|zX mxd [(1,.call [0,1] [(.opt 0 0)] [some (77,[(.opn 0 0),(.osl 1 0 t.length)]),some (5,(qS t))] (.tup []) [some (77,[(.opn 0 0),(.osl 1 0 t.length)]),some (5,(qS t))])] [.k3,.d,.n] [pb 1 5 (qM (yH [0,1] 26) (qS t))] (oc (check_pc (.osl 1 0 t.length) [some (5,(qS t))]) (oc (rfl:[(.opt 0 0)]=qM (qY [0,1] 26) [(.opt 0 0)]) (oc (rfl:[(.opn 0 0),(.osl 1 0 t.length)]=qM (qY [0,1] 26) [(.opn 0 0),(.osl 1 0 t.length)]) (oc ((qG (qI _)).symm:(qS t)=qM (qY [0,1] 26) (qS t)) oz))))<|qX (Wk.eq (show _=[ps 0 (.opt 0 0),ps 1 (sv (st s)),pb 0 77 [(.opn 0 0),(.osl 1 0 t.length)],pb 1 5 (qS t)] from by simp only [qG (qI _)])) ?_
 refine qA<|qj mxd [(6,.app none (some (qS (t++s))))] [ps 1 (sv (st s)),pb 0 77 [(.opn 0 0),(.osl 82 0 (t.length+s.length))],pb 82 5 (qS (t++s))] (oc (by rw [qkk,Nat.mul_one]:((qS t)).length=t.length*1) (oc (by omega:(t.length+s.length)*1≤140737488355328∧t.length+s.length≤9223372036854775807) (oc (byt_app _ _:(qS t)++(qS s)=(qS (t++s))) oz)))<|qA<|qK mxd [.d,.n,.n,.r] [ps 4 (nv s.length),ps 5 (.av .nilIface)]<|qX (Wk.eq (show _=[ps 4 (nv s.length),ps 5 (.av .nilIface),pb 0 77 [(.opn 0 0),(.osl 82 0 ((t++s:qP).length))],pb 82 5 (qS (t++s))] from by simp only [List.length_append,List.length_cons,List.length_nil,Nat.zero_add])) ?_
 exact zz fun cx_ a_ hI_=>zU (H':=[some (77,[(.opn 0 0),(.osl 2 0 ((t++s:qP).length))]),none,some (5,(qS (t++s)))]) (.inr rfl) (Wk.ren3 [ps 4 (nv s.length),ps 5 (.av .nilIface),pb 0 77 [(.opn 0 0),(.osl 2 0 ((t++s:qP).length))],pb 2 5 (qS (t++s))] 2 hc0 [0,1,82] [(kb 2,(qS (t++s)))] (oc (qI _) (oz)) (by kernel_rfl) rfl rfl (by kernel_rfl) (by kernel_rfl)) rfl (oc rfl (oc rfl (oz))) (fun cx_ a_ hI_=>zK (l':=[ps 4 (nv s.length),ps 5 (.av .nilIface),pb 0 77 [(.opn 0 0),(.osl 2 0 ((t++s:qP).length))],pb 2 5 (qS (t++s))]) (by kernel_rfl) cx_ a_ hI_) hI_
theorem bl_pc (t:qP):PC Tryz.prog 31 [(.opt 0 0)] [some (77,[(.opn 0 0),(.osl 1 0 t.length)]),some (5,(qS t))] (nv t.length) [some (77,[(.opn 0 0),(.osl 1 0 t.length)]),some (5,(qS t))]:=by
 refine zH Tryz.func31 rfl (by kernel_rfl) (Nat.le_of_ble_eq_true rfl) (by kernel_rfl) (l0:=[ps 0 (.opt 0 0),pb 0 77 [(.opn 0 0),(.osl 1 0 t.length)],pb 1 5 (qS t)]) rfl (fun c0 Bor hc0=>?_)
 refine qA<|qK mxd [.r] []<|qA<|qK mxd [.d,.n,.r] [ps 2 (nv t.length)] ?_
 exact zz fun cx_ a_ hI_=>zU (H':=[some (77,[(.opn 0 0),(.osl 1 0 t.length)]),some (5,(qS t))]) (.inr rfl) (Wk.ren3 [ps 2 (nv t.length),pb 0 77 [(.opn 0 0),(.osl 1 0 t.length)],pb 1 5 (qS t)] 2 hc0 [0,1] [(kb 1,(qS t))] (oc (qI _) (oz)) (by kernel_rfl) rfl rfl (by kernel_rfl) (by kernel_rfl)) rfl (oc rfl (oc rfl (oz))) (fun cx_ a_ hI_=>zK (l':=[ps 2 (nv t.length),pb 0 77 [(.opn 0 0),(.osl 1 0 t.length)],pb 1 5 (qS t)]) (by kernel_rfl) cx_ a_ hI_) hI_
theorem bl0_pc  : PC Tryz.prog 31 [(.opt 0 0)] [some (77,[(.av (.pointer none)),sn])] (iv 0) [some (77,[(.av (.pointer none)),sn])]:=by
 refine zH Tryz.func31 rfl (by kernel_rfl) (Nat.le_of_ble_eq_true rfl) (by kernel_rfl) (l0:=[ps 0 (.opt 0 0),pb 0 77 [(.av (.pointer none)),sn]]) rfl (fun c0 Bor hc0=>?_)
 refine qA<|qK mxd [.r] []<|qA<|qK mxd [.d,.n,.r] [ps 2 (iv 0)] ?_
 exact zy hc0 [2] [0] (hbk:=by exact oc rfl (oz))
theorem pitches_pc (t:qP) (l:List Pt) (hb:t.length+(Qv l).length≤140737488355328) (hl:l.length≤5864062014634):PC Tryz.prog 95 [(.opt 0 0),(.ssl (zF l) 0 l.length)] [some (77,[(.opn 0 0),(.osl 1 0 t.length)]),some (5,(qS t))] (.tup []) [some (77,[(.opn 0 0),(.osl 2 0 ((t++Qv l:qP).length))]),none,some (5,(qS (t++Qv l)))]:=by
 refine zH Tryz.func95 rfl (by kernel_rfl) (Nat.le_of_ble_eq_true rfl) (by kernel_rfl) (l0:=[ps 0 (.opt 0 0),ps 1 (.ssl (zF l) 0 l.length),pb 0 77 [(.opn 0 0),(.osl 1 0 t.length)],pb 1 5 (qS t)]) rfl (fun c0 Bor hc0=>?_)
 refine qA<|qA ?_
 have hcl:=ch_len l
 refine qK mxd [.k2,.n,.r] [ps 10 (bv (decide (1<(l.length:Int))))] ?_
 by_cases h1:1<(l.length:Int)
 ·refine qQ (zO h1) ?_
  rw [if_pos (show 1<l.length from by omega)] at hcl
  refine zX mxd [(3,.call [0,1] [(.opt 0 0),(.av (.int .u8 60))] [some (77,[(.opn 0 0),(.osl 1 0 t.length)]),some (5,(qS t))] (.av .nilIface) [some (77,[(.opn 0 0),(.osl 2 0 ((t++[60]:qP).length))]),none,some (5,(qS (t++[60])))])] [.k2,.d,.d,.n,.d,.n] [pb 0 77 [(.opn 0 0),(.osl 50 0 ((t++[60]:qP).length))],pb 50 5 (qM (yH [0,1] 50) (qS (t++[60])))] (oc (YV t 60 (by (first|omega|(simp only [List.length_append,List.length_cons,List.length_nil];omega)))) (oc (rfl:[(.opt 0 0),(.av (.int .u8 60))]=qM (qY [0,1] 50) [(.opt 0 0),(.av (.int .u8 60))]) (oc (rfl:[(.opn 0 0),(.osl 1 0 t.length)]=qM (qY [0,1] 50) [(.opn 0 0),(.osl 1 0 t.length)]) (oc ((qG (qI _)).symm:(qS t)=qM (qY [0,1] 50) (qS t)) oz))))<|qX (Wk.eq (show _=[ps 0 (.opt 0 0),ps 1 (.ssl (zF l) 0 l.length),pb 0 77 [(.opn 0 0),(.osl 50 0 ((t++[60]:qP).length))],pb 50 5 (qS (t++[60]))] from by simp only [qG (qI _)])) ?_
  refine qA<|qA<|qX (Wk.eq (show _=[ps 0 (.opt 0 0),ps 1 (.ssl (zF l) 0 l.length),pb 0 77 [(.opn 0 0),(.osl 50 0 (((t++[60])++zB (l.take 0):qP).length))],pb 50 5 (qS ((t++[60])++zB (l.take 0)))] from by rw [List.take_zero];rw [show zB []=[] from rfl,List.append_nil])) ?_
  refine qK mxd [.k2,.n,.n,.n,.r] [ps 15 (.ssl (zF l) 0 l.length),ps 16 (nv l.length),ps 17 (iv 0)]<|qU<|yB (α:={x:Nat // x≤l.length}) (fun x=>[ps 0 (.opt 0 0),ps 1 (.ssl (zF l) 0 l.length),ps 15 (.ssl (zF l) 0 l.length),ps 16 (nv l.length),ps 17 (nv x.1),pb 0 77 [(.opn 0 0),(.osl 2 0 (((t++[60])++zB (l.take x.1):qP).length))],pb 2 5 (qS ((t++[60])++zB (l.take x.1)))]) (fun x=>l.length-x.1) 3 ⟨0,Nat.zero_le _⟩ (Wk.ren3 _ 2 hc0 [0,1,50] [(kb 2,(qS ((t++[60])++zB (l.take 0))))] (oc (qI _) (oz)) (by kernel_rfl) rfl rfl (by kernel_rfl) (by kernel_rfl)) ?_
  rintro ⟨i,hi⟩
  refine qA<|qj mxd [] [ps 0 (.opt 0 0),ps 1 (.ssl (zF l) 0 l.length),ps 15 (.ssl (zF l) 0 l.length),ps 16 (nv l.length),ps 17 (nv i),ps 18 (bv (decide (((i:Nat):Int)<(l.length:Int)))),pb 0 77 [(.opn 0 0),(.osl 2 0 (((t++[60])++zB (l.take i):qP).length))],pb 2 5 (qS ((t++[60])++zB (l.take i)))] (oz)<|qA ?_
  by_cases h2:(i:Int)<(l.length:Int)
  ·refine qQ (zO h2)<|qE<|qA<|qU<|qA ?_
   have hrm:=qfa (show i<l.length from by omega)
   have hpt:(vk (l.getD i zT).1 (l.getD i zT).2.1 (l.getD i zT).2.2).1=wX (l.getD i zT):=rfl
   have hple:=qfb l i
   refine zX mxd [(1,.nat (i*3)),(2,.cells [(iv ((l.getD i zT).1)),(iv ((l.getD i zT).2.1)),(iv ((l.getD i zT).2.2))])] [.k2,.n,.n,.k3,.d,.k2,.n] [ps 4 (nv i),ps 5 (.opt 35 0),pb 35 52 [(iv ((l.getD i zT).1)),(iv ((l.getD i zT).2.1)),(iv ((l.getD i zT).2.2))]] (oc (by omega:(0:Int)≤(i:Int)∧(i:Int)<(l.length:Int)) (oc (by omega:0+(((i:Nat):Int):Int).toNat*3=(i*3)) (oc (yF ptC 3 (fun _=>rfl) zT l i 0 3 (by omega) (by decide):(i*3)+3≤((zF l)).length∧(((zF l)).drop (i*3)).take 3=[(iv ((l.getD i zT).1)),(iv ((l.getD i zT).2.1)),(iv ((l.getD i zT).2.2))]) oz))) ?_
   refine qA<|qA<|qK mxd [.k2,.d,.k4,.n,.r] [ps 23 (bv (decide (0<(i:Int))))] ?_
   by_cases h3:0<(i:Int)
   ·refine qQ (zO h3) ?_
    have hrm2:=hrm.1
    rw [if_neg (show ¬ i=0 from by omega)] at hrm2
    refine zX mxd [(3,.call [0,2] [(.opt 0 0),(.av (.int .u8 32))] [some (77,[(.opn 0 0),(.osl 1 0 (((t++[60])++zB (l.take i):qP).length))]),some (5,(qS ((t++[60])++zB (l.take i))))] (.av .nilIface) [some (77,[(.opn 0 0),(.osl 2 0 ((((t++[60])++zB (l.take i))++[32]:qP).length))]),none,some (5,(qS (((t++[60])++zB (l.take i))++[32])))])] [.k6,.d,.d,.n,.d,.k1,.n] [pb 0 77 [(.opn 0 0),(.osl 99 0 ((((t++[60])++zB (l.take i))++[32]:qP).length))],pb 99 5 (qM (yH [0,2] 99) (qS (((t++[60])++zB (l.take i))++[32])))] (oc (YV ((t++[60])++zB (l.take i)) 32 (by (first|omega|(simp only [List.length_append,List.length_cons,List.length_nil];omega)))) (oc (rfl:[(.opt 0 0),(.av (.int .u8 32))]=qM (qY [0,2] 99) [(.opt 0 0),(.av (.int .u8 32))]) (oc (rfl:[(.opn 0 0),(.osl 2 0 (((t++[60])++zB (l.take i):qP).length))]=qM (qY [0,2] 99) [(.opn 0 0),(.osl 1 0 (((t++[60])++zB (l.take i):qP).length))]) (oc ((qG (qI _)).symm:(qS ((t++[60])++zB (l.take i)))=qM (qY [0,2] 99) (qS ((t++[60])++zB (l.take i)))) oz))))<|qX (Wk.eq (show _=[ps 0 (.opt 0 0),ps 1 (.ssl (zF l) 0 l.length),ps 5 (.opt 35 0),ps 15 (.ssl (zF l) 0 l.length),ps 16 (nv l.length),ps 17 (nv i),pb 0 77 [(.opn 0 0),(.osl 99 0 ((((t++[60])++zB (l.take i))++[32]:qP).length))],pb 35 52 [(iv ((l.getD i zT).1)),(iv ((l.getD i zT).2.1)),(iv ((l.getD i zT).2.2))],pb 99 5 (qS (((t++[60])++zB (l.take i))++[32]))] from by simp only [qG (qI _)])) ?_
    refine qA<|vJ mxd 1 [.k2,.d,.n,.k4,.d,.r] [ps 6 (sv (st ((vk ((l.getD i zT).1) ((l.getD i zT).2.1) ((l.getD i zT).2.2)).1)))] (yC 115 (qbi ((l.getD i zT).1) ((l.getD i zT).2.1) ((l.getD i zT).2.2)) oz) ?_
    rw [if_neg (show ¬ i=0 from by omega)] at hrm
    refine qX (Wk.eq (show _=[ps 0 (.opt 0 0),ps 1 (.ssl (zF l) 0 l.length),ps 6 (sv (st (wX (l.getD i zT)))),ps 15 (.ssl (zF l) 0 l.length),ps 16 (nv l.length),ps 17 (nv i),pb 0 77 [(.opn 0 0),(.osl 99 0 ((((t++[60])++zB (l.take i))++[32]:qP).length))],pb 99 5 (qS (((t++[60])++zB (l.take i))++[32]))] from by rfl)) ?_
    refine zX mxd [(4,.call [0,99] [(.opt 0 0),(sv (st (wX (l.getD i zT))))] [some (77,[(.opn 0 0),(.osl 1 0 ((((t++[60])++zB (l.take i))++[32]:qP).length))]),some (5,(qS (((t++[60])++zB (l.take i))++[32])))] (.tup [(nv (((wX (l.getD i zT))).length)),(.av .nilIface)]) [some (77,[(.opn 0 0),(.osl 2 0 (((((t++[60])++zB (l.take i))++[32])++(wX (l.getD i zT)):qP).length))]),none,some (5,(qS ((((t++[60])++zB (l.take i))++[32])++(wX (l.getD i zT)))))])] [.k2,.d,.k3,.d,.n,.d,.n] [pb 0 77 [(.opn 0 0),(.osl 195 0 (((((t++[60])++zB (l.take i))++[32])++(wX (l.getD i zT)):qP).length))],pb 195 5 (qM (yH [0,99] 195) (qS ((((t++[60])++zB (l.take i))++[32])++(wX (l.getD i zT)))))] (oc (wv (((t++[60])++zB (l.take i))++[32]) (wX (l.getD i zT)) (by (first|omega|(simp only [List.length_append,List.length_cons,List.length_nil];omega)))) (oc (rfl:[(.opt 0 0),(sv (st (wX (l.getD i zT))))]=qM (qY [0,99] 195) [(.opt 0 0),(sv (st (wX (l.getD i zT))))]) (oc (rfl:[(.opn 0 0),(.osl 99 0 ((((t++[60])++zB (l.take i))++[32]:qP).length))]=qM (qY [0,99] 195) [(.opn 0 0),(.osl 1 0 ((((t++[60])++zB (l.take i))++[32]:qP).length))]) (oc ((qG (qI _)).symm:(qS (((t++[60])++zB (l.take i))++[32]))=qM (qY [0,99] 195) (qS (((t++[60])++zB (l.take i))++[32]))) oz))))<|zE<|qX (Wk.eq (show _=[ps 0 (.opt 0 0),ps 1 (.ssl (zF l) 0 l.length),ps 15 (.ssl (zF l) 0 l.length),ps 16 (nv l.length),ps 17 (nv i),pb 0 77 [(.opn 0 0),(.osl 195 0 (((((t++[60])++zB (l.take i))++[32])++(wX (l.getD i zT)):qP).length))],pb 195 5 (qS ((((t++[60])++zB (l.take i))++[32])++(wX (l.getD i zT))))] from by simp only [qG (qI _)])) ?_
    refine zX mxd [] [.k4,.d,.n,.r] [ps 17 (iv (((i:Nat):Int)+1))] (oi (((i:Nat):Int)+1) (by omega) oz) ?_
    have hn:=ZX (show i<l.length from by omega)
    rw [if_neg (by omega)] at hn
    exact zQ ⟨i+1,by show i+1≤l.length;omega⟩ (Wk.trans (Wk.eq (show _=[ps 0 (.opt 0 0),ps 1 (.ssl (zF l) 0 l.length),ps 15 (.ssl (zF l) 0 l.length),ps 16 (nv l.length),ps 17 (nv (i+1)),pb 0 77 [(.opn 0 0),(.osl 195 0 (((t++[60])++zB (l.take (i+1)):qP).length))],pb 195 5 (qS ((t++[60])++zB (l.take (i+1))))] from by rw [hn];simp only [List.append_assoc];rfl)) (Wk.ren3 _ 2 hc0 [0,1,195] [(kb 2,(qS ((t++[60])++zB (l.take (i+1)))))] (oc (qI _) (oz)) (by kernel_rfl) rfl rfl (by kernel_rfl) (by kernel_rfl))) (show l.length-(i+1)<l.length-i from by show l.length-(i+1)<l.length-i;omega)
   refine qT (zM h3)<|qE<|qA<|vJ mxd 1 [.k2,.d,.n,.k3,.d,.k2,.d] [ps 6 (sv (st ((vk ((l.getD i zT).1) ((l.getD i zT).2.1) ((l.getD i zT).2.2)).1)))] (yC 83 (qbi ((l.getD i zT).1) ((l.getD i zT).2.1) ((l.getD i zT).2.2)) oz) ?_
   rw [if_pos (show i=0 from by omega)] at hrm
   refine qX (Wk.eq (show _=[ps 0 (.opt 0 0),ps 1 (.ssl (zF l) 0 l.length),ps 6 (sv (st (wX (l.getD i zT)))),ps 15 (.ssl (zF l) 0 l.length),ps 16 (nv l.length),ps 17 (nv i),pb 0 77 [(.opn 0 0),(.osl 2 0 (((t++[60])++zB (l.take i):qP).length))],pb 2 5 (qS ((t++[60])++zB (l.take i)))] from by rfl)) ?_
   refine zX mxd [(4,.call [0,2] [(.opt 0 0),(sv (st (wX (l.getD i zT))))] [some (77,[(.opn 0 0),(.osl 1 0 (((t++[60])++zB (l.take i):qP).length))]),some (5,(qS ((t++[60])++zB (l.take i))))] (.tup [(nv (((wX (l.getD i zT))).length)),(.av .nilIface)]) [some (77,[(.opn 0 0),(.osl 2 0 ((((t++[60])++zB (l.take i))++(wX (l.getD i zT)):qP).length))]),none,some (5,(qS (((t++[60])++zB (l.take i))++(wX (l.getD i zT)))))])] [.k2,.d,.k3,.d,.n,.d,.n] [pb 0 77 [(.opn 0 0),(.osl 163 0 ((((t++[60])++zB (l.take i))++(wX (l.getD i zT)):qP).length))],pb 163 5 (qM (yH [0,2] 163) (qS (((t++[60])++zB (l.take i))++(wX (l.getD i zT)))))] (oc (wv ((t++[60])++zB (l.take i)) (wX (l.getD i zT)) (by (first|omega|(simp only [List.length_append,List.length_cons,List.length_nil];omega)))) (oc (rfl:[(.opt 0 0),(sv (st (wX (l.getD i zT))))]=qM (qY [0,2] 163) [(.opt 0 0),(sv (st (wX (l.getD i zT))))]) (oc (rfl:[(.opn 0 0),(.osl 2 0 (((t++[60])++zB (l.take i):qP).length))]=qM (qY [0,2] 163) [(.opn 0 0),(.osl 1 0 (((t++[60])++zB (l.take i):qP).length))]) (oc ((qG (qI _)).symm:(qS ((t++[60])++zB (l.take i)))=qM (qY [0,2] 163) (qS ((t++[60])++zB (l.take i)))) oz))))<|zE<|qX (Wk.eq (show _=[ps 0 (.opt 0 0),ps 1 (.ssl (zF l) 0 l.length),ps 15 (.ssl (zF l) 0 l.length),ps 16 (nv l.length),ps 17 (nv i),pb 0 77 [(.opn 0 0),(.osl 163 0 ((((t++[60])++zB (l.take i))++(wX (l.getD i zT)):qP).length))],pb 163 5 (qS (((t++[60])++zB (l.take i))++(wX (l.getD i zT))))] from by simp only [qG (qI _)])) ?_
   refine zX mxd [] [.k4,.d,.n,.r] [ps 17 (iv (((i:Nat):Int)+1))] (oi (((i:Nat):Int)+1) (by omega) oz) ?_
   have hn:=ZX (show i<l.length from by omega)
   rw [if_pos (by omega)] at hn
   exact zQ ⟨i+1,by show i+1≤l.length;omega⟩ (Wk.trans (Wk.eq (show _=[ps 0 (.opt 0 0),ps 1 (.ssl (zF l) 0 l.length),ps 15 (.ssl (zF l) 0 l.length),ps 16 (nv l.length),ps 17 (nv (i+1)),pb 0 77 [(.opn 0 0),(.osl 163 0 (((t++[60])++zB (l.take (i+1)):qP).length))],pb 163 5 (qS ((t++[60])++zB (l.take (i+1))))] from by rw [hn,show i=0 from by omega,List.take_zero,show zB []=[] from rfl,List.append_nil];rfl)) (Wk.ren3 _ 2 hc0 [0,1,163] [(kb 2,(qS ((t++[60])++zB (l.take (i+1)))))] (oc (qI _) (oz)) (by kernel_rfl) rfl rfl (by kernel_rfl) (by kernel_rfl))) (show l.length-(i+1)<l.length-i from by show l.length-(i+1)<l.length-i;omega)
  refine qT (zM h2)<|zR rfl rfl<|qA<|qX (Wk.eq (show _=[ps 0 (.opt 0 0),ps 1 (.ssl (zF l) 0 l.length),ps 15 (.ssl (zF l) 0 l.length),ps 16 (nv l.length),ps 17 (nv i),ps 18 (bv (decide (((i:Nat):Int)<(l.length:Int)))),pb 0 77 [(.opn 0 0),(.osl 2 0 (((t++[60])++zB l:qP).length))],pb 2 5 (qS ((t++[60])++zB l))] from by rw [List.take_of_length_le (show l.length≤i from by omega)])) ?_
  refine qK mxd [.k1,.d,.d,.d,.d,.d,.n,.r] [ps 41 (bv (decide (1<(l.length:Int))))]<|qQ (zO h1)<|qj mxd [(3,.call [0,2] [(.opt 0 0),(.av (.int .u8 62))] [some (77,[(.opn 0 0),(.osl 1 0 (((t++[60])++zB l:qP).length))]),some (5,(qS ((t++[60])++zB l)))] (.av .nilIface) [some (77,[(.opn 0 0),(.osl 2 0 ((((t++[60])++zB l)++[62]:qP).length))]),none,some (5,(qS (((t++[60])++zB l)++[62])))])] [pb 0 77 [(.opn 0 0),(.osl 59 0 ((((t++[60])++zB l)++[62]:qP).length))],pb 59 5 (qM (yH [0,2] 59) (qS (((t++[60])++zB l)++[62])))] (oc (YV ((t++[60])++zB l) 62 (by (first|omega|(simp only [List.length_append,List.length_cons,List.length_nil];omega)))) (oc (rfl:[(.opt 0 0),(.av (.int .u8 62))]=qM (qY [0,2] 59) [(.opt 0 0),(.av (.int .u8 62))]) (oc (rfl:[(.opn 0 0),(.osl 2 0 (((t++[60])++zB l:qP).length))]=qM (qY [0,2] 59) [(.opn 0 0),(.osl 1 0 (((t++[60])++zB l:qP).length))]) (oc ((qG (qI _)).symm:(qS ((t++[60])++zB l))=qM (qY [0,2] 59) (qS ((t++[60])++zB l))) oz)))) ?_
  exact fun cx_ a_ hI_=>zU (H':=[some (77,[(.opn 0 0),(.osl 2 0 ((t++Qv l:qP).length))]),none,some (5,(qS (t++Qv l)))]) (.inl rfl) (Wk.trans (Wk.eq (show _=[pb 0 77 [(.opn 0 0),(.osl 59 0 ((((t++[60])++zB l)++[62]:qP).length))],pb 59 5 (qS (((t++[60])++zB l)++[62]))] from by simp only [qG (qI _)])) (Wk.trans (Wk.eq (show _=[pb 0 77 [(.opn 0 0),(.osl 59 0 ((t++Qv l:qP).length))],pb 59 5 (qS (t++Qv l))] from by rw [show Qv l=60 :: (zB l++[62]) from if_pos (show 1<l.length from by omega)];simp only [List.append_assoc,List.cons_append,List.nil_append])) (Wk.ren3 [pb 0 77 [(.opn 0 0),(.osl 2 0 ((t++Qv l:qP).length))],pb 2 5 (qS (t++Qv l))] 2 hc0 [0,1,59] [(kb 2,(qS (t++Qv l)))] (oc (qI _) (oz)) (by kernel_rfl) rfl rfl (by kernel_rfl) (by kernel_rfl)))) rfl (oc rfl (oc rfl (oz))) (fun cx_ a_ hI_=>zK (l':=[pb 0 77 [(.opn 0 0),(.osl 2 0 ((t++Qv l:qP).length))],pb 2 5 (qS (t++Qv l))]) (by kernel_rfl) cx_ a_ hI_) hI_
 refine qT (zM h1)<|qE<|qA<|qA ?_
 rw [if_neg (show ¬ 1<l.length from by omega)] at hcl
 refine qX (Wk.eq (show _=[ps 0 (.opt 0 0),ps 1 (.ssl (zF l) 0 l.length),ps 10 (bv (decide (1<(l.length:Int)))),pb 0 77 [(.opn 0 0),(.osl 1 0 ((t++zB (l.take 0):qP).length))],pb 1 5 (qS (t++zB (l.take 0)))] from by rw [List.take_zero];rw [show zB []=[] from rfl,List.append_nil])) ?_
 refine qK mxd [.k2,.d,.n,.n,.n,.r] [ps 15 (.ssl (zF l) 0 l.length),ps 16 (nv l.length),ps 17 (iv 0)]<|qU<|yB (α:={x:Nat // x≤l.length}) (fun x=>[ps 0 (.opt 0 0),ps 1 (.ssl (zF l) 0 l.length),ps 15 (.ssl (zF l) 0 l.length),ps 16 (nv l.length),ps 17 (nv x.1),pb 0 77 [(.opn 0 0),(.osl 2 0 ((t++zB (l.take x.1):qP).length))],pb 2 5 (qS (t++zB (l.take x.1)))]) (fun x=>l.length-x.1) 3 ⟨0,Nat.zero_le _⟩ (Wk.ren3D _ 2 hc0 [0,1,1] [(kb 2,(qS (t++zB (l.take 0))))] (oc (qI _) (oz)) (by kernel_rfl) rfl (by kernel_rfl) (by kernel_rfl) (by kernel_rfl)) ?_
 rintro ⟨i,hi⟩
 refine qA<|qj mxd [] [ps 0 (.opt 0 0),ps 1 (.ssl (zF l) 0 l.length),ps 15 (.ssl (zF l) 0 l.length),ps 16 (nv l.length),ps 17 (nv i),ps 18 (bv (decide (((i:Nat):Int)<(l.length:Int)))),pb 0 77 [(.opn 0 0),(.osl 2 0 ((t++zB (l.take i):qP).length))],pb 2 5 (qS (t++zB (l.take i)))] (oz)<|qA ?_
 by_cases h4:(i:Int)<(l.length:Int)
 ·refine qQ (zO h4)<|qE<|qA<|qU<|qA ?_
  have hrm:=qfa (show i<l.length from by omega)
  have hpt:(vk (l.getD i zT).1 (l.getD i zT).2.1 (l.getD i zT).2.2).1=wX (l.getD i zT):=rfl
  have hple:=qfb l i
  refine zX mxd [(1,.nat (i*3)),(2,.cells [(iv ((l.getD i zT).1)),(iv ((l.getD i zT).2.1)),(iv ((l.getD i zT).2.2))])] [.k2,.n,.n,.k3,.d,.k2,.n] [ps 4 (nv i),ps 5 (.opt 35 0),pb 35 52 [(iv ((l.getD i zT).1)),(iv ((l.getD i zT).2.1)),(iv ((l.getD i zT).2.2))]] (oc (by omega:(0:Int)≤(i:Int)∧(i:Int)<(l.length:Int)) (oc (by omega:0+(((i:Nat):Int):Int).toNat*3=(i*3)) (oc (yF ptC 3 (fun _=>rfl) zT l i 0 3 (by omega) (by decide):(i*3)+3≤((zF l)).length∧(((zF l)).drop (i*3)).take 3=[(iv ((l.getD i zT).1)),(iv ((l.getD i zT).2.1)),(iv ((l.getD i zT).2.2))]) oz))) ?_
  refine qA<|qA<|qK mxd [.k2,.d,.k4,.n,.r] [ps 23 (bv (decide (0<(i:Int))))] ?_
  by_cases h5:0<(i:Int)
  ·refine qQ (zO h5) ?_
   have hrm2:=hrm.1
   rw [if_neg (show ¬ i=0 from by omega)] at hrm2
   refine zX mxd [(3,.call [0,2] [(.opt 0 0),(.av (.int .u8 32))] [some (77,[(.opn 0 0),(.osl 1 0 ((t++zB (l.take i):qP).length))]),some (5,(qS (t++zB (l.take i))))] (.av .nilIface) [some (77,[(.opn 0 0),(.osl 2 0 (((t++zB (l.take i))++[32]:qP).length))]),none,some (5,(qS ((t++zB (l.take i))++[32])))])] [.k6,.d,.d,.n,.d,.k1,.n] [pb 0 77 [(.opn 0 0),(.osl 99 0 (((t++zB (l.take i))++[32]:qP).length))],pb 99 5 (qM (yH [0,2] 99) (qS ((t++zB (l.take i))++[32])))] (oc (YV (t++zB (l.take i)) 32 (by (first|omega|(simp only [List.length_append,List.length_cons,List.length_nil];omega)))) (oc (rfl:[(.opt 0 0),(.av (.int .u8 32))]=qM (qY [0,2] 99) [(.opt 0 0),(.av (.int .u8 32))]) (oc (rfl:[(.opn 0 0),(.osl 2 0 ((t++zB (l.take i):qP).length))]=qM (qY [0,2] 99) [(.opn 0 0),(.osl 1 0 ((t++zB (l.take i):qP).length))]) (oc ((qG (qI _)).symm:(qS (t++zB (l.take i)))=qM (qY [0,2] 99) (qS (t++zB (l.take i)))) oz))))<|qX (Wk.eq (show _=[ps 0 (.opt 0 0),ps 1 (.ssl (zF l) 0 l.length),ps 5 (.opt 35 0),ps 15 (.ssl (zF l) 0 l.length),ps 16 (nv l.length),ps 17 (nv i),pb 0 77 [(.opn 0 0),(.osl 99 0 (((t++zB (l.take i))++[32]:qP).length))],pb 35 52 [(iv ((l.getD i zT).1)),(iv ((l.getD i zT).2.1)),(iv ((l.getD i zT).2.2))],pb 99 5 (qS ((t++zB (l.take i))++[32]))] from by simp only [qG (qI _)])) ?_
   refine qA<|vJ mxd 1 [.k2,.d,.n,.k4,.d,.r] [ps 6 (sv (st ((vk ((l.getD i zT).1) ((l.getD i zT).2.1) ((l.getD i zT).2.2)).1)))] (yC 115 (qbi ((l.getD i zT).1) ((l.getD i zT).2.1) ((l.getD i zT).2.2)) oz) ?_
   rw [if_neg (show ¬ i=0 from by omega)] at hrm
   refine qX (Wk.eq (show _=[ps 0 (.opt 0 0),ps 1 (.ssl (zF l) 0 l.length),ps 6 (sv (st (wX (l.getD i zT)))),ps 15 (.ssl (zF l) 0 l.length),ps 16 (nv l.length),ps 17 (nv i),pb 0 77 [(.opn 0 0),(.osl 99 0 (((t++zB (l.take i))++[32]:qP).length))],pb 99 5 (qS ((t++zB (l.take i))++[32]))] from by rfl)) ?_
   refine zX mxd [(4,.call [0,99] [(.opt 0 0),(sv (st (wX (l.getD i zT))))] [some (77,[(.opn 0 0),(.osl 1 0 (((t++zB (l.take i))++[32]:qP).length))]),some (5,(qS ((t++zB (l.take i))++[32])))] (.tup [(nv (((wX (l.getD i zT))).length)),(.av .nilIface)]) [some (77,[(.opn 0 0),(.osl 2 0 ((((t++zB (l.take i))++[32])++(wX (l.getD i zT)):qP).length))]),none,some (5,(qS (((t++zB (l.take i))++[32])++(wX (l.getD i zT)))))])] [.k2,.d,.k3,.d,.n,.d,.n] [pb 0 77 [(.opn 0 0),(.osl 195 0 ((((t++zB (l.take i))++[32])++(wX (l.getD i zT)):qP).length))],pb 195 5 (qM (yH [0,99] 195) (qS (((t++zB (l.take i))++[32])++(wX (l.getD i zT)))))] (oc (wv ((t++zB (l.take i))++[32]) (wX (l.getD i zT)) (by (first|omega|(simp only [List.length_append,List.length_cons,List.length_nil];omega)))) (oc (rfl:[(.opt 0 0),(sv (st (wX (l.getD i zT))))]=qM (qY [0,99] 195) [(.opt 0 0),(sv (st (wX (l.getD i zT))))]) (oc (rfl:[(.opn 0 0),(.osl 99 0 (((t++zB (l.take i))++[32]:qP).length))]=qM (qY [0,99] 195) [(.opn 0 0),(.osl 1 0 (((t++zB (l.take i))++[32]:qP).length))]) (oc ((qG (qI _)).symm:(qS ((t++zB (l.take i))++[32]))=qM (qY [0,99] 195) (qS ((t++zB (l.take i))++[32]))) oz))))<|zE<|qX (Wk.eq (show _=[ps 0 (.opt 0 0),ps 1 (.ssl (zF l) 0 l.length),ps 15 (.ssl (zF l) 0 l.length),ps 16 (nv l.length),ps 17 (nv i),pb 0 77 [(.opn 0 0),(.osl 195 0 ((((t++zB (l.take i))++[32])++(wX (l.getD i zT)):qP).length))],pb 195 5 (qS (((t++zB (l.take i))++[32])++(wX (l.getD i zT))))] from by simp only [qG (qI _)])) ?_
   refine zX mxd [] [.k4,.d,.n,.r] [ps 17 (iv (((i:Nat):Int)+1))] (oi (((i:Nat):Int)+1) (by omega) oz) ?_
   have hn:=ZX (show i<l.length from by omega)
   rw [if_neg (by omega)] at hn
   exact zQ ⟨i+1,by show i+1≤l.length;omega⟩ (Wk.trans (Wk.eq (show _=[ps 0 (.opt 0 0),ps 1 (.ssl (zF l) 0 l.length),ps 15 (.ssl (zF l) 0 l.length),ps 16 (nv l.length),ps 17 (nv (i+1)),pb 0 77 [(.opn 0 0),(.osl 195 0 ((t++zB (l.take (i+1)):qP).length))],pb 195 5 (qS (t++zB (l.take (i+1))))] from by rw [hn];simp only [List.append_assoc];rfl)) (Wk.ren3 _ 2 hc0 [0,1,195] [(kb 2,(qS (t++zB (l.take (i+1)))))] (oc (qI _) (oz)) (by kernel_rfl) rfl rfl (by kernel_rfl) (by kernel_rfl))) (show l.length-(i+1)<l.length-i from by show l.length-(i+1)<l.length-i;omega)
  refine qT (zM h5)<|qE<|qA<|vJ mxd 1 [.k2,.d,.n,.k3,.d,.k2,.d] [ps 6 (sv (st ((vk ((l.getD i zT).1) ((l.getD i zT).2.1) ((l.getD i zT).2.2)).1)))] (yC 83 (qbi ((l.getD i zT).1) ((l.getD i zT).2.1) ((l.getD i zT).2.2)) oz) ?_
  rw [if_pos (show i=0 from by omega)] at hrm
  refine qX (Wk.eq (show _=[ps 0 (.opt 0 0),ps 1 (.ssl (zF l) 0 l.length),ps 6 (sv (st (wX (l.getD i zT)))),ps 15 (.ssl (zF l) 0 l.length),ps 16 (nv l.length),ps 17 (nv i),pb 0 77 [(.opn 0 0),(.osl 2 0 ((t++zB (l.take i):qP).length))],pb 2 5 (qS (t++zB (l.take i)))] from by rfl)) ?_
  refine zX mxd [(4,.call [0,2] [(.opt 0 0),(sv (st (wX (l.getD i zT))))] [some (77,[(.opn 0 0),(.osl 1 0 ((t++zB (l.take i):qP).length))]),some (5,(qS (t++zB (l.take i))))] (.tup [(nv (((wX (l.getD i zT))).length)),(.av .nilIface)]) [some (77,[(.opn 0 0),(.osl 2 0 (((t++zB (l.take i))++(wX (l.getD i zT)):qP).length))]),none,some (5,(qS ((t++zB (l.take i))++(wX (l.getD i zT)))))])] [.k2,.d,.k3,.d,.n,.d,.n] [pb 0 77 [(.opn 0 0),(.osl 163 0 (((t++zB (l.take i))++(wX (l.getD i zT)):qP).length))],pb 163 5 (qM (yH [0,2] 163) (qS ((t++zB (l.take i))++(wX (l.getD i zT)))))] (oc (wv (t++zB (l.take i)) (wX (l.getD i zT)) (by (first|omega|(simp only [List.length_append,List.length_cons,List.length_nil];omega)))) (oc (rfl:[(.opt 0 0),(sv (st (wX (l.getD i zT))))]=qM (qY [0,2] 163) [(.opt 0 0),(sv (st (wX (l.getD i zT))))]) (oc (rfl:[(.opn 0 0),(.osl 2 0 ((t++zB (l.take i):qP).length))]=qM (qY [0,2] 163) [(.opn 0 0),(.osl 1 0 ((t++zB (l.take i):qP).length))]) (oc ((qG (qI _)).symm:(qS (t++zB (l.take i)))=qM (qY [0,2] 163) (qS (t++zB (l.take i)))) oz))))<|zE<|qX (Wk.eq (show _=[ps 0 (.opt 0 0),ps 1 (.ssl (zF l) 0 l.length),ps 15 (.ssl (zF l) 0 l.length),ps 16 (nv l.length),ps 17 (nv i),pb 0 77 [(.opn 0 0),(.osl 163 0 (((t++zB (l.take i))++(wX (l.getD i zT)):qP).length))],pb 163 5 (qS ((t++zB (l.take i))++(wX (l.getD i zT))))] from by simp only [qG (qI _)])) ?_
  refine zX mxd [] [.k4,.d,.n,.r] [ps 17 (iv (((i:Nat):Int)+1))] (oi (((i:Nat):Int)+1) (by omega) oz) ?_
  have hn:=ZX (show i<l.length from by omega)
  rw [if_pos (by omega)] at hn
  exact zQ ⟨i+1,by show i+1≤l.length;omega⟩ (Wk.trans (Wk.eq (show _=[ps 0 (.opt 0 0),ps 1 (.ssl (zF l) 0 l.length),ps 15 (.ssl (zF l) 0 l.length),ps 16 (nv l.length),ps 17 (nv (i+1)),pb 0 77 [(.opn 0 0),(.osl 163 0 ((t++zB (l.take (i+1)):qP).length))],pb 163 5 (qS (t++zB (l.take (i+1))))] from by rw [hn,show i=0 from by omega,List.take_zero,show zB []=[] from rfl,List.append_nil];rfl)) (Wk.ren3 _ 2 hc0 [0,1,163] [(kb 2,(qS (t++zB (l.take (i+1)))))] (oc (qI _) (oz)) (by kernel_rfl) rfl rfl (by kernel_rfl) (by kernel_rfl))) (show l.length-(i+1)<l.length-i from by show l.length-(i+1)<l.length-i;omega)
 refine qT (zM h4)<|zR rfl rfl<|qA<|qX (Wk.eq (show _=[ps 0 (.opt 0 0),ps 1 (.ssl (zF l) 0 l.length),ps 15 (.ssl (zF l) 0 l.length),ps 16 (nv l.length),ps 17 (nv i),ps 18 (bv (decide (((i:Nat):Int)<(l.length:Int)))),pb 0 77 [(.opn 0 0),(.osl 2 0 ((t++zB l:qP).length))],pb 2 5 (qS (t++zB l))] from by rw [List.take_of_length_le (show l.length≤i from by omega)])) ?_
 refine qK mxd [.k1,.d,.d,.d,.d,.d,.n,.r] [ps 41 (bv (decide (1<(l.length:Int))))]<|qT (zM h1)<|qE ?_
 exact fun cx_ a_ hI_=>zU (H':=[some (77,[(.opn 0 0),(.osl 2 0 ((t++Qv l:qP).length))]),none,some (5,(qS (t++Qv l)))]) (.inl rfl) (Wk.trans (Wk.eq (show _=[ps 0 (.opt 0 0),ps 41 (bv (decide (1<(l.length:Int)))),pb 0 77 [(.opn 0 0),(.osl 2 0 ((t++Qv l:qP).length))],pb 2 5 (qS (t++Qv l))] from by rw [show Qv l=zB l from if_neg (show ¬ 1<l.length from by omega)])) (Wk.ren3 [pb 0 77 [(.opn 0 0),(.osl 2 0 ((t++Qv l:qP).length))],pb 2 5 (qS (t++Qv l))] 2 hc0 [0,1,2] [(kb 2,(qS (t++Qv l)))] (oc (qI _) (oz)) (by kernel_rfl) rfl rfl (by kernel_rfl) (by kernel_rfl))) rfl (oc rfl (oc rfl (oz))) (fun cx_ a_ hI_=>zK (l':=[pb 0 77 [(.opn 0 0),(.osl 2 0 ((t++Qv l:qP).length))],pb 2 5 (qS (t++Qv l))]) (by kernel_rfl) cx_ a_ hI_) hI_
end Go.Proofs.YtmlnilkbolcknaaGreatDoor.Pm
