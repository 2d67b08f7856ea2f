/-
  PITCHES AS TEXTS: signs, numbers: walks. (Printed by wip/pm.) | PITCHES AS TEXTS: printed, read: walks. (Printed by wip/pm.) | INTERVALS AS TEXTS: written: walks. (Printed by wip/pm.) | SCORE: an item counted: walk. (Printed by wip/pm.) | THE VALUE MACHINE: trailing dead numbers dropped where the result is a struct of values that nobody writes. No program in sight. | SCORE: shares: walk. (Printed by wip/pm.) | SPANS: what is wrong: walks. (Printed by wip/pm/sp.py.) | SPANS: plain: what is told stays right. | SCORE: plain: notes, and what an item that stands at a span makes of them. No program in sight. | TEXTS: pitches moved: the kit's kind of contracts, as contracts by values. | PITCHES MOVED: walks. (Printed by wip/pm.) | SPANS: a leaf: a walk. (Printed by wip/pm/sp.py.)
-/
import Derived.Test.YtmlnilkbolcknaaGreatDoorJLawSVMoved2
namespace Go.Proofs.YtmlnilkbolcknaaGreatDoor.Pm
open Go Go.Proofs.YtmlnilkbolcknaaGreatDoor.Pi

set_option maxRecDepth 100000 in
set_option maxHeartbeats 4000000 in
theorem sign_pc (r : Int) : PC Tryz.prog 182 [(.av (.int .i32 r))] [] (.tup [(iv ((qba r).1)), (bv ((qba r).2))]) [] := by
 refine qas Tryz.func182 rfl (by kernel_rfl) (Nat.le_of_ble_eq_true rfl) (by kernel_rfl) (l0 := [ps 0 (.av (.int .i32 r))]) rfl (fun c0 Bor hc0 => ?_)
 refine qaa ?_
 refine T_k mixed [] [.r] [] (oz) ?_
 refine qaa <| qaa ?_
 refine T_r mixed [] [ps 4 (.av (.int .i32 r))] (oz) ?_
 refine qan <| qaa <| qaa ?_
 refine T_k mixed [] [.k1, .n] [ps 5 (bv (decide (r = 9839)))] (oz) ?_
 by_cases h1 : r = 9839
 ·refine T_th (dty h1) ?_
  refine qag ?_
  refine T_th (dty h1) ?_
  refine qaa ?_
  refine T_r mixed [] [ps 2 (iv 1), ps 3 (bv true)] (oz) ?_
  rw [show qba r = (1, true) from by unfold qba; simp [*]]
  exact qai fun cx_ a_ hI_ => rt hc0 [ps 2 (iv 1), ps 3 (bv true)] [] hI_
 refine T_el (dtn h1) ?_
 refine T_k mixed [] [.k1, .d, .n] [ps 5 (bv (decide (r = 35)))] (oz) ?_
 by_cases h2 : r = 35
 ·refine T_th (dty h2) ?_
  refine qaa ?_
  refine T_r mixed [] [ps 2 (iv 1), ps 3 (bv true)] (oz) ?_
  rw [show qba r = (1, true) from by unfold qba; simp [*]]
  exact qai fun cx_ a_ hI_ => rt hc0 [ps 2 (iv 1), ps 3 (bv true)] [] hI_
 refine T_el (dtn h2) ?_
 refine qaa <| qaa ?_
 refine T_k mixed [] [.k1, .d, .n] [ps 8 (bv (decide (r = 119082)))] (oz) ?_
 by_cases h3 : r = 119082
 ·refine T_th (dty h3) ?_
  refine qag ?_
  refine T_th (dty h3) ?_
  refine qaa ?_
  refine T_r mixed [] [ps 2 (iv 2), ps 3 (bv true)] (oz) ?_
  rw [show qba r = (2, true) from by unfold qba; simp [*]]
  exact qai fun cx_ a_ hI_ => rt hc0 [ps 2 (iv 2), ps 3 (bv true)] [] hI_
 refine T_el (dtn h3) ?_
 refine T_k mixed [] [.k1, .d, .n] [ps 8 (bv (decide (r = 120)))] (oz) ?_
 by_cases h4 : r = 120
 ·refine T_th (dty h4) ?_
  refine qaa ?_
  refine T_r mixed [] [ps 2 (iv 2), ps 3 (bv true)] (oz) ?_
  rw [show qba r = (2, true) from by unfold qba; simp [*]]
  exact qai fun cx_ a_ hI_ => rt hc0 [ps 2 (iv 2), ps 3 (bv true)] [] hI_
 refine T_el (dtn h4) ?_
 refine qaa <| qaa ?_
 refine T_k mixed [] [.k1, .d, .n] [ps 11 (bv (decide (r = 9837)))] (oz) ?_
 by_cases h5 : r = 9837
 ·refine T_th (dty h5) ?_
  refine qag ?_
  refine T_th (dty h5) ?_
  refine qaa ?_
  refine T_r mixed [] [ps 2 (iv (-1)), ps 3 (bv true)] (oz) ?_
  rw [show qba r = (-1, true) from by unfold qba; simp [*]]
  exact qai fun cx_ a_ hI_ => rt hc0 [ps 2 (iv (-1)), ps 3 (bv true)] [] hI_
 refine T_el (dtn h5) ?_
 refine T_k mixed [] [.k1, .d, .n] [ps 11 (bv (decide (r = 98)))] (oz) ?_
 by_cases h6 : r = 98
 ·refine T_th (dty h6) ?_
  refine qaa ?_
  refine T_r mixed [] [ps 2 (iv (-1)), ps 3 (bv true)] (oz) ?_
  rw [show qba r = (-1, true) from by unfold qba; simp [*]]
  exact qai fun cx_ a_ hI_ => rt hc0 [ps 2 (iv (-1)), ps 3 (bv true)] [] hI_
 refine T_el (dtn h6) ?_
 refine qaa ?_
 refine T_r mixed [] [ps 14 (bv (decide (r = 119083)))] (oz) ?_
 by_cases h7 : r = 119083
 ·refine T_th (dty h7) ?_
  refine qaa ?_
  refine T_r mixed [] [ps 2 (iv (-2)), ps 3 (bv true)] (oz) ?_
  rw [show qba r = (-2, true) from by unfold qba; simp [*]]
  exact qai fun cx_ a_ hI_ => rt hc0 [ps 2 (iv (-2)), ps 3 (bv true)] [] hI_
 refine T_el (dtn h7) ?_
 refine qag <| qbg <| qaa ?_
 refine T_r mixed [] [ps 2 (iv 0), ps 3 (bv false)] (oz) ?_
 rw [show qba r = (0, false) from by unfold qba; simp [*]]
 exact qai fun cx_ a_ hI_ => rt hc0 [ps 2 (iv 0), ps 3 (bv false)] [] hI_
set_option maxRecDepth 100000 in
set_option maxHeartbeats 4000000 in
theorem qqk (s : List UInt8) (hs : s.length ≤ 9223372036854775807) : PC Tryz.prog 164 [(sv (st s))] [] (.tup [(iv ((numS s).1)), (bv ((numS s).2))]) [] := by
 refine qas Tryz.func164 rfl (by kernel_rfl) (Nat.le_of_ble_eq_true rfl) (by kernel_rfl) (l0 := [ps 0 (sv (st s))]) rfl (fun c0 Bor hc0 => ?_)
 refine qaa ?_
 refine T_k mixed [] [.r] [] (oz) ?_
 refine qaa ?_
 refine T_k mixed [(1, .call [] [(sv (st s)), (sv (st ([45] : List UInt8)))] [] (bv (Lib.hasPrefix s ([45] : List UInt8))) [])] [.k1, .n] [ps 4 (bv (Lib.hasPrefix s ([45] : List UInt8)))] (oc (qjm s ([45] : List UInt8)) (oc (rfl : Ren0 24 [(sv (st s)), (sv (st ([45] : List UInt8)))]) oz)) ?_
 refine qaa <| qaa ?_
 refine T_k mixed [] [.k2, .n] [ps 9 (bv (Lib.hasPrefix s ([45] : List UInt8)))] (oz) ?_
 by_cases h1 : (Lib.hasPrefix s ([45] : List UInt8)) = true
 ·refine qau (b := (Lib.hasPrefix s ([45] : List UInt8))) rfl h1 ?_
  have hp1 := pre_len h1
  refine T_k mixed [(1, .val (.av (.string (st (s.drop 1)))))] [.d, .n, .k1, .d] [ps 0 (sv (st (s.drop 1)))] (oc (by first | omega | (simp only [List.length_cons, List.length_nil, List.length_drop, List.length_append, List.length_take]; omega) : (0 : Int) ≤ (1 : Int) ∧ (1 : Int) ≤ ((s.length : Nat) : Int) ∧ ((s.length : Nat) : Int) ≤ ((s.length : Nat) : Int)) (oc (qft _ _ _ rfl : (st s).extract ((1 : Int) : Int).toNat (((s.length : Nat) : Int) : Int).toNat = st (s.drop 1)) oz)) ?_
  refine qaa <| qaa ?_
  by_cases h2 : (s.drop 1) = ([] : List UInt8)
  ·refine T_k mixed [(1, .val (.av (.bool (decide ((s.drop 1) = ([] : List UInt8)))))), (3, .gd true .no), (4, .gd true .no), (5, .gd true .no), (6, .yes true), (8, .gd true .no), (9, .gd true .no), (10, .gd true .no), (11, .gd true .no), (18, .gd true .no), (21, .gd true .no), (22, .gd true .no), (23, .gd true .no)] [.k2, .n] [ps 36 (bv true)] (oc (qdm _ _ : ((st (s.drop 1)).toList == (st ([] : List UInt8)).toList) = decide ((s.drop 1) = ([] : List UInt8))) (oc (dty h2) (oc (dty h2) (oc (dty h2) (oc (dty h2) (oc (rfl : true = true) (oc (rfl : true = true) (oc (rfl : true = true) (oc (rfl : true = true) (oc (rfl : true = true) (oc (rfl : true = true) (oc (rfl : true = true) (oc (rfl : true = true) oz))))))))))))) ?_
   refine qau (b := true) rfl rfl ?_
   refine qaa ?_
   refine T_r mixed [] [ps 2 (iv 0), ps 3 (bv false)] (oz) ?_
   rw [qep (s := s) (by rw [qgo h1]; exact .inl h2)]
   exact qai fun cx_ a_ hI_ => rt hc0 [ps 2 (iv 0), ps 3 (bv false)] [] hI_
  by_cases h3 : 4 < (((s.drop 1).length : Nat) : Int)
  ·refine T_k mixed [(1, .val (.av (.bool (decide ((s.drop 1) = ([] : List UInt8)))))), (3, .gd false (.no)), (4, .gd false (.no)), (5, .gd false (.no)), (6, .yes false), (8, .gd true .no), (9, .gd true .no), (10, .gd true .no), (11, .gd true .no), (18, .gd true .no), (19, .yes true), (21, .gd true .no), (22, .gd true .no), (23, .gd true .no)] [.k2, .n] [ps 36 (bv true)] (oc (qdm _ _ : ((st (s.drop 1)).toList == (st ([] : List UInt8)).toList) = decide ((s.drop 1) = ([] : List UInt8))) (oc (dtn h2) (oc (dtn h2) (oc (dtn h2) (oc (dtn h2) (oc (dty h3) (oc (dty h3) (oc (dty h3) (oc (dty h3) (oc (dty h3) (oc (dty h3) (oc (rfl : true = true) (oc (rfl : true = true) (oc (rfl : true = true) oz)))))))))))))) ?_
   refine qau (b := true) rfl rfl ?_
   refine qaa ?_
   refine T_r mixed [] [ps 2 (iv 0), ps 3 (bv false)] (oz) ?_
   rw [qep (s := s) (by rw [qgo h1]; exact .inr (.inl (by omega)))]
   exact qai fun cx_ a_ hI_ => rt hc0 [ps 2 (iv 0), ps 3 (bv false)] [] hI_
  by_cases h4 : ((((s.drop 1).getD 0 0).toNat : Nat) : Int) = 48
  ·by_cases h5 : 1 < (((s.drop 1).length : Nat) : Int)
   ·refine T_k mixed [(1, .val (.av (.bool (decide ((s.drop 1) = ([] : List UInt8)))))), (3, .gd false (.no)), (4, .gd false (.no)), (5, .gd false (.no)), (6, .yes false), (8, .gd false (.no)), (9, .gd false (.no)), (10, .gd false (.no)), (11, .gd false (.no)), (12, .gd true (.no)), (13, .gd true (.no)), (14, .gd true (.no)), (15, .gd true (.no)), (16, .gd true .no), (17, .gd true (.yes true)), (18, .gd false (.yes true)), (19, .yes false), (21, .gd true .no), (22, .gd true .no), (23, .gd true .no)] [.k2, .n] [ps 36 (bv true)] (oc (qdm _ _ : ((st (s.drop 1)).toList == (st ([] : List UInt8)).toList) = decide ((s.drop 1) = ([] : List UInt8))) (oc (dtn h2) (oc (dtn h2) (oc (dtn h2) (oc (dtn h2) (oc (dtn h3) (oc (dtn h3) (oc (by have := List.length_pos_iff.2 h2; omega : (0 : Int) ≤ 0 ∧ 0 < (((s.drop 1).length : Nat) : Int)) (oc (dtn h3) (oc (dtn h3) (oc (dty h4) (oc (dty h4) (oc (dty h4) (oc (dty h4) (oc (dty h5) (oc (dty h4) (oc (dty h5) (oc (dtn h3) (oc (dty h4) (oc (dtn h3) (oc (rfl : true = true) (oc (rfl : true = true) (oc (rfl : true = true) oz))))))))))))))))))))))) ?_
    refine qau (b := true) rfl rfl ?_
    refine qaa ?_
    refine T_r mixed [] [ps 2 (iv 0), ps 3 (bv false)] (oz) ?_
    rw [qep (s := s) (by rw [qgo h1]; exact .inr (.inr (.inl ⟨by omega, .inl (by omega)⟩)))]
    exact qai fun cx_ a_ hI_ => rt hc0 [ps 2 (iv 0), ps 3 (bv false)] [] hI_
   refine T_k mixed [(1, .val (.av (.bool (decide ((s.drop 1) = ([] : List UInt8)))))), (3, .gd false (.no)), (4, .gd false (.no)), (5, .gd false (.no)), (6, .yes false), (8, .gd false (.no)), (9, .gd false (.no)), (10, .gd false (.no)), (11, .gd false (.no)), (12, .gd true (.no)), (13, .gd true (.no)), (14, .gd true (.no)), (15, .gd true (.no)), (16, .gd false (.no)), (17, .gd true (.yes false)), (18, .gd false (.yes true)), (19, .yes false), (21, .gd true .no), (22, .gd true .no), (23, .gd true .no), (24, .yes true)] [.k2, .n] [ps 36 (bv true)] (oc (qdm _ _ : ((st (s.drop 1)).toList == (st ([] : List UInt8)).toList) = decide ((s.drop 1) = ([] : List UInt8))) (oc (dtn h2) (oc (dtn h2) (oc (dtn h2) (oc (dtn h2) (oc (dtn h3) (oc (dtn h3) (oc (by have := List.length_pos_iff.2 h2; omega : (0 : Int) ≤ 0 ∧ 0 < (((s.drop 1).length : Nat) : Int)) (oc (dtn h3) (oc (dtn h3) (oc (dty h4) (oc (dty h4) (oc (dty h4) (oc (dty h4) (oc (dtn h5) (oc (dty h4) (oc (dtn h5) (oc (dtn h3) (oc (dty h4) (oc (dtn h3) (oc (h1 : (Lib.hasPrefix s ([45] : List UInt8)) = true) (oc (h1 : (Lib.hasPrefix s ([45] : List UInt8)) = true) (oc (h1 : (Lib.hasPrefix s ([45] : List UInt8)) = true) (oc (h1 : (Lib.hasPrefix s ([45] : List UInt8)) = true) oz)))))))))))))))))))))))) ?_
   refine qau (b := true) rfl rfl ?_
   refine qaa ?_
   refine T_r mixed [] [ps 2 (iv 0), ps 3 (bv false)] (oz) ?_
   rw [qep (s := s) (by rw [qgo h1]; exact .inr (.inr (.inl ⟨by omega, .inr h1⟩)))]
   exact qai fun cx_ a_ hI_ => rt hc0 [ps 2 (iv 0), ps 3 (bv false)] [] hI_
  refine T_k mixed [(1, .val (.av (.bool (decide ((s.drop 1) = ([] : List UInt8)))))), (3, .gd false (.no)), (4, .gd false (.no)), (5, .gd false (.no)), (6, .yes false), (8, .gd false (.no)), (9, .gd false (.no)), (10, .gd false (.no)), (11, .gd false (.no)), (12, .gd false .no), (13, .gd false .no), (14, .gd false .no), (15, .gd false .no), (17, .gd false .no), (18, .gd false (.yes false)), (19, .yes false), (21, .gd false (.no)), (22, .gd false (.call [] [(sv (st (s.drop 1))), (sv (st digs))] [] (sv (st (Lib.trimS (s.drop 1) digs))) [])), (23, .gd false (.val (.av (.bool (!decide ((Lib.trimS (s.drop 1) digs) = ([] : List UInt8)))))))] [.k2, .n] [ps 36 (bv (!(decide ((Lib.trimS (s.drop 1) digs) = ([] : List UInt8)))))] (oc (qdm _ _ : ((st (s.drop 1)).toList == (st ([] : List UInt8)).toList) = decide ((s.drop 1) = ([] : List UInt8))) (oc (dtn h2) (oc (dtn h2) (oc (dtn h2) (oc (dtn h2) (oc (dtn h3) (oc (dtn h3) (oc (by have := List.length_pos_iff.2 h2; omega : (0 : Int) ≤ 0 ∧ 0 < (((s.drop 1).length : Nat) : Int)) (oc (dtn h3) (oc (dtn h3) (oc (dtn h4) (oc (dtn h4) (oc (dtn h4) (oc (dtn h4) (oc (dtn h4) (oc (dtn h3) (oc (dtn h4) (oc (dtn h3) (oc (rfl : false = false) (oc (rfl : false = false) (oc (qhc (s.drop 1) digs (by rw [List.length_drop]; omega) (by decide) qdw) (oc (rfl : [(sv (st (s.drop 1))), (sv (st ([48, 49, 50, 51, 52, 53, 54, 55, 56, 57] : List UInt8)))] = renL (sigi [] 248) [(sv (st (s.drop 1))), (sv (st digs))]) (oc (rfl : false = false) (oc (qhe _ _ : (!((st (Lib.trimS (s.drop 1) digs)).toList == (st ([] : List UInt8)).toList)) = !decide ((Lib.trimS (s.drop 1) digs) = ([] : List UInt8))) oz)))))))))))))))))))))))) ?_
  by_cases h6 : (Lib.trimS (s.drop 1) digs) = ([] : List UInt8)
  ·refine T_el (bt h6) ?_
   refine qag <| qaa ?_
   have hv := qon (qez (m := Lib.hasPrefix s [45]) (t := (s.drop 1)) h2 h3 (.inl h4) h6)
   refine T_k mixed [(1, .call [] [(sv (st (s.drop 1)))] [] (.tup [(iv (qbn (s.drop 1))), (.av .nilIface)]) [])] [.d, .k1, .n, .d] [ps 5 (iv (qbn (s.drop 1)))] (oc (qmg (s.drop 1) _ (by omega) hv.1 : PC Tryz.prog 137 [(sv (st (s.drop 1)))] [] (.tup [(iv (qbn (s.drop 1))), (.av .nilIface)]) []) (oc (rfl : Ren0 280 [(sv (st (s.drop 1)))]) oz)) ?_
   refine qaa <| qaa ?_
   refine T_k mixed [] [.d, .k1, .n] [ps 42 (bv (Lib.hasPrefix s ([45] : List UInt8)))] (oz) ?_
   refine qau (b := (Lib.hasPrefix s ([45] : List UInt8))) rfl h1 ?_
   refine T_r mixed [] [ps 5 (iv (0 - (qbn (s.drop 1))))] (oc (by simp only [InK]; omega : InK .i64 (0 - (qbn (s.drop 1)))) oz) ?_
   refine qaa ?_
   refine T_r mixed [] [ps 2 (iv (0 - (qbn (s.drop 1)))), ps 3 (bv true)] (oz) ?_
   rw [numS_neg (s := s) (qez (m := Lib.hasPrefix s [45]) (t := (s.drop 1)) h2 h3 (.inl h4) h6) h1]
   exact qai fun cx_ a_ hI_ => rt hc0 [ps 2 (iv (0 - (qbn (s.drop 1)))), ps 3 (bv true)] [] hI_
  refine T_th (bf h6) ?_
  refine qaa ?_
  refine T_r mixed [] [ps 2 (iv 0), ps 3 (bv false)] (oz) ?_
  rw [qep (s := s) (by rw [qgo h1]; exact .inr (.inr (.inr h6)))]
  exact qai fun cx_ a_ hI_ => rt hc0 [ps 2 (iv 0), ps 3 (bv false)] [] hI_
 refine qbf (b := (Lib.hasPrefix s ([45] : List UInt8))) rfl (Bool.eq_false_iff.2 h1) ?_
 refine qag <| qaa <| qaa ?_
 by_cases h7 : s = ([] : List UInt8)
 ·refine T_k mixed [(1, .val (.av (.bool (decide (s = ([] : List UInt8)))))), (3, .gd true .no), (4, .gd true .no), (5, .gd true .no), (6, .yes true), (8, .gd true .no), (9, .gd true .no), (10, .gd true .no), (11, .gd true .no), (18, .gd true .no), (21, .gd true .no), (22, .gd true .no), (23, .gd true .no)] [.k2, .d, .n] [ps 36 (bv true)] (oc (qdm _ _ : ((st s).toList == (st ([] : List UInt8)).toList) = decide (s = ([] : List UInt8))) (oc (dty h7) (oc (dty h7) (oc (dty h7) (oc (dty h7) (oc (rfl : true = true) (oc (rfl : true = true) (oc (rfl : true = true) (oc (rfl : true = true) (oc (rfl : true = true) (oc (rfl : true = true) (oc (rfl : true = true) (oc (rfl : true = true) oz))))))))))))) ?_
  refine qau (b := true) rfl rfl ?_
  refine qaa ?_
  refine T_r mixed [] [ps 2 (iv 0), ps 3 (bv false)] (oz) ?_
  rw [qep (s := s) (by rw [qdx h1]; exact .inl h7)]
  exact qai fun cx_ a_ hI_ => rt hc0 [ps 2 (iv 0), ps 3 (bv false)] [] hI_
 by_cases h8 : 4 < ((s.length : Nat) : Int)
 ·refine T_k mixed [(1, .val (.av (.bool (decide (s = ([] : List UInt8)))))), (3, .gd false (.no)), (4, .gd false (.no)), (5, .gd false (.no)), (6, .yes false), (8, .gd true .no), (9, .gd true .no), (10, .gd true .no), (11, .gd true .no), (18, .gd true .no), (19, .yes true), (21, .gd true .no), (22, .gd true .no), (23, .gd true .no)] [.k2, .d, .n] [ps 36 (bv true)] (oc (qdm _ _ : ((st s).toList == (st ([] : List UInt8)).toList) = decide (s = ([] : List UInt8))) (oc (dtn h7) (oc (dtn h7) (oc (dtn h7) (oc (dtn h7) (oc (dty h8) (oc (dty h8) (oc (dty h8) (oc (dty h8) (oc (dty h8) (oc (dty h8) (oc (rfl : true = true) (oc (rfl : true = true) (oc (rfl : true = true) oz)))))))))))))) ?_
  refine qau (b := true) rfl rfl ?_
  refine qaa ?_
  refine T_r mixed [] [ps 2 (iv 0), ps 3 (bv false)] (oz) ?_
  rw [qep (s := s) (by rw [qdx h1]; exact .inr (.inl (by omega)))]
  exact qai fun cx_ a_ hI_ => rt hc0 [ps 2 (iv 0), ps 3 (bv false)] [] hI_
 by_cases h9 : (((s.getD 0 0).toNat : Nat) : Int) = 48
 ·by_cases h10 : 1 < ((s.length : Nat) : Int)
  ·refine T_k mixed [(1, .val (.av (.bool (decide (s = ([] : List UInt8)))))), (3, .gd false (.no)), (4, .gd false (.no)), (5, .gd false (.no)), (6, .yes false), (8, .gd false (.no)), (9, .gd false (.no)), (10, .gd false (.no)), (11, .gd false (.no)), (12, .gd true (.no)), (13, .gd true (.no)), (14, .gd true (.no)), (15, .gd true (.no)), (16, .gd true .no), (17, .gd true (.yes true)), (18, .gd false (.yes true)), (19, .yes false), (21, .gd true .no), (22, .gd true .no), (23, .gd true .no)] [.k2, .d, .n] [ps 36 (bv true)] (oc (qdm _ _ : ((st s).toList == (st ([] : List UInt8)).toList) = decide (s = ([] : List UInt8))) (oc (dtn h7) (oc (dtn h7) (oc (dtn h7) (oc (dtn h7) (oc (dtn h8) (oc (dtn h8) (oc (by have := List.length_pos_iff.2 h7; omega : (0 : Int) ≤ 0 ∧ 0 < ((s.length : Nat) : Int)) (oc (dtn h8) (oc (dtn h8) (oc (dty h9) (oc (dty h9) (oc (dty h9) (oc (dty h9) (oc (dty h10) (oc (dty h9) (oc (dty h10) (oc (dtn h8) (oc (dty h9) (oc (dtn h8) (oc (rfl : true = true) (oc (rfl : true = true) (oc (rfl : true = true) oz))))))))))))))))))))))) ?_
   refine qau (b := true) rfl rfl ?_
   refine qaa ?_
   refine T_r mixed [] [ps 2 (iv 0), ps 3 (bv false)] (oz) ?_
   rw [qep (s := s) (by rw [qdx h1]; exact .inr (.inr (.inl ⟨by omega, .inl (by omega)⟩)))]
   exact qai fun cx_ a_ hI_ => rt hc0 [ps 2 (iv 0), ps 3 (bv false)] [] hI_
  refine T_k mixed [(1, .val (.av (.bool (decide (s = ([] : List UInt8)))))), (3, .gd false (.no)), (4, .gd false (.no)), (5, .gd false (.no)), (6, .yes false), (8, .gd false (.no)), (9, .gd false (.no)), (10, .gd false (.no)), (11, .gd false (.no)), (12, .gd true (.no)), (13, .gd true (.no)), (14, .gd true (.no)), (15, .gd true (.no)), (16, .gd false (.no)), (17, .gd true (.yes false)), (18, .gd false (.yes true)), (19, .yes false), (21, .gd false (.no)), (22, .gd false (.call [] [(sv (st s)), (sv (st digs))] [] (sv (st (Lib.trimS s digs))) [])), (23, .gd false (.val (.av (.bool (!decide ((Lib.trimS s digs) = ([] : List UInt8))))))), (24, .yes false)] [.k2, .d, .n] [ps 36 (bv (!(decide ((Lib.trimS s digs) = ([] : List UInt8)))))] (oc (qdm _ _ : ((st s).toList == (st ([] : List UInt8)).toList) = decide (s = ([] : List UInt8))) (oc (dtn h7) (oc (dtn h7) (oc (dtn h7) (oc (dtn h7) (oc (dtn h8) (oc (dtn h8) (oc (by have := List.length_pos_iff.2 h7; omega : (0 : Int) ≤ 0 ∧ 0 < ((s.length : Nat) : Int)) (oc (dtn h8) (oc (dtn h8) (oc (dty h9) (oc (dty h9) (oc (dty h9) (oc (dty h9) (oc (dtn h10) (oc (dty h9) (oc (dtn h10) (oc (dtn h8) (oc (dty h9) (oc (dtn h8) (oc (Bool.eq_false_iff.2 h1 : (Lib.hasPrefix s ([45] : List UInt8)) = false) (oc (Bool.eq_false_iff.2 h1 : (Lib.hasPrefix s ([45] : List UInt8)) = false) (oc (qhc s digs hs (by decide) qdw) (oc (rfl : [(sv (st s)), (sv (st ([48, 49, 50, 51, 52, 53, 54, 55, 56, 57] : List UInt8)))] = renL (sigi [] 224) [(sv (st s)), (sv (st digs))]) (oc (Bool.eq_false_iff.2 h1 : (Lib.hasPrefix s ([45] : List UInt8)) = false) (oc (qhe _ _ : (!((st (Lib.trimS s digs)).toList == (st ([] : List UInt8)).toList)) = !decide ((Lib.trimS s digs) = ([] : List UInt8))) (oc (Bool.eq_false_iff.2 h1 : (Lib.hasPrefix s ([45] : List UInt8)) = false) oz))))))))))))))))))))))))))) ?_
  by_cases h11 : (Lib.trimS s digs) = ([] : List UInt8)
  ·refine T_el (bt h11) ?_
   refine qag <| qaa ?_
   have hv := qon (qez (m := Lib.hasPrefix s [45]) (t := s) h7 h8 (.inr ⟨h10, h1⟩) h11)
   refine T_k mixed [(1, .call [] [(sv (st s))] [] (.tup [(iv (qbn s)), (.av .nilIface)]) [])] [.d, .k1, .n, .d] [ps 5 (iv (qbn s))] (oc (qmg s _ (by omega) hv.1 : PC Tryz.prog 137 [(sv (st s))] [] (.tup [(iv (qbn s)), (.av .nilIface)]) []) (oc (rfl : Ren0 256 [(sv (st s))]) oz)) ?_
   refine qaa <| qaa ?_
   refine T_k mixed [] [.d, .k1, .n] [ps 42 (bv (Lib.hasPrefix s ([45] : List UInt8)))] (oz) ?_
   refine qbf (b := (Lib.hasPrefix s ([45] : List UInt8))) rfl (Bool.eq_false_iff.2 h1) ?_
   refine qag <| qaa ?_
   refine T_r mixed [] [ps 2 (iv (qbn s)), ps 3 (bv true)] (oz) ?_
   rw [quq (s := s) (qez (m := Lib.hasPrefix s [45]) (t := s) h7 h8 (.inr ⟨h10, h1⟩) h11) h1]
   exact qai fun cx_ a_ hI_ => rt hc0 [ps 2 (iv (qbn s)), ps 3 (bv true)] [] hI_
  refine T_th (bf h11) ?_
  refine qaa ?_
  refine T_r mixed [] [ps 2 (iv 0), ps 3 (bv false)] (oz) ?_
  rw [qep (s := s) (by rw [qdx h1]; exact .inr (.inr (.inr h11)))]
  exact qai fun cx_ a_ hI_ => rt hc0 [ps 2 (iv 0), ps 3 (bv false)] [] hI_
 refine T_k mixed [(1, .val (.av (.bool (decide (s = ([] : List UInt8)))))), (3, .gd false (.no)), (4, .gd false (.no)), (5, .gd false (.no)), (6, .yes false), (8, .gd false (.no)), (9, .gd false (.no)), (10, .gd false (.no)), (11, .gd false (.no)), (12, .gd false .no), (13, .gd false .no), (14, .gd false .no), (15, .gd false .no), (17, .gd false .no), (18, .gd false (.yes false)), (19, .yes false), (21, .gd false (.no)), (22, .gd false (.call [] [(sv (st s)), (sv (st digs))] [] (sv (st (Lib.trimS s digs))) [])), (23, .gd false (.val (.av (.bool (!decide ((Lib.trimS s digs) = ([] : List UInt8)))))))] [.k2, .d, .n] [ps 36 (bv (!(decide ((Lib.trimS s digs) = ([] : List UInt8)))))] (oc (qdm _ _ : ((st s).toList == (st ([] : List UInt8)).toList) = decide (s = ([] : List UInt8))) (oc (dtn h7) (oc (dtn h7) (oc (dtn h7) (oc (dtn h7) (oc (dtn h8) (oc (dtn h8) (oc (by have := List.length_pos_iff.2 h7; omega : (0 : Int) ≤ 0 ∧ 0 < ((s.length : Nat) : Int)) (oc (dtn h8) (oc (dtn h8) (oc (dtn h9) (oc (dtn h9) (oc (dtn h9) (oc (dtn h9) (oc (dtn h9) (oc (dtn h8) (oc (dtn h9) (oc (dtn h8) (oc (rfl : false = false) (oc (rfl : false = false) (oc (qhc s digs hs (by decide) qdw) (oc (rfl : [(sv (st s)), (sv (st ([48, 49, 50, 51, 52, 53, 54, 55, 56, 57] : List UInt8)))] = renL (sigi [] 224) [(sv (st s)), (sv (st digs))]) (oc (rfl : false = false) (oc (qhe _ _ : (!((st (Lib.trimS s digs)).toList == (st ([] : List UInt8)).toList)) = !decide ((Lib.trimS s digs) = ([] : List UInt8))) oz)))))))))))))))))))))))) ?_
 by_cases h12 : (Lib.trimS s digs) = ([] : List UInt8)
 ·refine T_el (bt h12) ?_
  refine qag <| qaa ?_
  have hv := qon (qez (m := Lib.hasPrefix s [45]) (t := s) h7 h8 (.inl h9) h12)
  refine T_k mixed [(1, .call [] [(sv (st s))] [] (.tup [(iv (qbn s)), (.av .nilIface)]) [])] [.d, .k1, .n, .d] [ps 5 (iv (qbn s))] (oc (qmg s _ (by omega) hv.1 : PC Tryz.prog 137 [(sv (st s))] [] (.tup [(iv (qbn s)), (.av .nilIface)]) []) (oc (rfl : Ren0 256 [(sv (st s))]) oz)) ?_
  refine qaa <| qaa ?_
  refine T_k mixed [] [.d, .k1, .n] [ps 42 (bv (Lib.hasPrefix s ([45] : List UInt8)))] (oz) ?_
  refine qbf (b := (Lib.hasPrefix s ([45] : List UInt8))) rfl (Bool.eq_false_iff.2 h1) ?_
  refine qag <| qaa ?_
  refine T_r mixed [] [ps 2 (iv (qbn s)), ps 3 (bv true)] (oz) ?_
  rw [quq (s := s) (qez (m := Lib.hasPrefix s [45]) (t := s) h7 h8 (.inl h9) h12) h1]
  exact qai fun cx_ a_ hI_ => rt hc0 [ps 2 (iv (qbn s)), ps 3 (bv true)] [] hI_
 refine T_th (bf h12) ?_
 refine qaa ?_
 refine T_r mixed [] [ps 2 (iv 0), ps 3 (bv false)] (oz) ?_
 rw [qep (s := s) (by rw [qdx h1]; exact .inr (.inr (.inr h12)))]
 exact qai fun cx_ a_ hI_ => rt hc0 [ps 2 (iv 0), ps 3 (bv false)] [] hI_
end Go.Proofs.YtmlnilkbolcknaaGreatDoor.Pm
namespace Go.Proofs.YtmlnilkbolcknaaGreatDoor.Pm
open Go Go.Proofs.YtmlnilkbolcknaaGreatDoor.Pi

set_option maxRecDepth 100000 in
set_option maxHeartbeats 4000000 in
theorem bad_pc0 (e n : Int) : PC Tryz.prog 179 [(iv e), (iv n)] [] (.tup [(.agg [(iv 0), (iv 0), (iv 0)]), (.agg [(iv e), (iv n)])]) [none, none] := by
 refine qas Tryz.func179 rfl (by kernel_rfl) (Nat.le_of_ble_eq_true rfl) (by kernel_rfl) (l0 := [ps 0 (iv e), ps 1 (iv n)]) rfl (fun c0 Bor hc0 => ?_)
 refine qaa ?_
 refine T_k mixed [] [.k2, .n, .n, .n, .n] [ps 4 (.opt 0 0), ps 5 (.opt 8 0), pb 0 52 [(iv 0), (iv 0), (iv 0)], pb 8 33 [(iv 0), (iv 0)]] (oz) ?_
 refine qaa ?_
 refine T_k mixed [] [.d, .d, .k3, .d, .n] [pb 8 33 [(iv e), (iv n)]] (oz) ?_
 exact qai fun cx_ a_ hI_ => rt hc0 [ps 4 (.opt 0 0), ps 5 (.opt 1 0), pb 0 52 [(iv 0), (iv 0), (iv 0)], pb 1 33 [(iv e), (iv n)]] [0, 8] hI_
theorem qjq (e n : Int) : PC Tryz.prog 179 [(iv e), (iv n)] [] ((.tup [(.agg [(iv 0), (iv 0), (iv 0)]), (.agg [(iv e), (iv n)])])) [] := qoj [none, none] rfl (fun i => by rcases i with _ | _ | i <;> rfl) (bad_pc0 e n)
set_option maxRecDepth 100000 in
set_option maxHeartbeats 4000000 in
theorem read_pc0 (s : List UInt8) (hs : s.length ≤ 9223372036854775807) : PC Tryz.prog 165 [(sv (st s))] [] (.tup [(.agg [(iv ((qaz s).1.1)), (iv ((qaz s).1.2.1)), (iv ((qaz s).1.2.2))]), (.agg [(iv ((qaz s).2.1)), (iv ((qaz s).2.2))])]) [none, none] := by
 refine qas Tryz.func165 rfl (by kernel_rfl) (Nat.le_of_ble_eq_true rfl) (by kernel_rfl) (l0 := [ps 0 (sv (st s))]) rfl (fun c0 Bor hc0 => ?_)
 refine qaa ?_
 refine T_r mixed [] [ps 0 (sv (st s)), ps 2 (.opt 0 0), ps 3 (.opt 8 0), pb 0 52 [(iv 0), (iv 0), (iv 0)], pb 8 33 [(iv 0), (iv 0)]] (oz) ?_
 refine qaa ?_
 refine T_k mixed [] [.k3, .n, .r] [ps 4 (fv 179)] (oz) ?_
 refine qaa <| qaa ?_
 by_cases h1 : s = ([] : List UInt8)
 ·refine T_k mixed [(1, .val (.av (.bool (decide (s = ([] : List UInt8)))))), (3, .gd true .no), (4, .gd true .no), (5, .gd true .no), (6, .gd true .no), (7, .yes true)] [.k4, .n, .r] [ps 21 (bv true)] (oc (qdm _ _ : ((st s).toList == (st ([] : List UInt8)).toList) = decide (s = ([] : List UInt8))) (oc (dty h1) (oc (dty h1) (oc (dty h1) (oc (dty h1) (oc (dty h1) oz)))))) ?_
  refine qau (b := true) rfl rfl ?_
  refine qaa ?_
  refine T_k mixed [(1, .call [] [(iv 2), (iv 0)] [] (.tup [(.agg [(iv 0), (iv 0), (iv 0)]), (.agg [(iv 2), (iv 0)])]) [])] [.d, .k2, .d, .d, .k1, .d, .n] [pb 8 33 [(iv 2), (iv 0)]] (oc (qjq (2 : Int) (0 : Int)) (oc (rfl : Ren0 96 [(iv 2), (iv 0)]) oz)) ?_
  rw [qqe (s := s) (.inl h1)]
  exact qai fun cx_ a_ hI_ => rt hc0 [ps 2 (.opt 0 0), ps 3 (.opt 1 0), pb 0 52 [(iv 0), (iv 0), (iv 0)], pb 1 33 [(iv 2), (iv 0)]] [0, 8] hI_
 refine T_k mixed [(1, .val (.av (.bool (decide (s = ([] : List UInt8)))))), (3, .gd false (.no)), (4, .gd false (.val (.av (.string (st [s.getD 0 0]))))), (5, .gd false (.call [] [(sv (st letB)), (sv (st [s.getD 0 0]))] [] (bv (decide (0 ≤ Lib.indexByte letB (s.getD 0 0)))) [])), (6, .gd false (.no)), (7, .yes false)] [.k4, .n, .r] [ps 21 (bv (!(decide (0 ≤ Lib.indexByte letB (s.getD 0 0)))))] (oc (qdm _ _ : ((st s).toList == (st ([] : List UInt8)).toList) = decide (s = ([] : List UInt8))) (oc (dtn h1) (oc (dtn h1) (oc (by have := len_pos h1; omega : (0 : Int) ≤ (0 : Int) ∧ (0 : Int) ≤ (1 : Int) ∧ (1 : Int) ≤ ((s.length : Nat) : Int)) (oc (qrg h1 : (st s).extract ((0 : Int) : Int).toNat ((1 : Int) : Int).toNat = st [s.getD 0 0]) (oc (dtn h1) (oc (qte letB (s.getD 0 0)) (oc (rfl : [(sv (st ([67, 68, 69, 70, 71, 65, 66] : List UInt8))), (sv (st [s.getD 0 0]))] = renL (sigi [] 64) [(sv (st letB)), (sv (st [s.getD 0 0]))]) (oc (dtn h1) (oc (dtn h1) oz)))))))))) ?_
 by_cases h2 : 0 ≤ Lib.indexByte letB (s.getD 0 0)
 ·refine T_el (bt h2) ?_
  refine qag <| qaa ?_
  have hp1 := len_pos h1
  have hbd : ∀ r, -2 ≤ (qba r).1 ∧ (qba r).1 ≤ 2 := signB_bd
  refine T_k mixed [(1, .val (.av (.string (st [s.getD 0 0])))), (2, .call [] [(sv (st letB)), (sv (st [s.getD 0 0]))] [] (iv (Lib.indexByte letB (s.getD 0 0))) [])] [.k4, .n, .d, .k2, .n] [ps 5 (.opt 120 0), pb 120 52 [(iv (Lib.indexByte letB (s.getD 0 0))), (iv 0), (iv 0)]] (oc (by first | omega | (simp only [List.length_cons, List.length_nil, List.length_drop, List.length_append, List.length_take]; omega) : (0 : Int) ≤ (0 : Int) ∧ (0 : Int) ≤ (1 : Int) ∧ (1 : Int) ≤ ((s.length : Nat) : Int)) (oc (qrg h1 : (st s).extract ((0 : Int) : Int).toNat ((1 : Int) : Int).toNat = st [s.getD 0 0]) (oc (index_pc letB (s.getD 0 0)) (oc (rfl : [(sv (st ([67, 68, 69, 70, 71, 65, 66] : List UInt8))), (sv (st [s.getD 0 0]))] = renL (sigi [] 104) [(sv (st letB)), (sv (st [s.getD 0 0]))]) oz)))) ?_
  refine qaa ?_
  refine T_k mixed [] [.k5, .n, .r] [ps 6 (iv 1)] (oz) ?_
  refine qaa <| qaa ?_
  refine T_k mixed [(2, .val (.av (.string (st (s.drop 1))))), (3, .call [] [(sv (st (s.drop 1))), (sv (st ([226, 153, 174] : List UInt8)))] [] (bv (Lib.hasPrefix (s.drop 1) ([226, 153, 174] : List UInt8))) [])] [.k6, .n, .r] [ps 33 (bv (Lib.hasPrefix (s.drop 1) ([226, 153, 174] : List UInt8)))] (oc (by first | omega | (simp only [List.length_cons, List.length_nil, List.length_drop, List.length_append, List.length_take]; omega) : (0 : Int) ≤ (1 : Int) ∧ (1 : Int) ≤ ((s.length : Nat) : Int) ∧ ((s.length : Nat) : Int) ≤ ((s.length : Nat) : Int)) (oc (qft _ _ _ rfl : (st s).extract ((1 : Int) : Int).toNat (((s.length : Nat) : Int) : Int).toNat = st (s.drop 1)) (oc (qjm (s.drop 1) ([226, 153, 174] : List UInt8)) (oc (rfl : Ren0 168 [(sv (st (s.drop 1))), (sv (st ([226, 153, 174] : List UInt8)))]) oz)))) ?_
  by_cases h3 : (Lib.hasPrefix (s.drop 1) ([226, 153, 174] : List UInt8)) = true
  ·refine qau (b := (Lib.hasPrefix (s.drop 1) ([226, 153, 174] : List UInt8))) rfl h3 ?_
   have hp3 := pre3_len h3
   rw [List.length_drop] at hp3
   refine T_k mixed [] [.k5, .d, .n, .d, .r] [ps 6 (iv 4)] (oc (by simp [InK] : InK .i64 4) oz) ?_
   refine qaa ?_
   refine T_k mixed [(2, .val (.av (.string (st (s.drop 4))))), (3, .call [] [(sv (st (s.drop 4)))] [] (.tup [(iv ((numS (s.drop 4)).1)), (bv ((numS (s.drop 4)).2))]) [])] [.d, .k5, .n, .n, .r] [ps 12 (iv ((numS (s.drop 4)).1)), ps 13 (bv ((numS (s.drop 4)).2))] (oc (by first | omega | (simp only [List.length_cons, List.length_nil, List.length_drop, List.length_append, List.length_take]; omega) : (0 : Int) ≤ (4 : Int) ∧ (4 : Int) ≤ ((s.length : Nat) : Int) ∧ ((s.length : Nat) : Int) ≤ ((s.length : Nat) : Int)) (oc (qft _ _ _ rfl : (st s).extract ((4 : Int) : Int).toNat (((s.length : Nat) : Int) : Int).toNat = st (s.drop 4)) (oc (qqk (s.drop 4) (by rw [List.length_drop]; omega)) (oc (rfl : Ren0 224 [(sv (st (s.drop 4)))]) oz)))) ?_
   refine qaa <| qaa ?_
   refine T_k mixed [] [.k6, .d, .n, .r] [ps 87 (bv (!((numS (s.drop 4)).2)))] (oz) ?_
   by_cases h4 : ((numS (s.drop 4)).2) = true
   ·refine T_el (congrArg Bool.not h4) ?_
    refine qag <| qaa <| qaa ?_
    have hnb := num_bd (s.drop 4)
    refine T_k mixed [] [.k5, .d, .d, .k2, .d, .n] [pb 120 52 [(iv (Lib.indexByte letB (s.getD 0 0))), (iv 0), (iv ((numS (s.drop 4)).1))]] (oz) ?_
    refine qaa ?_
    refine T_k mixed [(1, .call [] [(.agg [(iv (Lib.indexByte letB (s.getD 0 0))), (iv 0), (iv ((numS (s.drop 4)).1))])] [] (bv (Pi.rightB (Lib.indexByte letB (s.getD 0 0)) 0 ((numS (s.drop 4)).1))) [])] [.k5, .n, .r] [ps 97 (bv (!(Pi.rightB (Lib.indexByte letB (s.getD 0 0)) 0 ((numS (s.drop 4)).1))))] (oc (qgc (Lib.indexByte letB (s.getD 0 0)) 0 ((numS (s.drop 4)).1)) (oc (rfl : Ren0 320 [(.agg [(iv (Lib.indexByte letB (s.getD 0 0))), (iv 0), (iv ((numS (s.drop 4)).1))])]) oz)) ?_
    by_cases h5 : (Pi.rightB (Lib.indexByte letB (s.getD 0 0)) 0 ((numS (s.drop 4)).1)) = true
    ·refine T_el (congrArg Bool.not h5) ?_
     refine qag <| qaa ?_
     refine T_k mixed [] [.k2, .d, .d, .d, .d, .d, .n, .k1, .d] [pb 0 52 [(iv (Lib.indexByte letB (s.getD 0 0))), (iv 0), (iv ((numS (s.drop 4)).1))]] (oz) ?_
     rw [qkw (s := s) h1 h2 (qji h3) h4 h5]
     exact qai fun cx_ a_ hI_ => rt hc0 [ps 2 (.opt 0 0), ps 3 (.opt 1 0), pb 0 52 [(iv (Lib.indexByte letB (s.getD 0 0))), (iv 0), (iv ((numS (s.drop 4)).1))], pb 1 33 [(iv 0), (iv 0)]] [0, 8] hI_
    refine T_th (congrArg Bool.not (Bool.eq_false_iff.2 h5)) ?_
    refine qaa ?_
    refine T_k mixed [(2, .call [] [(iv 3), (iv 4)] [] (.tup [(.agg [(iv 0), (iv 0), (iv 0)]), (.agg [(iv 3), (iv 4)])]) [])] [.k2, .d, .d, .d, .d, .k1, .d, .n, .d] [pb 8 33 [(iv 3), (iv 4)]] (oc (qjq (3 : Int) (4 : Int)) (oc (rfl : Ren0 352 [(iv 3), (iv 4)]) oz)) ?_
    rw [qqc (s := s) h1 h2 (qji h3) h4 h5]
    exact qai fun cx_ a_ hI_ => rt hc0 [ps 2 (.opt 0 0), ps 3 (.opt 1 0), pb 0 52 [(iv 0), (iv 0), (iv 0)], pb 1 33 [(iv 3), (iv 4)]] [0, 8] hI_
   refine T_th (congrArg Bool.not (Bool.eq_false_iff.2 h4)) ?_
   refine qaa ?_
   refine T_k mixed [(2, .call [] [(iv 2), (iv 4)] [] (.tup [(.agg [(iv 0), (iv 0), (iv 0)]), (.agg [(iv 2), (iv 4)])]) [])] [.k2, .d, .d, .d, .d, .d, .k1, .d, .n, .d] [pb 8 33 [(iv 2), (iv 4)]] (oc (qjq (2 : Int) (4 : Int)) (oc (rfl : Ren0 304 [(iv 2), (iv 4)]) oz)) ?_
   rw [qqd (s := s) h1 h2 (qji h3) h4]
   exact qai fun cx_ a_ hI_ => rt hc0 [ps 2 (.opt 0 0), ps 3 (.opt 1 0), pb 0 52 [(iv 0), (iv 0), (iv 0)], pb 1 33 [(iv 2), (iv 4)]] [0, 8] hI_
  refine qbf (b := (Lib.hasPrefix (s.drop 1) ([226, 153, 174] : List UInt8))) rfl (Bool.eq_false_iff.2 h3) ?_
  refine qaa ?_
  refine T_k mixed [] [.k6, .n, .d, .r] [ps 7 (iv 0)] (oz) ?_
  refine qan ?_
  refine qcm (α := {x : Nat × Nat × Int // x.1 < x.2.1 ∧ x.2.1 ≤ s.length ∧ -3 ≤ x.2.2 ∧ x.2.2 ≤ 3 ∧ qcb (s.drop x.2.1) x.2.2 x.2.1 = qcb (s.drop 1) 0 1}) (fun x => [ps 0 (sv (st s)), ps 2 (.opt 0 0), ps 3 (.opt 1 0), ps 4 (fv 179), ps 5 (.opt 2 0), ps 6 (nv x.1.2.1), ps 7 (nv x.1.1), pb 0 52 [(iv 0), (iv 0), (iv 0)], pb 1 33 [(iv 0), (iv 0)], pb 2 52 [(iv (Lib.indexByte letB (s.getD 0 0))), (iv x.1.2.2), (iv 0)]]) (fun x => s.length - x.1.2.1) 3 ⟨(0, 1, 0), ⟨by decide, by show 1 ≤ s.length; omega, by decide, by decide, rfl⟩⟩ (Wk.ren2 [ps 0 (sv (st s)), ps 2 (.opt 0 0), ps 3 (.opt 1 0), ps 4 (fv 179), ps 5 (.opt 2 0), ps 6 (nv 1), ps 7 (nv 0), pb 0 52 [(iv 0), (iv 0), (iv 0)], pb 1 33 [(iv 0), (iv 0)], pb 2 52 [(iv (Lib.indexByte letB (s.getD 0 0))), (iv (0 : Int)), (iv 0)]] 0 hc0 [0, 8, 120] rfl rfl (by kernel_rfl) (by kernel_rfl)) ?_
  rintro ⟨⟨k, n, a⟩, ⟨hk, hn, ha1, ha2, hS⟩⟩
  dsimp only at hk hn ha1 ha2 hS
  refine qaa <| qan <| qaa ?_
  have hdl := qlx (s.drop n)
  rw [List.length_drop] at hdl
  have hby := hbd ((dec1 (s.drop n) : Nat) : Int)
  have hml := mul_small (x := a + (qba ((dec1 (s.drop n) : Nat) : Int)).1) (y := (qba ((dec1 (s.drop n) : Nat) : Int)).1) (by omega) (by omega) hby.1 hby.2
  refine T_r mixed [(2, .val (.av (.string (st (s.drop n))))), (3, .call [] [(sv (st (s.drop n)))] [] (.tup [(.av (.int .i32 ((dec1 (s.drop n) : Nat) : Int))), (nv (dec2 (s.drop n)))]) [])] [ps 0 (sv (st s)), ps 2 (.opt 0 0), ps 3 (.opt 1 0), ps 4 (fv 179), ps 5 (.opt 2 0), ps 6 (nv n), ps 7 (nv k), ps 8 (.av (.int .i32 ((dec1 (s.drop n) : Nat) : Int))), ps 9 (nv (dec2 (s.drop n))), pb 0 52 [(iv 0), (iv 0), (iv 0)], pb 1 33 [(iv 0), (iv 0)], pb 2 52 [(iv (Lib.indexByte letB (s.getD 0 0))), (iv a), (iv 0)]] (oc (by first | omega | (simp only [List.length_cons, List.length_nil, List.length_drop, List.length_append, List.length_take]; omega) : (0 : Int) ≤ ((n : Nat) : Int) ∧ ((n : Nat) : Int) ≤ ((s.length : Nat) : Int) ∧ ((s.length : Nat) : Int) ≤ ((s.length : Nat) : Int)) (oc (qft _ _ _ rfl : (st s).extract (((n : Nat) : Int) : Int).toNat (((s.length : Nat) : Int) : Int).toNat = st (s.drop n)) (oc (qrj (s.drop n)) (oc (rfl : Ren0 27 [(sv (st (s.drop n)))]) oz)))) ?_
  refine qaa ?_
  refine T_k mixed [(1, .call [] [(.av (.int .i32 ((dec1 (s.drop n) : Nat) : Int)))] [] (.tup [(iv ((qba ((dec1 (s.drop n) : Nat) : Int)).1)), (bv ((qba ((dec1 (s.drop n) : Nat) : Int)).2))]) [])] [.k7, .d, .k1, .n, .n, .r] [ps 10 (iv ((qba ((dec1 (s.drop n) : Nat) : Int)).1)), ps 11 (bv ((qba ((dec1 (s.drop n) : Nat) : Int)).2))] (oc (sign_pc ((dec1 (s.drop n) : Nat) : Int)) (oc (rfl : Ren0 83 [(.av (.int .i32 ((dec1 (s.drop n) : Nat) : Int)))]) oz)) ?_
  refine qaa <| qaa ?_
  refine T_k mixed [] [.k8, .k1, .d, .n, .r] [ps 51 (bv (!((qba ((dec1 (s.drop n) : Nat) : Int)).2)))] (oz) ?_
  by_cases h6 : ((qba ((dec1 (s.drop n) : Nat) : Int)).2) = true
  ·refine T_el (congrArg Bool.not h6) ?_
   refine qag <| qaa <| qaa ?_
   refine T_k mixed [] [.k8, .k1, .d, .k2, .d, .n] [pb 2 52 [(iv (Lib.indexByte letB (s.getD 0 0))), (iv (a + ((qba ((dec1 (s.drop n) : Nat) : Int)).1))), (iv 0)]] (oc (by simp only [InK]; omega : InK .i64 (a + ((qba ((dec1 (s.drop n) : Nat) : Int)).1))) oz) ?_
   refine qaa ?_
   by_cases h7 : ((a + ((qba ((dec1 (s.drop n) : Nat) : Int)).1)) * ((qba ((dec1 (s.drop n) : Nat) : Int)).1)) < 0
   ·refine T_k mixed [(6, .gd true .no), (7, .gd true .no), (8, .gd true .no), (9, .gd true .no), (10, .gd true .no), (11, .gd true .no), (12, .gd true .no), (13, .yes true)] [.k8, .d, .n, .r] [ps 70 (bv true)] (oc (by simp only [InK]; omega : InK .i64 ((a + ((qba ((dec1 (s.drop n) : Nat) : Int)).1)) * ((qba ((dec1 (s.drop n) : Nat) : Int)).1))) (oc (dty h7) (oc (dty h7) (oc (dty h7) (oc (dty h7) (oc (dty h7) (oc (dty h7) (oc (dty h7) (oc (dty h7) oz))))))))) ?_
    refine qau (b := true) rfl rfl ?_
    refine qaa ?_
    refine T_k mixed [(2, .call [] [(iv 3), (nv n)] [] (.tup [(.agg [(iv 0), (iv 0), (iv 0)]), (.agg [(iv 3), (iv ((n : Nat) : Int))])]) [])] [.d, .k2, .d, .d, .d, .d, .d, .d, .k1, .d, .n, .d] [pb 1 33 [(iv 3), (iv ((n : Nat) : Int))]] (oc (qjq (3 : Int) ((n : Nat) : Int)) (oc (rfl : Ren0 323 [(iv 3), (nv n)]) oz)) ?_
    rw [qqf (s := s) h1 h2 (qdp h3 hS (qmv h6 (.inl h7)))]
    exact qai fun cx_ a_ hI_ => qav (rt hc0 [ps 2 (.opt 0 0), ps 3 (.opt 1 0), pb 0 52 [(iv 0), (iv 0), (iv 0)], pb 1 33 [(iv 3), (iv ((n : Nat) : Int))]] [0, 1] hI_)
   refine T_k mixed [(6, .gd false (.no)), (7, .gd false (.no)), (8, .gd false (.no)), (9, .gd false (.no)), (10, .gd false (.no)), (11, .gd false (.no)), (12, .gd false (.no)), (13, .yes false)] [.k8, .d, .n, .r] [ps 70 (bv (decide (3 < (max (a + ((qba ((dec1 (s.drop n) : Nat) : Int)).1)) (0 - (a + ((qba ((dec1 (s.drop n) : Nat) : Int)).1)))))))] (oc (by simp only [InK]; omega : InK .i64 ((a + ((qba ((dec1 (s.drop n) : Nat) : Int)).1)) * ((qba ((dec1 (s.drop n) : Nat) : Int)).1))) (oc (dtn h7) (oc (dtn h7) (oc (dtn h7) (oc (dtn h7) (oc (dtn h7) (oc (by simp only [InK]; omega : InK .i64 (0 - (a + ((qba ((dec1 (s.drop n) : Nat) : Int)).1)))) (oc (dtn h7) (oc (dtn h7) (oc (dtn h7) oz)))))))))) ?_
   by_cases h8 : 3 < (max (a + ((qba ((dec1 (s.drop n) : Nat) : Int)).1)) (0 - (a + ((qba ((dec1 (s.drop n) : Nat) : Int)).1))))
   ·refine T_th (dty h8) ?_
    refine qaa ?_
    refine T_k mixed [(2, .call [] [(iv 3), (nv n)] [] (.tup [(.agg [(iv 0), (iv 0), (iv 0)]), (.agg [(iv 3), (iv ((n : Nat) : Int))])]) [])] [.d, .k2, .d, .d, .d, .d, .d, .d, .k1, .d, .n, .d] [pb 1 33 [(iv 3), (iv ((n : Nat) : Int))]] (oc (qjq (3 : Int) ((n : Nat) : Int)) (oc (rfl : Ren0 323 [(iv 3), (nv n)]) oz)) ?_
    rw [qqf (s := s) h1 h2 (qdp h3 hS (qmv h6 (.inr h8)))]
    exact qai fun cx_ a_ hI_ => qav (rt hc0 [ps 2 (.opt 0 0), ps 3 (.opt 1 0), pb 0 52 [(iv 0), (iv 0), (iv 0)], pb 1 33 [(iv 3), (iv ((n : Nat) : Int))]] [0, 1] hI_)
   refine T_el (dtn h8) ?_
   refine qag ?_
   refine T_k mixed [] [.k5, .d, .n, .k1, .d, .d, .r] [ps 6 (iv (((n : Nat) : Int) + ((dec2 (s.drop n) : Nat) : Int)))] (oc (by simp only [InK]; omega : InK .i64 (((n : Nat) : Int) + ((dec2 (s.drop n) : Nat) : Int))) oz) ?_
   refine qbg ?_
   refine T_k mixed [] [.k6, .d, .n, .r] [ps 7 (iv (((k : Nat) : Int) + 1))] (oc (by simp only [InK]; omega : InK .i64 (((k : Nat) : Int) + 1)) oz) ?_
   have hon := qko (l := s.drop n) (a := a) (n := n) h6 (by rintro (h | h); exact h7 h; exact h8 h)
   rw [List.drop_drop] at hon
   have hd1 := (qkp h6).2
   exact qce ⟨(k + 1, n + dec2 (s.drop n), a + (qba ((dec1 (s.drop n) : Nat) : Int)).1), ⟨by show k + 1 < n + dec2 (s.drop n); omega, by show n + dec2 (s.drop n) ≤ s.length; omega, by show -3 ≤ a + (qba ((dec1 (s.drop n) : Nat) : Int)).1; omega, by show a + (qba ((dec1 (s.drop n) : Nat) : Int)).1 ≤ 3; omega, hon.symm.trans hS⟩⟩ (Wk.ren2 [ps 0 (sv (st s)), ps 2 (.opt 0 0), ps 3 (.opt 1 0), ps 4 (fv 179), ps 5 (.opt 2 0), ps 6 (nv (n + dec2 (s.drop n))), ps 7 (nv (k + 1)), pb 0 52 [(iv 0), (iv 0), (iv 0)], pb 1 33 [(iv 0), (iv 0)], pb 2 52 [(iv (Lib.indexByte letB (s.getD 0 0))), (iv (a + (qba ((dec1 (s.drop n) : Nat) : Int)).1)), (iv 0)]] 0 hc0 [0, 1, 2] rfl rfl (by kernel_rfl) (by kernel_rfl)) (show s.length - (n + dec2 (s.drop n)) < s.length - n from by show s.length - (n + dec2 (s.drop n)) < s.length - n; omega)
  refine T_th (congrArg Bool.not (Bool.eq_false_iff.2 h6)) ?_
  refine qbu rfl rfl ?_
  refine qaa ?_
  refine T_k mixed [(2, .val (.av (.string (st (s.drop n))))), (3, .call [] [(sv (st (s.drop n)))] [] (.tup [(iv ((numS (s.drop n)).1)), (bv ((numS (s.drop n)).2))]) [])] [.d, .k5, .d, .d, .d, .n, .n, .d, .r] [ps 12 (iv ((numS (s.drop n)).1)), ps 13 (bv ((numS (s.drop n)).2))] (oc (by first | omega | (simp only [List.length_cons, List.length_nil, List.length_drop, List.length_append, List.length_take]; omega) : (0 : Int) ≤ ((n : Nat) : Int) ∧ ((n : Nat) : Int) ≤ ((s.length : Nat) : Int) ∧ ((s.length : Nat) : Int) ≤ ((s.length : Nat) : Int)) (oc (qft _ _ _ rfl : (st s).extract (((n : Nat) : Int) : Int).toNat (((s.length : Nat) : Int) : Int).toNat = st (s.drop n)) (oc (qqk (s.drop n) (by rw [List.length_drop]; omega)) (oc (rfl : Ren0 171 [(sv (st (s.drop n)))]) oz)))) ?_
  refine qaa <| qaa ?_
  refine T_k mixed [] [.k6, .d, .n, .r] [ps 87 (bv (!((numS (s.drop n)).2)))] (oz) ?_
  by_cases h9 : ((numS (s.drop n)).2) = true
  ·refine T_el (congrArg Bool.not h9) ?_
   refine qag <| qaa <| qaa ?_
   have hnb := num_bd (s.drop n)
   refine T_k mixed [] [.k5, .d, .d, .k2, .d, .n] [pb 2 52 [(iv (Lib.indexByte letB (s.getD 0 0))), (iv a), (iv ((numS (s.drop n)).1))]] (oz) ?_
   refine qaa ?_
   refine T_k mixed [(1, .call [] [(.agg [(iv (Lib.indexByte letB (s.getD 0 0))), (iv a), (iv ((numS (s.drop n)).1))])] [] (bv (Pi.rightB (Lib.indexByte letB (s.getD 0 0)) a ((numS (s.drop n)).1))) [])] [.k5, .n, .r] [ps 97 (bv (!(Pi.rightB (Lib.indexByte letB (s.getD 0 0)) a ((numS (s.drop n)).1))))] (oc (qgc (Lib.indexByte letB (s.getD 0 0)) a ((numS (s.drop n)).1)) (oc (rfl : Ren0 267 [(.agg [(iv (Lib.indexByte letB (s.getD 0 0))), (iv a), (iv ((numS (s.drop n)).1))])]) oz)) ?_
   by_cases h10 : (Pi.rightB (Lib.indexByte letB (s.getD 0 0)) a ((numS (s.drop n)).1)) = true
   ·refine T_el (congrArg Bool.not h10) ?_
    refine qag <| qaa ?_
    refine T_k mixed [] [.k2, .d, .d, .d, .d, .d, .n, .k1, .d] [pb 0 52 [(iv (Lib.indexByte letB (s.getD 0 0))), (iv a), (iv ((numS (s.drop n)).1))]] (oz) ?_
    rw [qkw (s := s) h1 h2 (qdp h3 hS (qgk h6)) h9 h10]
    exact qai fun cx_ a_ hI_ => rt hc0 [ps 2 (.opt 0 0), ps 3 (.opt 1 0), pb 0 52 [(iv (Lib.indexByte letB (s.getD 0 0))), (iv a), (iv ((numS (s.drop n)).1))], pb 1 33 [(iv 0), (iv 0)]] [0, 1] hI_
   refine T_th (congrArg Bool.not (Bool.eq_false_iff.2 h10)) ?_
   refine qaa ?_
   refine T_k mixed [(2, .call [] [(iv 3), (nv n)] [] (.tup [(.agg [(iv 0), (iv 0), (iv 0)]), (.agg [(iv 3), (iv ((n : Nat) : Int))])]) [])] [.k2, .d, .d, .d, .d, .k1, .d, .n, .d] [pb 1 33 [(iv 3), (iv ((n : Nat) : Int))]] (oc (qjq (3 : Int) ((n : Nat) : Int)) (oc (rfl : Ren0 299 [(iv 3), (nv n)]) oz)) ?_
   rw [qqc (s := s) h1 h2 (qdp h3 hS (qgk h6)) h9 h10]
   exact qai fun cx_ a_ hI_ => rt hc0 [ps 2 (.opt 0 0), ps 3 (.opt 1 0), pb 0 52 [(iv 0), (iv 0), (iv 0)], pb 1 33 [(iv 3), (iv ((n : Nat) : Int))]] [0, 1] hI_
  refine T_th (congrArg Bool.not (Bool.eq_false_iff.2 h9)) ?_
  refine qaa ?_
  refine T_k mixed [(2, .call [] [(iv 2), (nv n)] [] (.tup [(.agg [(iv 0), (iv 0), (iv 0)]), (.agg [(iv 2), (iv ((n : Nat) : Int))])]) [])] [.k2, .d, .d, .d, .d, .d, .k1, .d, .n, .d] [pb 1 33 [(iv 2), (iv ((n : Nat) : Int))]] (oc (qjq (2 : Int) ((n : Nat) : Int)) (oc (rfl : Ren0 251 [(iv 2), (nv n)]) oz)) ?_
  rw [qqd (s := s) h1 h2 (qdp h3 hS (qgk h6)) h9]
  exact qai fun cx_ a_ hI_ => rt hc0 [ps 2 (.opt 0 0), ps 3 (.opt 1 0), pb 0 52 [(iv 0), (iv 0), (iv 0)], pb 1 33 [(iv 2), (iv ((n : Nat) : Int))]] [0, 1] hI_
 refine T_th (bf h2) ?_
 refine qaa ?_
 refine T_k mixed [(1, .call [] [(iv 2), (iv 0)] [] (.tup [(.agg [(iv 0), (iv 0), (iv 0)]), (.agg [(iv 2), (iv 0)])]) [])] [.d, .k2, .d, .d, .k1, .d, .n] [pb 8 33 [(iv 2), (iv 0)]] (oc (qjq (2 : Int) (0 : Int)) (oc (rfl : Ren0 96 [(iv 2), (iv 0)]) oz)) ?_
 rw [qqe (s := s) (.inr h2)]
 exact qai fun cx_ a_ hI_ => rt hc0 [ps 2 (.opt 0 0), ps 3 (.opt 1 0), pb 0 52 [(iv 0), (iv 0), (iv 0)], pb 1 33 [(iv 2), (iv 0)]] [0, 8] hI_
theorem read_pc (s : List UInt8) (hs : s.length ≤ 9223372036854775807) : PC Tryz.prog 165 [(sv (st s))] [] ((.tup [(.agg [(iv ((qaz s).1.1)), (iv ((qaz s).1.2.1)), (iv ((qaz s).1.2.2))]), (.agg [(iv ((qaz s).2.1)), (iv ((qaz s).2.2))])])) [] := qoj [none, none] rfl (fun i => by rcases i with _ | _ | i <;> rfl) (read_pc0 s hs)
end Go.Proofs.YtmlnilkbolcknaaGreatDoor.Pm
namespace Go.Proofs.YtmlnilkbolcknaaGreatDoor.Pm
open Go Go.Proofs.YtmlnilkbolcknaaGreatDoor.Pi

set_option maxRecDepth 100000 in
set_option maxHeartbeats 4000000 in
theorem qdf (s : Int) (hs : 0 ≤ s) : PC Tryz.prog 125 [(iv s)] [] (bv (qbv s)) [] := by
 refine qas Tryz.func125 rfl (by kernel_rfl) (Nat.le_of_ble_eq_true rfl) (by kernel_rfl) (l0 := [ps 0 (iv s)]) rfl (fun c0 Bor hc0 => ?_)
 refine qaa ?_
 refine T_k mixed [] [.r] [] (oz) ?_
 refine qaa ?_
 refine T_r mixed [] [ps 3 (iv ((s).tmod 7))] (oc (by decide : 7 ≠ (0 : Int)) oz) ?_
 refine qaa ?_
 refine T_wk (Wk.eq (show _ = [ps 3 (iv (s % 7))] from by rw [Int.tmod_eq_emod_of_nonneg hs])) ?_
 by_cases h1 : (s % 7) = 0
 ·refine T_r mixed [(3, .gd true .no), (4, .gd true .no), (5, .yes true), (7, .gd true .no), (8, .gd true .no)] [ps 2 (bv true)] (oc (dty h1) (oc (dty h1) (oc (dty h1) (oc (rfl : true = true) (oc (rfl : true = true) oz))))) ?_
  rw [show qbv s = true from dty (by omega)]
  exact qai fun cx_ a_ hI_ => rt hc0 [ps 2 (bv true)] [] hI_
 by_cases h2 : (s % 7) = 3
 ·refine T_r mixed [(3, .gd false (.no)), (4, .gd false (.no)), (5, .yes false), (7, .gd true .no), (8, .gd true .no), (9, .yes true)] [ps 2 (bv true)] (oc (dtn h1) (oc (dtn h1) (oc (dtn h1) (oc (dty h2) (oc (dty h2) (oc (dty h2) oz)))))) ?_
  rw [show qbv s = true from dty (by omega)]
  exact qai fun cx_ a_ hI_ => rt hc0 [ps 2 (bv true)] [] hI_
 refine T_r mixed [(3, .gd false (.no)), (4, .gd false (.no)), (5, .yes false), (7, .gd false (.no)), (8, .gd false (.no)), (9, .yes false)] [ps 2 (bv (decide ((s % 7) = 4)))] (oc (dtn h1) (oc (dtn h1) (oc (dtn h1) (oc (dtn h2) (oc (dtn h2) (oc (dtn h2) oz)))))) ?_
 refine T_wk (Wk.eq (show _ = [ps 2 (bv (qbv s))] from by rw [show decide ((s % 7) = 4) = qbv s from decide_eq_decide.2 (by omega)])) ?_
 exact qai fun cx_ a_ hI_ => rt hc0 [ps 2 (bv (qbv s))] [] hI_
set_option maxRecDepth 100000 in
set_option maxHeartbeats 4000000 in
theorem name_pc (s h : Int) (i1 : Pi.I64 s) (i2 : Pi.I64 h) : PC Tryz.prog 91 [(.agg [(iv s), (iv h)])] [] (.tup [(sv (st ((qeq s h).1))), (iv ((qeq s h).2))]) [] := by
 refine qas Tryz.func91 rfl (by kernel_rfl) (Nat.le_of_ble_eq_true rfl) (by kernel_rfl) (l0 := [ps 0 (.agg [(iv s), (iv h)])]) rfl (fun c0 Bor hc0 => ?_)
 refine qaa ?_
 refine T_r mixed [] [ps 1 (.opt 0 0), pb 0 41 [(iv s), (iv h)]] (oz) ?_
 refine qaa <| qaa ?_
 refine T_k mixed [(1, .call [] [(.agg [(iv s), (iv h)])] [] (bv (Pi.withinB s h)) [])] [.k1, .n, .r] [ps 11 (bv (!(Pi.withinB s h)))] (oc (qnb s h i1 i2) (oc (rfl : Ren0 32 [(.agg [(iv s), (iv h)])]) oz)) ?_
 by_cases h1 : (Pi.withinB s h) = true
 ·refine T_el (congrArg Bool.not h1) ?_
  refine qag <| qaa ?_
  refine T_k mixed [] [.k1, .n, .d, .r] [ps 4 (sv (st ([] : List UInt8)))] (oz) ?_
  refine qaa <| qaa ?_
  have hw := Pi.withinB_iff.1 h1
  by_cases h2 : s < 0
  ·refine T_k mixed [(4, .gd true .no), (5, .gd true .no), (6, .gd true .no), (7, .gd true .no), (11, .gd true .no), (12, .yes true)] [.k2, .n, .r] [ps 24 (bv true)] (oc (dty h2) (oc (dty h2) (oc (dty h2) (oc (dty h2) (oc (dty h2) (oc (dty h2) oz)))))) ?_
   refine qau (b := true) rfl rfl ?_
   refine qaa ?_
   refine T_k mixed [] [.k1, .d, .n, .d, .r] [ps 4 (sv (st ([45] : List UInt8)))] (oz) ?_
   refine T_k mixed [] [.k2, .d, .n] [pb 0 41 [(iv (0 - s)), (iv (0 - h))]] (oc (by simp only [InK]; omega : InK .i64 (0 - s)) (oc (by simp only [InK]; omega : InK .i64 (0 - h)) oz)) ?_
   refine qaa ?_
   obtain ⟨x, hx⟩ : ∃ x, x = 0 - s := ⟨_, rfl⟩
   obtain ⟨y, hy⟩ : ∃ y, y = 0 - h := ⟨_, rfl⟩
   refine T_wk (Wk.eq (show _ = [ps 1 (.opt 0 0), ps 4 (sv (st ([45] : List UInt8))), pb 0 41 [(iv x), (iv y)]] from by rw [hx, hy])) ?_
   have hnb := Pi.nat7_range (x % 7)
   have hl2 := qkd (o := x + 1) (by omega) (by omega)
   refine T_k mixed [(2, .call [] [(iv x), (iv 7)] [] (.tup [(iv (x / 7)), (iv (x % 7))]) [])] [.k2, .n, .n, .r] [ps 5 (iv (x / 7)), ps 6 (iv (x % 7))] (oc (qgd x (by omega) (by omega)) (oc (rfl : Ren0 264 [(iv x), (iv 7)]) oz)) ?_
   refine qaa ?_
   refine T_kd mixed [(6, .call [] [(iv (x % 7))] [] (iv (Pi.nat7 (x % 7))) [])] [[], [0], [], [2], [0, 1, 2, 3], [], [5], [0, 1, 2, 3, 4, 5, 6], [0, 1, 2, 3, 4, 5, 6, 7]] [([78], [2]), ([80], [1, 78]), ([82], [10]), ([84], [82]), ([86], [80, 84]), ([88], [12]), ([90], [88]), ([92], [86, 90]), ([14], [92])] [.k2, .d, .d, .n, .r] [ps 7 (iv ((y - (12 * (x / 7))) - (Pi.nat7 (x % 7))))] (oc (by simp only [InK]; omega : InK .i64 (12 * (x / 7))) (oc (by simp only [InK]; omega : InK .i64 (y - (12 * (x / 7)))) (oc (qgl (x % 7)) (oc (rfl : Ren0 360 [(iv (x % 7))]) (oc (by simp only [InK]; omega : InK .i64 ((y - (12 * (x / 7))) - (Pi.nat7 (x % 7)))) oz))))) ?_
   refine qaa ?_
   obtain ⟨m, hm⟩ : ∃ m, m = qfp x y := ⟨_, rfl⟩
   have hmb : -9000 ≤ m ∧ m ≤ 9000 := by rw [hm]; unfold qfp; omega
   refine T_wk (Wk.eq (show _ = [ps 1 (.opt 0 0), ps 4 (sv (st ([45] : List UInt8))), ps 7 (iv m), pb 0 41 [(iv x), (iv y)]] from by rw [hm]; rfl)) ?_
   refine T_k mixed [] [.r] [] (oz) ?_
   refine qaa <| qan <| qaa ?_
   refine T_k mixed [] [.k3, .n, .r] [ps 52 (bv (decide (0 < m)))] (oz) ?_
   by_cases h3 : 0 < m
   ·refine T_th (dty h3) ?_
    refine T_k mixed [(2, .call [] [(sv (st ([65] : List UInt8))), (nv ((min m 7).toNat))] [] (sv (st (Lib.repeatL ([65] : List UInt8) ((min m 7).toNat)))) [])] [.k2, .d, .n, .d, .r] [ps 8 (sv (st (Lib.repeatL ([65] : List UInt8) ((min m 7).toNat))))] (oc (qcq ([65] : List UInt8) ((min m 7).toNat) (by omega) (by simp only [List.length_cons, List.length_nil]; omega)) (oc (congrArg (fun z => [(sv (st ([65] : List UInt8))), iv z]) (show min m 7 = (((min m 7).toNat : Nat) : Int) from by omega) : [(sv (st ([65] : List UInt8))), (iv (min m 7))] = renL (sigi [] 432) [(sv (st ([65] : List UInt8))), (nv ((min m 7).toNat))]) oz)) ?_
    refine qbg <| qaa <| qaa ?_
    refine T_k mixed [] [.k3, .n, .r] [ps 82 (bv (decide (6 < (((Lib.repeatL ([65] : List UInt8) ((min m 7).toNat)).length : Nat) : Int))))] (oz) ?_
    by_cases h4 : 6 < (((Lib.repeatL ([65] : List UInt8) ((min m 7).toNat)).length : Nat) : Int)
    ·refine T_th (dty h4) ?_
     refine qaa ?_
     refine T_r mixed [] [ps 2 (sv (st ([] : List UInt8))), ps 3 (iv 3)] (oz) ?_
     rw [qbt (s := s) (h := h) h1 (.inl h2) (Eq.trans (by rw [← hx, ← hy]) (qcr (by rw [← hm]; exact (qga h3)) h4))]
     exact qai fun cx_ a_ hI_ => rt hc0 [ps 2 (sv (st ([] : List UInt8))), ps 3 (iv 3)] [] hI_
    refine T_el (dtn h4) ?_
    refine qag <| qaa ?_
    refine T_r mixed [(2, .val (.av (.string (st (([45] : List UInt8) ++ (Lib.repeatL ([65] : List UInt8) ((min m 7).toNat))))))), (6, .call [] [(iv (x + 1))] [] (sv (st (Lib.itoa (x + 1)))) []), (7, .val (.av (.string (st ((([45] : List UInt8) ++ (Lib.repeatL ([65] : List UInt8) ((min m 7).toNat))) ++ (Lib.itoa (x + 1)))))))] [ps 2 (sv (st ((([45] : List UInt8) ++ (Lib.repeatL ([65] : List UInt8) ((min m 7).toNat))) ++ (Lib.itoa (x + 1))))), ps 3 (iv 0)] (oc (by first | omega | (simp only [List.length_append, List.length_cons, List.length_nil]; omega) : ((([45] : List UInt8).length + (Lib.repeatL ([65] : List UInt8) ((min m 7).toNat)).length : Nat) : Int) ≤ 9223372036854775807) (oc (qbb _ _ : st ([45] : List UInt8) ++ st (Lib.repeatL ([65] : List UInt8) ((min m 7).toNat)) = st (([45] : List UInt8) ++ (Lib.repeatL ([65] : List UInt8) ((min m 7).toNat)))) (oc (by simp only [InK]; omega : InK .i64 (x + 1)) (oc (qbw (x + 1) (by omega) (by omega)) (oc (rfl : Ren0 520 [(iv (x + 1))]) (oc (by first | omega | (simp only [List.length_append, List.length_cons, List.length_nil]; omega) : (((([45] : List UInt8) ++ (Lib.repeatL ([65] : List UInt8) ((min m 7).toNat))).length + (Lib.itoa (x + 1)).length : Nat) : Int) ≤ 9223372036854775807) (oc (qbb _ _ : st (([45] : List UInt8) ++ (Lib.repeatL ([65] : List UInt8) ((min m 7).toNat))) ++ st (Lib.itoa (x + 1)) = st ((([45] : List UInt8) ++ (Lib.repeatL ([65] : List UInt8) ((min m 7).toNat))) ++ (Lib.itoa (x + 1)))) oz))))))) ?_
    rw [qbt (s := s) (h := h) h1 (.inl h2) (Eq.trans (by rw [← hx, ← hy]) (qbo (by rw [← hm]; exact (qga h3)) h4))]
    exact qai fun cx_ a_ hI_ => rt hc0 [ps 2 (sv (st ((([45] : List UInt8) ++ (Lib.repeatL ([65] : List UInt8) ((min m 7).toNat))) ++ (Lib.itoa (x + 1))))), ps 3 (iv 0)] [] hI_
   refine T_el (dtn h3) ?_
   refine qaa ?_
   by_cases h5 : m = 0
   ·refine T_k mixed [(3, .gd true (.no)), (4, .gd true (.no)), (5, .gd true (.call [] [(iv x)] [] (bv (qbv x)) [])), (6, .yes true)] [.k3, .d, .n, .r] [ps 58 (bv (qbv x))] (oc (dty h5) (oc (dty h5) (oc (dty h5) (oc (qdf x (by omega)) (oc (rfl : Ren0 456 [(iv x)]) (oc (dty h5) oz)))))) ?_
    by_cases h6 : (qbv x) = true
    ·refine qau (b := (qbv x)) rfl h6 ?_
     refine T_k mixed [] [.k2, .d, .n, .d, .r] [ps 8 (sv (st ([80] : List UInt8)))] (oz) ?_
     refine qbg <| qaa <| qaa ?_
     refine T_k mixed [] [.k3, .n, .r] [ps 82 (bv false)] (oz) ?_
     refine qbf (b := false) rfl rfl ?_
     refine qag <| qaa ?_
     refine T_r mixed [(2, .val (.av (.string (st (([45] : List UInt8) ++ ([80] : List UInt8)))))), (6, .call [] [(iv (x + 1))] [] (sv (st (Lib.itoa (x + 1)))) []), (7, .val (.av (.string (st ((([45] : List UInt8) ++ ([80] : List UInt8)) ++ (Lib.itoa (x + 1)))))))] [ps 2 (sv (st ((([45] : List UInt8) ++ ([80] : List UInt8)) ++ (Lib.itoa (x + 1))))), ps 3 (iv 0)] (oc (by first | omega | (simp only [List.length_append, List.length_cons, List.length_nil]; omega) : ((([45] : List UInt8).length + ([80] : List UInt8).length : Nat) : Int) ≤ 9223372036854775807) (oc (qbb _ _ : st ([45] : List UInt8) ++ st ([80] : List UInt8) = st (([45] : List UInt8) ++ ([80] : List UInt8))) (oc (by simp only [InK]; omega : InK .i64 (x + 1)) (oc (qbw (x + 1) (by omega) (by omega)) (oc (rfl : Ren0 560 [(iv (x + 1))]) (oc (by first | omega | (simp only [List.length_append, List.length_cons, List.length_nil]; omega) : (((([45] : List UInt8) ++ ([80] : List UInt8)).length + (Lib.itoa (x + 1)).length : Nat) : Int) ≤ 9223372036854775807) (oc (qbb _ _ : st (([45] : List UInt8) ++ ([80] : List UInt8)) ++ st (Lib.itoa (x + 1)) = st ((([45] : List UInt8) ++ ([80] : List UInt8)) ++ (Lib.itoa (x + 1)))) oz))))))) ?_
     rw [qbt (s := s) (h := h) h1 (.inl h2) (Eq.trans (by rw [← hx, ← hy]) (qbo (q := [80]) (by rw [← hm]; exact (qug h5 h6)) (by decide)))]
     exact qai fun cx_ a_ hI_ => rt hc0 [ps 2 (sv (st ((([45] : List UInt8) ++ ([80] : List UInt8)) ++ (Lib.itoa (x + 1))))), ps 3 (iv 0)] [] hI_
    refine qbf (b := (qbv x)) rfl (Bool.eq_false_iff.2 h6) ?_
    refine qaa ?_
    refine T_k mixed [] [.k3, .d, .n, .r] [ps 66 (bv (decide (m = 0)))] (oz) ?_
    refine T_th (dty h5) ?_
    refine T_k mixed [] [.k2, .d, .n, .d, .r] [ps 8 (sv (st ([77] : List UInt8)))] (oz) ?_
    refine qbg <| qaa <| qaa ?_
    refine T_k mixed [] [.k3, .n, .r] [ps 82 (bv false)] (oz) ?_
    refine qbf (b := false) rfl rfl ?_
    refine qag <| qaa ?_
    refine T_r mixed [(2, .val (.av (.string (st (([45] : List UInt8) ++ ([77] : List UInt8)))))), (6, .call [] [(iv (x + 1))] [] (sv (st (Lib.itoa (x + 1)))) []), (7, .val (.av (.string (st ((([45] : List UInt8) ++ ([77] : List UInt8)) ++ (Lib.itoa (x + 1)))))))] [ps 2 (sv (st ((([45] : List UInt8) ++ ([77] : List UInt8)) ++ (Lib.itoa (x + 1))))), ps 3 (iv 0)] (oc (by first | omega | (simp only [List.length_append, List.length_cons, List.length_nil]; omega) : ((([45] : List UInt8).length + ([77] : List UInt8).length : Nat) : Int) ≤ 9223372036854775807) (oc (qbb _ _ : st ([45] : List UInt8) ++ st ([77] : List UInt8) = st (([45] : List UInt8) ++ ([77] : List UInt8))) (oc (by simp only [InK]; omega : InK .i64 (x + 1)) (oc (qbw (x + 1) (by omega) (by omega)) (oc (rfl : Ren0 584 [(iv (x + 1))]) (oc (by first | omega | (simp only [List.length_append, List.length_cons, List.length_nil]; omega) : (((([45] : List UInt8) ++ ([77] : List UInt8)).length + (Lib.itoa (x + 1)).length : Nat) : Int) ≤ 9223372036854775807) (oc (qbb _ _ : st (([45] : List UInt8) ++ ([77] : List UInt8)) ++ st (Lib.itoa (x + 1)) = st ((([45] : List UInt8) ++ ([77] : List UInt8)) ++ (Lib.itoa (x + 1)))) oz))))))) ?_
    rw [qbt (s := s) (h := h) h1 (.inl h2) (Eq.trans (by rw [← hx, ← hy]) (qbo (q := [77]) (by rw [← hm]; exact (quh h5 h6)) (by decide)))]
    exact qai fun cx_ a_ hI_ => rt hc0 [ps 2 (sv (st ((([45] : List UInt8) ++ ([77] : List UInt8)) ++ (Lib.itoa (x + 1))))), ps 3 (iv 0)] [] hI_
   refine T_k mixed [(3, .gd false .no), (4, .gd false .no), (5, .gd false .no), (6, .yes false)] [.k3, .d, .n, .r] [ps 58 (bv false)] (oc (dtn h5) (oc (dtn h5) (oc (dtn h5) (oc (dtn h5) oz)))) ?_
   refine qbf (b := false) rfl rfl ?_
   refine qaa ?_
   refine T_k mixed [] [.k3, .d, .n, .r] [ps 66 (bv (decide (m = 0)))] (oz) ?_
   refine T_el (dtn h5) ?_
   refine qaa ?_
   refine T_k mixed [(2, .call [] [(iv x)] [] (bv (qbv x)) [])] [.k3, .d, .n, .r] [ps 69 (bv (qbv x))] (oc (qdf x (by omega)) (oc (rfl : Ren0 520 [(iv x)]) oz)) ?_
   by_cases h7 : (qbv x) = true
   ·refine qau (b := (qbv x)) rfl h7 ?_
    refine T_k mixed [(3, .call [] [(sv (st ([100] : List UInt8))), (nv ((min (0 - m) 7).toNat))] [] (sv (st (Lib.repeatL ([100] : List UInt8) ((min (0 - m) 7).toNat)))) [])] [.k2, .d, .n, .d, .r] [ps 8 (sv (st (Lib.repeatL ([100] : List UInt8) ((min (0 - m) 7).toNat))))] (oc (by simp only [InK]; omega : InK .i64 (0 - m)) (oc (qcq ([100] : List UInt8) ((min (0 - m) 7).toNat) (by omega) (by simp only [List.length_cons, List.length_nil]; omega)) (oc (congrArg (fun z => [(sv (st ([100] : List UInt8))), iv z]) (show min (0 - m) 7 = (((min (0 - m) 7).toNat : Nat) : Int) from by omega) : [(sv (st ([100] : List UInt8))), (iv (min (0 - m) 7))] = renL (sigi [] 560) [(sv (st ([100] : List UInt8))), (nv ((min (0 - m) 7).toNat))]) oz))) ?_
    refine qbg <| qaa <| qaa ?_
    refine T_k mixed [] [.k3, .n, .r] [ps 82 (bv (decide (6 < (((Lib.repeatL ([100] : List UInt8) ((min (0 - m) 7).toNat)).length : Nat) : Int))))] (oz) ?_
    by_cases h8 : 6 < (((Lib.repeatL ([100] : List UInt8) ((min (0 - m) 7).toNat)).length : Nat) : Int)
    ·refine T_th (dty h8) ?_
     refine qaa ?_
     refine T_r mixed [] [ps 2 (sv (st ([] : List UInt8))), ps 3 (iv 3)] (oz) ?_
     rw [qbt (s := s) (h := h) h1 (.inl h2) (Eq.trans (by rw [← hx, ← hy]) (qcr (by rw [← hm]; exact (qjk h3 h5 h7)) h8))]
     exact qai fun cx_ a_ hI_ => rt hc0 [ps 2 (sv (st ([] : List UInt8))), ps 3 (iv 3)] [] hI_
    refine T_el (dtn h8) ?_
    refine qag <| qaa ?_
    refine T_r mixed [(2, .val (.av (.string (st (([45] : List UInt8) ++ (Lib.repeatL ([100] : List UInt8) ((min (0 - m) 7).toNat))))))), (6, .call [] [(iv (x + 1))] [] (sv (st (Lib.itoa (x + 1)))) []), (7, .val (.av (.string (st ((([45] : List UInt8) ++ (Lib.repeatL ([100] : List UInt8) ((min (0 - m) 7).toNat))) ++ (Lib.itoa (x + 1)))))))] [ps 2 (sv (st ((([45] : List UInt8) ++ (Lib.repeatL ([100] : List UInt8) ((min (0 - m) 7).toNat))) ++ (Lib.itoa (x + 1))))), ps 3 (iv 0)] (oc (by first | omega | (simp only [List.length_append, List.length_cons, List.length_nil]; omega) : ((([45] : List UInt8).length + (Lib.repeatL ([100] : List UInt8) ((min (0 - m) 7).toNat)).length : Nat) : Int) ≤ 9223372036854775807) (oc (qbb _ _ : st ([45] : List UInt8) ++ st (Lib.repeatL ([100] : List UInt8) ((min (0 - m) 7).toNat)) = st (([45] : List UInt8) ++ (Lib.repeatL ([100] : List UInt8) ((min (0 - m) 7).toNat)))) (oc (by simp only [InK]; omega : InK .i64 (x + 1)) (oc (qbw (x + 1) (by omega) (by omega)) (oc (rfl : Ren0 648 [(iv (x + 1))]) (oc (by first | omega | (simp only [List.length_append, List.length_cons, List.length_nil]; omega) : (((([45] : List UInt8) ++ (Lib.repeatL ([100] : List UInt8) ((min (0 - m) 7).toNat))).length + (Lib.itoa (x + 1)).length : Nat) : Int) ≤ 9223372036854775807) (oc (qbb _ _ : st (([45] : List UInt8) ++ (Lib.repeatL ([100] : List UInt8) ((min (0 - m) 7).toNat))) ++ st (Lib.itoa (x + 1)) = st ((([45] : List UInt8) ++ (Lib.repeatL ([100] : List UInt8) ((min (0 - m) 7).toNat))) ++ (Lib.itoa (x + 1)))) oz))))))) ?_
    rw [qbt (s := s) (h := h) h1 (.inl h2) (Eq.trans (by rw [← hx, ← hy]) (qbo (by rw [← hm]; exact (qjk h3 h5 h7)) h8))]
    exact qai fun cx_ a_ hI_ => rt hc0 [ps 2 (sv (st ((([45] : List UInt8) ++ (Lib.repeatL ([100] : List UInt8) ((min (0 - m) 7).toNat))) ++ (Lib.itoa (x + 1))))), ps 3 (iv 0)] [] hI_
   refine qbf (b := (qbv x)) rfl (Bool.eq_false_iff.2 h7) ?_
   refine qaa ?_
   refine T_k mixed [] [.k3, .d, .n, .r] [ps 77 (bv (decide (m = (-1))))] (oz) ?_
   by_cases h9 : m = (-1)
   ·refine T_th (dty h9) ?_
    refine T_k mixed [] [.k2, .d, .n, .d, .r] [ps 8 (sv (st ([109] : List UInt8)))] (oz) ?_
    refine qbg <| qaa <| qaa ?_
    refine T_k mixed [] [.k3, .n, .r] [ps 82 (bv false)] (oz) ?_
    refine qbf (b := false) rfl rfl ?_
    refine qag <| qaa ?_
    refine T_r mixed [(2, .val (.av (.string (st (([45] : List UInt8) ++ ([109] : List UInt8)))))), (6, .call [] [(iv (x + 1))] [] (sv (st (Lib.itoa (x + 1)))) []), (7, .val (.av (.string (st ((([45] : List UInt8) ++ ([109] : List UInt8)) ++ (Lib.itoa (x + 1)))))))] [ps 2 (sv (st ((([45] : List UInt8) ++ ([109] : List UInt8)) ++ (Lib.itoa (x + 1))))), ps 3 (iv 0)] (oc (by first | omega | (simp only [List.length_append, List.length_cons, List.length_nil]; omega) : ((([45] : List UInt8).length + ([109] : List UInt8).length : Nat) : Int) ≤ 9223372036854775807) (oc (qbb _ _ : st ([45] : List UInt8) ++ st ([109] : List UInt8) = st (([45] : List UInt8) ++ ([109] : List UInt8))) (oc (by simp only [InK]; omega : InK .i64 (x + 1)) (oc (qbw (x + 1) (by omega) (by omega)) (oc (rfl : Ren0 640 [(iv (x + 1))]) (oc (by first | omega | (simp only [List.length_append, List.length_cons, List.length_nil]; omega) : (((([45] : List UInt8) ++ ([109] : List UInt8)).length + (Lib.itoa (x + 1)).length : Nat) : Int) ≤ 9223372036854775807) (oc (qbb _ _ : st (([45] : List UInt8) ++ ([109] : List UInt8)) ++ st (Lib.itoa (x + 1)) = st ((([45] : List UInt8) ++ ([109] : List UInt8)) ++ (Lib.itoa (x + 1)))) oz))))))) ?_
    rw [qbt (s := s) (h := h) h1 (.inl h2) (Eq.trans (by rw [← hx, ← hy]) (qbo (q := [109]) (by rw [← hm]; exact (quf h9 h7)) (by decide)))]
    exact qai fun cx_ a_ hI_ => rt hc0 [ps 2 (sv (st ((([45] : List UInt8) ++ ([109] : List UInt8)) ++ (Lib.itoa (x + 1))))), ps 3 (iv 0)] [] hI_
   refine T_el (dtn h9) ?_
   refine T_k mixed [(4, .call [] [(sv (st ([100] : List UInt8))), (nv ((min ((0 - m) - 1) 7).toNat))] [] (sv (st (Lib.repeatL ([100] : List UInt8) ((min ((0 - m) - 1) 7).toNat)))) [])] [.k2, .d, .n, .d, .r] [ps 8 (sv (st (Lib.repeatL ([100] : List UInt8) ((min ((0 - m) - 1) 7).toNat))))] (oc (by simp only [InK]; omega : InK .i64 (0 - m)) (oc (by simp only [InK]; omega : InK .i64 ((0 - m) - 1)) (oc (qcq ([100] : List UInt8) ((min ((0 - m) - 1) 7).toNat) (by omega) (by simp only [List.length_cons, List.length_nil]; omega)) (oc (congrArg (fun z => [(sv (st ([100] : List UInt8))), iv z]) (show min ((0 - m) - 1) 7 = (((min ((0 - m) - 1) 7).toNat : Nat) : Int) from by omega) : [(sv (st ([100] : List UInt8))), (iv (min ((0 - m) - 1) 7))] = renL (sigi [] 592) [(sv (st ([100] : List UInt8))), (nv ((min ((0 - m) - 1) 7).toNat))]) oz)))) ?_
   refine qbg <| qaa <| qaa ?_
   refine T_k mixed [] [.k3, .n, .r] [ps 82 (bv (decide (6 < (((Lib.repeatL ([100] : List UInt8) ((min ((0 - m) - 1) 7).toNat)).length : Nat) : Int))))] (oz) ?_
   by_cases h10 : 6 < (((Lib.repeatL ([100] : List UInt8) ((min ((0 - m) - 1) 7).toNat)).length : Nat) : Int)
   ·refine T_th (dty h10) ?_
    refine qaa ?_
    refine T_r mixed [] [ps 2 (sv (st ([] : List UInt8))), ps 3 (iv 3)] (oz) ?_
    rw [qbt (s := s) (h := h) h1 (.inl h2) (Eq.trans (by rw [← hx, ← hy]) (qcr (by rw [← hm]; exact (qgb h3 h5 h7 h9)) h10))]
    exact qai fun cx_ a_ hI_ => rt hc0 [ps 2 (sv (st ([] : List UInt8))), ps 3 (iv 3)] [] hI_
   refine T_el (dtn h10) ?_
   refine qag <| qaa ?_
   refine T_r mixed [(2, .val (.av (.string (st (([45] : List UInt8) ++ (Lib.repeatL ([100] : List UInt8) ((min ((0 - m) - 1) 7).toNat))))))), (6, .call [] [(iv (x + 1))] [] (sv (st (Lib.itoa (x + 1)))) []), (7, .val (.av (.string (st ((([45] : List UInt8) ++ (Lib.repeatL ([100] : List UInt8) ((min ((0 - m) - 1) 7).toNat))) ++ (Lib.itoa (x + 1)))))))] [ps 2 (sv (st ((([45] : List UInt8) ++ (Lib.repeatL ([100] : List UInt8) ((min ((0 - m) - 1) 7).toNat))) ++ (Lib.itoa (x + 1))))), ps 3 (iv 0)] (oc (by first | omega | (simp only [List.length_append, List.length_cons, List.length_nil]; omega) : ((([45] : List UInt8).length + (Lib.repeatL ([100] : List UInt8) ((min ((0 - m) - 1) 7).toNat)).length : Nat) : Int) ≤ 9223372036854775807) (oc (qbb _ _ : st ([45] : List UInt8) ++ st (Lib.repeatL ([100] : List UInt8) ((min ((0 - m) - 1) 7).toNat)) = st (([45] : List UInt8) ++ (Lib.repeatL ([100] : List UInt8) ((min ((0 - m) - 1) 7).toNat)))) (oc (by simp only [InK]; omega : InK .i64 (x + 1)) (oc (qbw (x + 1) (by omega) (by omega)) (oc (rfl : Ren0 680 [(iv (x + 1))]) (oc (by first | omega | (simp only [List.length_append, List.length_cons, List.length_nil]; omega) : (((([45] : List UInt8) ++ (Lib.repeatL ([100] : List UInt8) ((min ((0 - m) - 1) 7).toNat))).length + (Lib.itoa (x + 1)).length : Nat) : Int) ≤ 9223372036854775807) (oc (qbb _ _ : st (([45] : List UInt8) ++ (Lib.repeatL ([100] : List UInt8) ((min ((0 - m) - 1) 7).toNat))) ++ st (Lib.itoa (x + 1)) = st ((([45] : List UInt8) ++ (Lib.repeatL ([100] : List UInt8) ((min ((0 - m) - 1) 7).toNat))) ++ (Lib.itoa (x + 1)))) oz))))))) ?_
   rw [qbt (s := s) (h := h) h1 (.inl h2) (Eq.trans (by rw [← hx, ← hy]) (qbo (by rw [← hm]; exact (qgb h3 h5 h7 h9)) h10))]
   exact qai fun cx_ a_ hI_ => rt hc0 [ps 2 (sv (st ((([45] : List UInt8) ++ (Lib.repeatL ([100] : List UInt8) ((min ((0 - m) - 1) 7).toNat))) ++ (Lib.itoa (x + 1))))), ps 3 (iv 0)] [] hI_
  by_cases h11 : s = 0
  ·refine T_k mixed [(4, .gd false (.no)), (5, .gd false (.no)), (6, .gd false (.no)), (7, .gd false (.no)), (8, .gd true (.no)), (9, .gd true (.no)), (10, .gd true (.no)), (11, .gd false (.yes true)), (12, .yes false)] [.k2, .n, .r] [ps 24 (bv (decide (h < 0)))] (oc (dtn h2) (oc (dtn h2) (oc (dtn h2) (oc (dtn h2) (oc (dty h11) (oc (dty h11) (oc (dty h11) (oc (dtn h2) (oc (dty h11) (oc (dtn h2) oz)))))))))) ?_
   by_cases h12 : h < 0
   ·refine T_th (dty h12) ?_
    refine qaa ?_
    refine T_k mixed [] [.k1, .d, .n, .d, .r] [ps 4 (sv (st ([45] : List UInt8)))] (oz) ?_
    refine T_k mixed [] [.k2, .d, .n] [pb 0 41 [(iv (0 - s)), (iv (0 - h))]] (oc (by simp only [InK]; omega : InK .i64 (0 - s)) (oc (by simp only [InK]; omega : InK .i64 (0 - h)) oz)) ?_
    refine qaa ?_
    obtain ⟨x, hx⟩ : ∃ x, x = 0 - s := ⟨_, rfl⟩
    obtain ⟨y, hy⟩ : ∃ y, y = 0 - h := ⟨_, rfl⟩
    refine T_wk (Wk.eq (show _ = [ps 1 (.opt 0 0), ps 4 (sv (st ([45] : List UInt8))), pb 0 41 [(iv x), (iv y)]] from by rw [hx, hy])) ?_
    have hnb := Pi.nat7_range (x % 7)
    have hl2 := qkd (o := x + 1) (by omega) (by omega)
    refine T_k mixed [(2, .call [] [(iv x), (iv 7)] [] (.tup [(iv (x / 7)), (iv (x % 7))]) [])] [.k2, .n, .n, .r] [ps 5 (iv (x / 7)), ps 6 (iv (x % 7))] (oc (qgd x (by omega) (by omega)) (oc (rfl : Ren0 264 [(iv x), (iv 7)]) oz)) ?_
    refine qaa ?_
    refine T_kd mixed [(6, .call [] [(iv (x % 7))] [] (iv (Pi.nat7 (x % 7))) [])] [[], [0], [], [2], [0, 1, 2, 3], [], [5], [0, 1, 2, 3, 4, 5, 6], [0, 1, 2, 3, 4, 5, 6, 7]] [([78], [2]), ([80], [1, 78]), ([82], [10]), ([84], [82]), ([86], [80, 84]), ([88], [12]), ([90], [88]), ([92], [86, 90]), ([14], [92])] [.k2, .d, .d, .n, .r] [ps 7 (iv ((y - (12 * (x / 7))) - (Pi.nat7 (x % 7))))] (oc (by simp only [InK]; omega : InK .i64 (12 * (x / 7))) (oc (by simp only [InK]; omega : InK .i64 (y - (12 * (x / 7)))) (oc (qgl (x % 7)) (oc (rfl : Ren0 360 [(iv (x % 7))]) (oc (by simp only [InK]; omega : InK .i64 ((y - (12 * (x / 7))) - (Pi.nat7 (x % 7)))) oz))))) ?_
    refine qaa ?_
    obtain ⟨m, hm⟩ : ∃ m, m = qfp x y := ⟨_, rfl⟩
    have hmb : -9000 ≤ m ∧ m ≤ 9000 := by rw [hm]; unfold qfp; omega
    refine T_wk (Wk.eq (show _ = [ps 1 (.opt 0 0), ps 4 (sv (st ([45] : List UInt8))), ps 7 (iv m), pb 0 41 [(iv x), (iv y)]] from by rw [hm]; rfl)) ?_
    refine T_k mixed [] [.r] [] (oz) ?_
    refine qaa <| qan <| qaa ?_
    refine T_k mixed [] [.k3, .n, .r] [ps 52 (bv (decide (0 < m)))] (oz) ?_
    by_cases h13 : 0 < m
    ·refine T_th (dty h13) ?_
     refine T_k mixed [(2, .call [] [(sv (st ([65] : List UInt8))), (nv ((min m 7).toNat))] [] (sv (st (Lib.repeatL ([65] : List UInt8) ((min m 7).toNat)))) [])] [.k2, .d, .n, .d, .r] [ps 8 (sv (st (Lib.repeatL ([65] : List UInt8) ((min m 7).toNat))))] (oc (qcq ([65] : List UInt8) ((min m 7).toNat) (by omega) (by simp only [List.length_cons, List.length_nil]; omega)) (oc (congrArg (fun z => [(sv (st ([65] : List UInt8))), iv z]) (show min m 7 = (((min m 7).toNat : Nat) : Int) from by omega) : [(sv (st ([65] : List UInt8))), (iv (min m 7))] = renL (sigi [] 432) [(sv (st ([65] : List UInt8))), (nv ((min m 7).toNat))]) oz)) ?_
     refine qbg <| qaa <| qaa ?_
     refine T_k mixed [] [.k3, .n, .r] [ps 82 (bv (decide (6 < (((Lib.repeatL ([65] : List UInt8) ((min m 7).toNat)).length : Nat) : Int))))] (oz) ?_
     by_cases h14 : 6 < (((Lib.repeatL ([65] : List UInt8) ((min m 7).toNat)).length : Nat) : Int)
     ·refine T_th (dty h14) ?_
      refine qaa ?_
      refine T_r mixed [] [ps 2 (sv (st ([] : List UInt8))), ps 3 (iv 3)] (oz) ?_
      rw [qbt (s := s) (h := h) h1 (.inr ⟨h11, h12⟩) (Eq.trans (by rw [← hx, ← hy]) (qcr (by rw [← hm]; exact (qga h13)) h14))]
      exact qai fun cx_ a_ hI_ => rt hc0 [ps 2 (sv (st ([] : List UInt8))), ps 3 (iv 3)] [] hI_
     refine T_el (dtn h14) ?_
     refine qag <| qaa ?_
     refine T_r mixed [(2, .val (.av (.string (st (([45] : List UInt8) ++ (Lib.repeatL ([65] : List UInt8) ((min m 7).toNat))))))), (6, .call [] [(iv (x + 1))] [] (sv (st (Lib.itoa (x + 1)))) []), (7, .val (.av (.string (st ((([45] : List UInt8) ++ (Lib.repeatL ([65] : List UInt8) ((min m 7).toNat))) ++ (Lib.itoa (x + 1)))))))] [ps 2 (sv (st ((([45] : List UInt8) ++ (Lib.repeatL ([65] : List UInt8) ((min m 7).toNat))) ++ (Lib.itoa (x + 1))))), ps 3 (iv 0)] (oc (by first | omega | (simp only [List.length_append, List.length_cons, List.length_nil]; omega) : ((([45] : List UInt8).length + (Lib.repeatL ([65] : List UInt8) ((min m 7).toNat)).length : Nat) : Int) ≤ 9223372036854775807) (oc (qbb _ _ : st ([45] : List UInt8) ++ st (Lib.repeatL ([65] : List UInt8) ((min m 7).toNat)) = st (([45] : List UInt8) ++ (Lib.repeatL ([65] : List UInt8) ((min m 7).toNat)))) (oc (by simp only [InK]; omega : InK .i64 (x + 1)) (oc (qbw (x + 1) (by omega) (by omega)) (oc (rfl : Ren0 520 [(iv (x + 1))]) (oc (by first | omega | (simp only [List.length_append, List.length_cons, List.length_nil]; omega) : (((([45] : List UInt8) ++ (Lib.repeatL ([65] : List UInt8) ((min m 7).toNat))).length + (Lib.itoa (x + 1)).length : Nat) : Int) ≤ 9223372036854775807) (oc (qbb _ _ : st (([45] : List UInt8) ++ (Lib.repeatL ([65] : List UInt8) ((min m 7).toNat))) ++ st (Lib.itoa (x + 1)) = st ((([45] : List UInt8) ++ (Lib.repeatL ([65] : List UInt8) ((min m 7).toNat))) ++ (Lib.itoa (x + 1)))) oz))))))) ?_
     rw [qbt (s := s) (h := h) h1 (.inr ⟨h11, h12⟩) (Eq.trans (by rw [← hx, ← hy]) (qbo (by rw [← hm]; exact (qga h13)) h14))]
     exact qai fun cx_ a_ hI_ => rt hc0 [ps 2 (sv (st ((([45] : List UInt8) ++ (Lib.repeatL ([65] : List UInt8) ((min m 7).toNat))) ++ (Lib.itoa (x + 1))))), ps 3 (iv 0)] [] hI_
    refine T_el (dtn h13) ?_
    refine qaa ?_
    by_cases h15 : m = 0
    ·refine T_k mixed [(3, .gd true (.no)), (4, .gd true (.no)), (5, .gd true (.call [] [(iv x)] [] (bv (qbv x)) [])), (6, .yes true)] [.k3, .d, .n, .r] [ps 58 (bv (qbv x))] (oc (dty h15) (oc (dty h15) (oc (dty h15) (oc (qdf x (by omega)) (oc (rfl : Ren0 456 [(iv x)]) (oc (dty h15) oz)))))) ?_
     by_cases h16 : (qbv x) = true
     ·refine qau (b := (qbv x)) rfl h16 ?_
      refine T_k mixed [] [.k2, .d, .n, .d, .r] [ps 8 (sv (st ([80] : List UInt8)))] (oz) ?_
      refine qbg <| qaa <| qaa ?_
      refine T_k mixed [] [.k3, .n, .r] [ps 82 (bv false)] (oz) ?_
      refine qbf (b := false) rfl rfl ?_
      refine qag <| qaa ?_
      refine T_r mixed [(2, .val (.av (.string (st (([45] : List UInt8) ++ ([80] : List UInt8)))))), (6, .call [] [(iv (x + 1))] [] (sv (st (Lib.itoa (x + 1)))) []), (7, .val (.av (.string (st ((([45] : List UInt8) ++ ([80] : List UInt8)) ++ (Lib.itoa (x + 1)))))))] [ps 2 (sv (st ((([45] : List UInt8) ++ ([80] : List UInt8)) ++ (Lib.itoa (x + 1))))), ps 3 (iv 0)] (oc (by first | omega | (simp only [List.length_append, List.length_cons, List.length_nil]; omega) : ((([45] : List UInt8).length + ([80] : List UInt8).length : Nat) : Int) ≤ 9223372036854775807) (oc (qbb _ _ : st ([45] : List UInt8) ++ st ([80] : List UInt8) = st (([45] : List UInt8) ++ ([80] : List UInt8))) (oc (by simp only [InK]; omega : InK .i64 (x + 1)) (oc (qbw (x + 1) (by omega) (by omega)) (oc (rfl : Ren0 560 [(iv (x + 1))]) (oc (by first | omega | (simp only [List.length_append, List.length_cons, List.length_nil]; omega) : (((([45] : List UInt8) ++ ([80] : List UInt8)).length + (Lib.itoa (x + 1)).length : Nat) : Int) ≤ 9223372036854775807) (oc (qbb _ _ : st (([45] : List UInt8) ++ ([80] : List UInt8)) ++ st (Lib.itoa (x + 1)) = st ((([45] : List UInt8) ++ ([80] : List UInt8)) ++ (Lib.itoa (x + 1)))) oz))))))) ?_
      rw [qbt (s := s) (h := h) h1 (.inr ⟨h11, h12⟩) (Eq.trans (by rw [← hx, ← hy]) (qbo (q := [80]) (by rw [← hm]; exact (qug h15 h16)) (by decide)))]
      exact qai fun cx_ a_ hI_ => rt hc0 [ps 2 (sv (st ((([45] : List UInt8) ++ ([80] : List UInt8)) ++ (Lib.itoa (x + 1))))), ps 3 (iv 0)] [] hI_
     refine qbf (b := (qbv x)) rfl (Bool.eq_false_iff.2 h16) ?_
     refine qaa ?_
     refine T_k mixed [] [.k3, .d, .n, .r] [ps 66 (bv (decide (m = 0)))] (oz) ?_
     refine T_th (dty h15) ?_
     refine T_k mixed [] [.k2, .d, .n, .d, .r] [ps 8 (sv (st ([77] : List UInt8)))] (oz) ?_
     refine qbg <| qaa <| qaa ?_
     refine T_k mixed [] [.k3, .n, .r] [ps 82 (bv false)] (oz) ?_
     refine qbf (b := false) rfl rfl ?_
     refine qag <| qaa ?_
     refine T_r mixed [(2, .val (.av (.string (st (([45] : List UInt8) ++ ([77] : List UInt8)))))), (6, .call [] [(iv (x + 1))] [] (sv (st (Lib.itoa (x + 1)))) []), (7, .val (.av (.string (st ((([45] : List UInt8) ++ ([77] : List UInt8)) ++ (Lib.itoa (x + 1)))))))] [ps 2 (sv (st ((([45] : List UInt8) ++ ([77] : List UInt8)) ++ (Lib.itoa (x + 1))))), ps 3 (iv 0)] (oc (by first | omega | (simp only [List.length_append, List.length_cons, List.length_nil]; omega) : ((([45] : List UInt8).length + ([77] : List UInt8).length : Nat) : Int) ≤ 9223372036854775807) (oc (qbb _ _ : st ([45] : List UInt8) ++ st ([77] : List UInt8) = st (([45] : List UInt8) ++ ([77] : List UInt8))) (oc (by simp only [InK]; omega : InK .i64 (x + 1)) (oc (qbw (x + 1) (by omega) (by omega)) (oc (rfl : Ren0 584 [(iv (x + 1))]) (oc (by first | omega | (simp only [List.length_append, List.length_cons, List.length_nil]; omega) : (((([45] : List UInt8) ++ ([77] : List UInt8)).length + (Lib.itoa (x + 1)).length : Nat) : Int) ≤ 9223372036854775807) (oc (qbb _ _ : st (([45] : List UInt8) ++ ([77] : List UInt8)) ++ st (Lib.itoa (x + 1)) = st ((([45] : List UInt8) ++ ([77] : List UInt8)) ++ (Lib.itoa (x + 1)))) oz))))))) ?_
     rw [qbt (s := s) (h := h) h1 (.inr ⟨h11, h12⟩) (Eq.trans (by rw [← hx, ← hy]) (qbo (q := [77]) (by rw [← hm]; exact (quh h15 h16)) (by decide)))]
     exact qai fun cx_ a_ hI_ => rt hc0 [ps 2 (sv (st ((([45] : List UInt8) ++ ([77] : List UInt8)) ++ (Lib.itoa (x + 1))))), ps 3 (iv 0)] [] hI_
    refine T_k mixed [(3, .gd false .no), (4, .gd false .no), (5, .gd false .no), (6, .yes false)] [.k3, .d, .n, .r] [ps 58 (bv false)] (oc (dtn h15) (oc (dtn h15) (oc (dtn h15) (oc (dtn h15) oz)))) ?_
    refine qbf (b := false) rfl rfl ?_
    refine qaa ?_
    refine T_k mixed [] [.k3, .d, .n, .r] [ps 66 (bv (decide (m = 0)))] (oz) ?_
    refine T_el (dtn h15) ?_
    refine qaa ?_
    refine T_k mixed [(2, .call [] [(iv x)] [] (bv (qbv x)) [])] [.k3, .d, .n, .r] [ps 69 (bv (qbv x))] (oc (qdf x (by omega)) (oc (rfl : Ren0 520 [(iv x)]) oz)) ?_
    by_cases h17 : (qbv x) = true
    ·refine qau (b := (qbv x)) rfl h17 ?_
     refine T_k mixed [(3, .call [] [(sv (st ([100] : List UInt8))), (nv ((min (0 - m) 7).toNat))] [] (sv (st (Lib.repeatL ([100] : List UInt8) ((min (0 - m) 7).toNat)))) [])] [.k2, .d, .n, .d, .r] [ps 8 (sv (st (Lib.repeatL ([100] : List UInt8) ((min (0 - m) 7).toNat))))] (oc (by simp only [InK]; omega : InK .i64 (0 - m)) (oc (qcq ([100] : List UInt8) ((min (0 - m) 7).toNat) (by omega) (by simp only [List.length_cons, List.length_nil]; omega)) (oc (congrArg (fun z => [(sv (st ([100] : List UInt8))), iv z]) (show min (0 - m) 7 = (((min (0 - m) 7).toNat : Nat) : Int) from by omega) : [(sv (st ([100] : List UInt8))), (iv (min (0 - m) 7))] = renL (sigi [] 560) [(sv (st ([100] : List UInt8))), (nv ((min (0 - m) 7).toNat))]) oz))) ?_
     refine qbg <| qaa <| qaa ?_
     refine T_k mixed [] [.k3, .n, .r] [ps 82 (bv (decide (6 < (((Lib.repeatL ([100] : List UInt8) ((min (0 - m) 7).toNat)).length : Nat) : Int))))] (oz) ?_
     by_cases h18 : 6 < (((Lib.repeatL ([100] : List UInt8) ((min (0 - m) 7).toNat)).length : Nat) : Int)
     ·refine T_th (dty h18) ?_
      refine qaa ?_
      refine T_r mixed [] [ps 2 (sv (st ([] : List UInt8))), ps 3 (iv 3)] (oz) ?_
      rw [qbt (s := s) (h := h) h1 (.inr ⟨h11, h12⟩) (Eq.trans (by rw [← hx, ← hy]) (qcr (by rw [← hm]; exact (qjk h13 h15 h17)) h18))]
      exact qai fun cx_ a_ hI_ => rt hc0 [ps 2 (sv (st ([] : List UInt8))), ps 3 (iv 3)] [] hI_
     refine T_el (dtn h18) ?_
     refine qag <| qaa ?_
     refine T_r mixed [(2, .val (.av (.string (st (([45] : List UInt8) ++ (Lib.repeatL ([100] : List UInt8) ((min (0 - m) 7).toNat))))))), (6, .call [] [(iv (x + 1))] [] (sv (st (Lib.itoa (x + 1)))) []), (7, .val (.av (.string (st ((([45] : List UInt8) ++ (Lib.repeatL ([100] : List UInt8) ((min (0 - m) 7).toNat))) ++ (Lib.itoa (x + 1)))))))] [ps 2 (sv (st ((([45] : List UInt8) ++ (Lib.repeatL ([100] : List UInt8) ((min (0 - m) 7).toNat))) ++ (Lib.itoa (x + 1))))), ps 3 (iv 0)] (oc (by first | omega | (simp only [List.length_append, List.length_cons, List.length_nil]; omega) : ((([45] : List UInt8).length + (Lib.repeatL ([100] : List UInt8) ((min (0 - m) 7).toNat)).length : Nat) : Int) ≤ 9223372036854775807) (oc (qbb _ _ : st ([45] : List UInt8) ++ st (Lib.repeatL ([100] : List UInt8) ((min (0 - m) 7).toNat)) = st (([45] : List UInt8) ++ (Lib.repeatL ([100] : List UInt8) ((min (0 - m) 7).toNat)))) (oc (by simp only [InK]; omega : InK .i64 (x + 1)) (oc (qbw (x + 1) (by omega) (by omega)) (oc (rfl : Ren0 648 [(iv (x + 1))]) (oc (by first | omega | (simp only [List.length_append, List.length_cons, List.length_nil]; omega) : (((([45] : List UInt8) ++ (Lib.repeatL ([100] : List UInt8) ((min (0 - m) 7).toNat))).length + (Lib.itoa (x + 1)).length : Nat) : Int) ≤ 9223372036854775807) (oc (qbb _ _ : st (([45] : List UInt8) ++ (Lib.repeatL ([100] : List UInt8) ((min (0 - m) 7).toNat))) ++ st (Lib.itoa (x + 1)) = st ((([45] : List UInt8) ++ (Lib.repeatL ([100] : List UInt8) ((min (0 - m) 7).toNat))) ++ (Lib.itoa (x + 1)))) oz))))))) ?_
     rw [qbt (s := s) (h := h) h1 (.inr ⟨h11, h12⟩) (Eq.trans (by rw [← hx, ← hy]) (qbo (by rw [← hm]; exact (qjk h13 h15 h17)) h18))]
     exact qai fun cx_ a_ hI_ => rt hc0 [ps 2 (sv (st ((([45] : List UInt8) ++ (Lib.repeatL ([100] : List UInt8) ((min (0 - m) 7).toNat))) ++ (Lib.itoa (x + 1))))), ps 3 (iv 0)] [] hI_
    refine qbf (b := (qbv x)) rfl (Bool.eq_false_iff.2 h17) ?_
    refine qaa ?_
    refine T_k mixed [] [.k3, .d, .n, .r] [ps 77 (bv (decide (m = (-1))))] (oz) ?_
    by_cases h19 : m = (-1)
    ·refine T_th (dty h19) ?_
     refine T_k mixed [] [.k2, .d, .n, .d, .r] [ps 8 (sv (st ([109] : List UInt8)))] (oz) ?_
     refine qbg <| qaa <| qaa ?_
     refine T_k mixed [] [.k3, .n, .r] [ps 82 (bv false)] (oz) ?_
     refine qbf (b := false) rfl rfl ?_
     refine qag <| qaa ?_
     refine T_r mixed [(2, .val (.av (.string (st (([45] : List UInt8) ++ ([109] : List UInt8)))))), (6, .call [] [(iv (x + 1))] [] (sv (st (Lib.itoa (x + 1)))) []), (7, .val (.av (.string (st ((([45] : List UInt8) ++ ([109] : List UInt8)) ++ (Lib.itoa (x + 1)))))))] [ps 2 (sv (st ((([45] : List UInt8) ++ ([109] : List UInt8)) ++ (Lib.itoa (x + 1))))), ps 3 (iv 0)] (oc (by first | omega | (simp only [List.length_append, List.length_cons, List.length_nil]; omega) : ((([45] : List UInt8).length + ([109] : List UInt8).length : Nat) : Int) ≤ 9223372036854775807) (oc (qbb _ _ : st ([45] : List UInt8) ++ st ([109] : List UInt8) = st (([45] : List UInt8) ++ ([109] : List UInt8))) (oc (by simp only [InK]; omega : InK .i64 (x + 1)) (oc (qbw (x + 1) (by omega) (by omega)) (oc (rfl : Ren0 640 [(iv (x + 1))]) (oc (by first | omega | (simp only [List.length_append, List.length_cons, List.length_nil]; omega) : (((([45] : List UInt8) ++ ([109] : List UInt8)).length + (Lib.itoa (x + 1)).length : Nat) : Int) ≤ 9223372036854775807) (oc (qbb _ _ : st (([45] : List UInt8) ++ ([109] : List UInt8)) ++ st (Lib.itoa (x + 1)) = st ((([45] : List UInt8) ++ ([109] : List UInt8)) ++ (Lib.itoa (x + 1)))) oz))))))) ?_
     rw [qbt (s := s) (h := h) h1 (.inr ⟨h11, h12⟩) (Eq.trans (by rw [← hx, ← hy]) (qbo (q := [109]) (by rw [← hm]; exact (quf h19 h17)) (by decide)))]
     exact qai fun cx_ a_ hI_ => rt hc0 [ps 2 (sv (st ((([45] : List UInt8) ++ ([109] : List UInt8)) ++ (Lib.itoa (x + 1))))), ps 3 (iv 0)] [] hI_
    refine T_el (dtn h19) ?_
    refine T_k mixed [(4, .call [] [(sv (st ([100] : List UInt8))), (nv ((min ((0 - m) - 1) 7).toNat))] [] (sv (st (Lib.repeatL ([100] : List UInt8) ((min ((0 - m) - 1) 7).toNat)))) [])] [.k2, .d, .n, .d, .r] [ps 8 (sv (st (Lib.repeatL ([100] : List UInt8) ((min ((0 - m) - 1) 7).toNat))))] (oc (by simp only [InK]; omega : InK .i64 (0 - m)) (oc (by simp only [InK]; omega : InK .i64 ((0 - m) - 1)) (oc (qcq ([100] : List UInt8) ((min ((0 - m) - 1) 7).toNat) (by omega) (by simp only [List.length_cons, List.length_nil]; omega)) (oc (congrArg (fun z => [(sv (st ([100] : List UInt8))), iv z]) (show min ((0 - m) - 1) 7 = (((min ((0 - m) - 1) 7).toNat : Nat) : Int) from by omega) : [(sv (st ([100] : List UInt8))), (iv (min ((0 - m) - 1) 7))] = renL (sigi [] 592) [(sv (st ([100] : List UInt8))), (nv ((min ((0 - m) - 1) 7).toNat))]) oz)))) ?_
    refine qbg <| qaa <| qaa ?_
    refine T_k mixed [] [.k3, .n, .r] [ps 82 (bv (decide (6 < (((Lib.repeatL ([100] : List UInt8) ((min ((0 - m) - 1) 7).toNat)).length : Nat) : Int))))] (oz) ?_
    by_cases h20 : 6 < (((Lib.repeatL ([100] : List UInt8) ((min ((0 - m) - 1) 7).toNat)).length : Nat) : Int)
    ·refine T_th (dty h20) ?_
     refine qaa ?_
     refine T_r mixed [] [ps 2 (sv (st ([] : List UInt8))), ps 3 (iv 3)] (oz) ?_
     rw [qbt (s := s) (h := h) h1 (.inr ⟨h11, h12⟩) (Eq.trans (by rw [← hx, ← hy]) (qcr (by rw [← hm]; exact (qgb h13 h15 h17 h19)) h20))]
     exact qai fun cx_ a_ hI_ => rt hc0 [ps 2 (sv (st ([] : List UInt8))), ps 3 (iv 3)] [] hI_
    refine T_el (dtn h20) ?_
    refine qag <| qaa ?_
    refine T_r mixed [(2, .val (.av (.string (st (([45] : List UInt8) ++ (Lib.repeatL ([100] : List UInt8) ((min ((0 - m) - 1) 7).toNat))))))), (6, .call [] [(iv (x + 1))] [] (sv (st (Lib.itoa (x + 1)))) []), (7, .val (.av (.string (st ((([45] : List UInt8) ++ (Lib.repeatL ([100] : List UInt8) ((min ((0 - m) - 1) 7).toNat))) ++ (Lib.itoa (x + 1)))))))] [ps 2 (sv (st ((([45] : List UInt8) ++ (Lib.repeatL ([100] : List UInt8) ((min ((0 - m) - 1) 7).toNat))) ++ (Lib.itoa (x + 1))))), ps 3 (iv 0)] (oc (by first | omega | (simp only [List.length_append, List.length_cons, List.length_nil]; omega) : ((([45] : List UInt8).length + (Lib.repeatL ([100] : List UInt8) ((min ((0 - m) - 1) 7).toNat)).length : Nat) : Int) ≤ 9223372036854775807) (oc (qbb _ _ : st ([45] : List UInt8) ++ st (Lib.repeatL ([100] : List UInt8) ((min ((0 - m) - 1) 7).toNat)) = st (([45] : List UInt8) ++ (Lib.repeatL ([100] : List UInt8) ((min ((0 - m) - 1) 7).toNat)))) (oc (by simp only [InK]; omega : InK .i64 (x + 1)) (oc (qbw (x + 1) (by omega) (by omega)) (oc (rfl : Ren0 680 [(iv (x + 1))]) (oc (by first | omega | (simp only [List.length_append, List.length_cons, List.length_nil]; omega) : (((([45] : List UInt8) ++ (Lib.repeatL ([100] : List UInt8) ((min ((0 - m) - 1) 7).toNat))).length + (Lib.itoa (x + 1)).length : Nat) : Int) ≤ 9223372036854775807) (oc (qbb _ _ : st (([45] : List UInt8) ++ (Lib.repeatL ([100] : List UInt8) ((min ((0 - m) - 1) 7).toNat))) ++ st (Lib.itoa (x + 1)) = st ((([45] : List UInt8) ++ (Lib.repeatL ([100] : List UInt8) ((min ((0 - m) - 1) 7).toNat))) ++ (Lib.itoa (x + 1)))) oz))))))) ?_
    rw [qbt (s := s) (h := h) h1 (.inr ⟨h11, h12⟩) (Eq.trans (by rw [← hx, ← hy]) (qbo (by rw [← hm]; exact (qgb h13 h15 h17 h19)) h20))]
    exact qai fun cx_ a_ hI_ => rt hc0 [ps 2 (sv (st ((([45] : List UInt8) ++ (Lib.repeatL ([100] : List UInt8) ((min ((0 - m) - 1) 7).toNat))) ++ (Lib.itoa (x + 1))))), ps 3 (iv 0)] [] hI_
   refine T_el (dtn h12) ?_
   refine qag <| qaa ?_
   obtain ⟨x, hx⟩ : ∃ x, x = s := ⟨_, rfl⟩
   obtain ⟨y, hy⟩ : ∃ y, y = h := ⟨_, rfl⟩
   refine T_wk (Wk.eq (show _ = [ps 1 (.opt 0 0), ps 4 (sv (st ([] : List UInt8))), ps 24 (bv (decide (h < 0))), pb 0 41 [(iv x), (iv y)]] from by rw [hx, hy])) ?_
   have hnb := Pi.nat7_range (x % 7)
   have hl2 := qkd (o := x + 1) (by omega) (by omega)
   refine T_k mixed [(2, .call [] [(iv x), (iv 7)] [] (.tup [(iv (x / 7)), (iv (x % 7))]) [])] [.k2, .n, .n, .d, .r] [ps 5 (iv (x / 7)), ps 6 (iv (x % 7))] (oc (qgd x (by omega) (by omega)) (oc (rfl : Ren0 176 [(iv x), (iv 7)]) oz)) ?_
   refine qaa ?_
   refine T_kd mixed [(6, .call [] [(iv (x % 7))] [] (iv (Pi.nat7 (x % 7))) [])] [[], [0], [], [2], [0, 1, 2, 3], [], [5], [0, 1, 2, 3, 4, 5, 6], [0, 1, 2, 3, 4, 5, 6, 7]] [([78], [2]), ([80], [1, 78]), ([82], [10]), ([84], [82]), ([86], [80, 84]), ([88], [12]), ([90], [88]), ([92], [86, 90]), ([14], [92])] [.k2, .d, .d, .n, .r] [ps 7 (iv ((y - (12 * (x / 7))) - (Pi.nat7 (x % 7))))] (oc (by simp only [InK]; omega : InK .i64 (12 * (x / 7))) (oc (by simp only [InK]; omega : InK .i64 (y - (12 * (x / 7)))) (oc (qgl (x % 7)) (oc (rfl : Ren0 272 [(iv (x % 7))]) (oc (by simp only [InK]; omega : InK .i64 ((y - (12 * (x / 7))) - (Pi.nat7 (x % 7)))) oz))))) ?_
   refine qaa ?_
   obtain ⟨m, hm⟩ : ∃ m, m = qfp x y := ⟨_, rfl⟩
   have hmb : -9000 ≤ m ∧ m ≤ 9000 := by rw [hm]; unfold qfp; omega
   refine T_wk (Wk.eq (show _ = [ps 1 (.opt 0 0), ps 4 (sv (st ([] : List UInt8))), ps 7 (iv m), pb 0 41 [(iv x), (iv y)]] from by rw [hm]; rfl)) ?_
   refine T_k mixed [] [.r] [] (oz) ?_
   refine qaa <| qan <| qaa ?_
   refine T_k mixed [] [.k3, .n, .r] [ps 52 (bv (decide (0 < m)))] (oz) ?_
   by_cases h21 : 0 < m
   ·refine T_th (dty h21) ?_
    refine T_k mixed [(2, .call [] [(sv (st ([65] : List UInt8))), (nv ((min m 7).toNat))] [] (sv (st (Lib.repeatL ([65] : List UInt8) ((min m 7).toNat)))) [])] [.k2, .d, .n, .d, .r] [ps 8 (sv (st (Lib.repeatL ([65] : List UInt8) ((min m 7).toNat))))] (oc (qcq ([65] : List UInt8) ((min m 7).toNat) (by omega) (by simp only [List.length_cons, List.length_nil]; omega)) (oc (congrArg (fun z => [(sv (st ([65] : List UInt8))), iv z]) (show min m 7 = (((min m 7).toNat : Nat) : Int) from by omega) : [(sv (st ([65] : List UInt8))), (iv (min m 7))] = renL (sigi [] 344) [(sv (st ([65] : List UInt8))), (nv ((min m 7).toNat))]) oz)) ?_
    refine qbg <| qaa <| qaa ?_
    refine T_k mixed [] [.k3, .n, .r] [ps 82 (bv (decide (6 < (((Lib.repeatL ([65] : List UInt8) ((min m 7).toNat)).length : Nat) : Int))))] (oz) ?_
    by_cases h22 : 6 < (((Lib.repeatL ([65] : List UInt8) ((min m 7).toNat)).length : Nat) : Int)
    ·refine T_th (dty h22) ?_
     refine qaa ?_
     refine T_r mixed [] [ps 2 (sv (st ([] : List UInt8))), ps 3 (iv 3)] (oz) ?_
     rw [qbs (s := s) (h := h) h1 (by omega) (Eq.trans (by rw [← hx, ← hy]) (qcr (by rw [← hm]; exact (qga h21)) h22))]
     exact qai fun cx_ a_ hI_ => rt hc0 [ps 2 (sv (st ([] : List UInt8))), ps 3 (iv 3)] [] hI_
    refine T_el (dtn h22) ?_
    refine qag <| qaa ?_
    refine T_r mixed [(2, .val (.av (.string (st (([] : List UInt8) ++ (Lib.repeatL ([65] : List UInt8) ((min m 7).toNat))))))), (6, .call [] [(iv (x + 1))] [] (sv (st (Lib.itoa (x + 1)))) []), (7, .val (.av (.string (st ((([] : List UInt8) ++ (Lib.repeatL ([65] : List UInt8) ((min m 7).toNat))) ++ (Lib.itoa (x + 1)))))))] [ps 2 (sv (st ((([] : List UInt8) ++ (Lib.repeatL ([65] : List UInt8) ((min m 7).toNat))) ++ (Lib.itoa (x + 1))))), ps 3 (iv 0)] (oc (by first | omega | (simp only [List.length_append, List.length_cons, List.length_nil]; omega) : ((([] : List UInt8).length + (Lib.repeatL ([65] : List UInt8) ((min m 7).toNat)).length : Nat) : Int) ≤ 9223372036854775807) (oc (qbb _ _ : st ([] : List UInt8) ++ st (Lib.repeatL ([65] : List UInt8) ((min m 7).toNat)) = st (([] : List UInt8) ++ (Lib.repeatL ([65] : List UInt8) ((min m 7).toNat)))) (oc (by simp only [InK]; omega : InK .i64 (x + 1)) (oc (qbw (x + 1) (by omega) (by omega)) (oc (rfl : Ren0 432 [(iv (x + 1))]) (oc (by first | omega | (simp only [List.length_append, List.length_cons, List.length_nil]; omega) : (((([] : List UInt8) ++ (Lib.repeatL ([65] : List UInt8) ((min m 7).toNat))).length + (Lib.itoa (x + 1)).length : Nat) : Int) ≤ 9223372036854775807) (oc (qbb _ _ : st (([] : List UInt8) ++ (Lib.repeatL ([65] : List UInt8) ((min m 7).toNat))) ++ st (Lib.itoa (x + 1)) = st ((([] : List UInt8) ++ (Lib.repeatL ([65] : List UInt8) ((min m 7).toNat))) ++ (Lib.itoa (x + 1)))) oz))))))) ?_
    rw [qbs (s := s) (h := h) h1 (by omega) (Eq.trans (by rw [← hx, ← hy]) (qbo (by rw [← hm]; exact (qga h21)) h22))]
    exact qai fun cx_ a_ hI_ => rt hc0 [ps 2 (sv (st ((([] : List UInt8) ++ (Lib.repeatL ([65] : List UInt8) ((min m 7).toNat))) ++ (Lib.itoa (x + 1))))), ps 3 (iv 0)] [] hI_
   refine T_el (dtn h21) ?_
   refine qaa ?_
   by_cases h23 : m = 0
   ·refine T_k mixed [(3, .gd true (.no)), (4, .gd true (.no)), (5, .gd true (.call [] [(iv x)] [] (bv (qbv x)) [])), (6, .yes true)] [.k3, .d, .n, .r] [ps 58 (bv (qbv x))] (oc (dty h23) (oc (dty h23) (oc (dty h23) (oc (qdf x (by omega)) (oc (rfl : Ren0 368 [(iv x)]) (oc (dty h23) oz)))))) ?_
    by_cases h24 : (qbv x) = true
    ·refine qau (b := (qbv x)) rfl h24 ?_
     refine T_k mixed [] [.k2, .d, .n, .d, .r] [ps 8 (sv (st ([80] : List UInt8)))] (oz) ?_
     refine qbg <| qaa <| qaa ?_
     refine T_k mixed [] [.k3, .n, .r] [ps 82 (bv false)] (oz) ?_
     refine qbf (b := false) rfl rfl ?_
     refine qag <| qaa ?_
     refine T_r mixed [(2, .val (.av (.string (st (([] : List UInt8) ++ ([80] : List UInt8)))))), (6, .call [] [(iv (x + 1))] [] (sv (st (Lib.itoa (x + 1)))) []), (7, .val (.av (.string (st ((([] : List UInt8) ++ ([80] : List UInt8)) ++ (Lib.itoa (x + 1)))))))] [ps 2 (sv (st ((([] : List UInt8) ++ ([80] : List UInt8)) ++ (Lib.itoa (x + 1))))), ps 3 (iv 0)] (oc (by first | omega | (simp only [List.length_append, List.length_cons, List.length_nil]; omega) : ((([] : List UInt8).length + ([80] : List UInt8).length : Nat) : Int) ≤ 9223372036854775807) (oc (qbb _ _ : st ([] : List UInt8) ++ st ([80] : List UInt8) = st (([] : List UInt8) ++ ([80] : List UInt8))) (oc (by simp only [InK]; omega : InK .i64 (x + 1)) (oc (qbw (x + 1) (by omega) (by omega)) (oc (rfl : Ren0 472 [(iv (x + 1))]) (oc (by first | omega | (simp only [List.length_append, List.length_cons, List.length_nil]; omega) : (((([] : List UInt8) ++ ([80] : List UInt8)).length + (Lib.itoa (x + 1)).length : Nat) : Int) ≤ 9223372036854775807) (oc (qbb _ _ : st (([] : List UInt8) ++ ([80] : List UInt8)) ++ st (Lib.itoa (x + 1)) = st ((([] : List UInt8) ++ ([80] : List UInt8)) ++ (Lib.itoa (x + 1)))) oz))))))) ?_
     rw [qbs (s := s) (h := h) h1 (by omega) (Eq.trans (by rw [← hx, ← hy]) (qbo (q := [80]) (by rw [← hm]; exact (qug h23 h24)) (by decide)))]
     exact qai fun cx_ a_ hI_ => rt hc0 [ps 2 (sv (st ((([] : List UInt8) ++ ([80] : List UInt8)) ++ (Lib.itoa (x + 1))))), ps 3 (iv 0)] [] hI_
    refine qbf (b := (qbv x)) rfl (Bool.eq_false_iff.2 h24) ?_
    refine qaa ?_
    refine T_k mixed [] [.k3, .d, .n, .r] [ps 66 (bv (decide (m = 0)))] (oz) ?_
    refine T_th (dty h23) ?_
    refine T_k mixed [] [.k2, .d, .n, .d, .r] [ps 8 (sv (st ([77] : List UInt8)))] (oz) ?_
    refine qbg <| qaa <| qaa ?_
    refine T_k mixed [] [.k3, .n, .r] [ps 82 (bv false)] (oz) ?_
    refine qbf (b := false) rfl rfl ?_
    refine qag <| qaa ?_
    refine T_r mixed [(2, .val (.av (.string (st (([] : List UInt8) ++ ([77] : List UInt8)))))), (6, .call [] [(iv (x + 1))] [] (sv (st (Lib.itoa (x + 1)))) []), (7, .val (.av (.string (st ((([] : List UInt8) ++ ([77] : List UInt8)) ++ (Lib.itoa (x + 1)))))))] [ps 2 (sv (st ((([] : List UInt8) ++ ([77] : List UInt8)) ++ (Lib.itoa (x + 1))))), ps 3 (iv 0)] (oc (by first | omega | (simp only [List.length_append, List.length_cons, List.length_nil]; omega) : ((([] : List UInt8).length + ([77] : List UInt8).length : Nat) : Int) ≤ 9223372036854775807) (oc (qbb _ _ : st ([] : List UInt8) ++ st ([77] : List UInt8) = st (([] : List UInt8) ++ ([77] : List UInt8))) (oc (by simp only [InK]; omega : InK .i64 (x + 1)) (oc (qbw (x + 1) (by omega) (by omega)) (oc (rfl : Ren0 496 [(iv (x + 1))]) (oc (by first | omega | (simp only [List.length_append, List.length_cons, List.length_nil]; omega) : (((([] : List UInt8) ++ ([77] : List UInt8)).length + (Lib.itoa (x + 1)).length : Nat) : Int) ≤ 9223372036854775807) (oc (qbb _ _ : st (([] : List UInt8) ++ ([77] : List UInt8)) ++ st (Lib.itoa (x + 1)) = st ((([] : List UInt8) ++ ([77] : List UInt8)) ++ (Lib.itoa (x + 1)))) oz))))))) ?_
    rw [qbs (s := s) (h := h) h1 (by omega) (Eq.trans (by rw [← hx, ← hy]) (qbo (q := [77]) (by rw [← hm]; exact (quh h23 h24)) (by decide)))]
    exact qai fun cx_ a_ hI_ => rt hc0 [ps 2 (sv (st ((([] : List UInt8) ++ ([77] : List UInt8)) ++ (Lib.itoa (x + 1))))), ps 3 (iv 0)] [] hI_
   refine T_k mixed [(3, .gd false .no), (4, .gd false .no), (5, .gd false .no), (6, .yes false)] [.k3, .d, .n, .r] [ps 58 (bv false)] (oc (dtn h23) (oc (dtn h23) (oc (dtn h23) (oc (dtn h23) oz)))) ?_
   refine qbf (b := false) rfl rfl ?_
   refine qaa ?_
   refine T_k mixed [] [.k3, .d, .n, .r] [ps 66 (bv (decide (m = 0)))] (oz) ?_
   refine T_el (dtn h23) ?_
   refine qaa ?_
   refine T_k mixed [(2, .call [] [(iv x)] [] (bv (qbv x)) [])] [.k3, .d, .n, .r] [ps 69 (bv (qbv x))] (oc (qdf x (by omega)) (oc (rfl : Ren0 432 [(iv x)]) oz)) ?_
   by_cases h25 : (qbv x) = true
   ·refine qau (b := (qbv x)) rfl h25 ?_
    refine T_k mixed [(3, .call [] [(sv (st ([100] : List UInt8))), (nv ((min (0 - m) 7).toNat))] [] (sv (st (Lib.repeatL ([100] : List UInt8) ((min (0 - m) 7).toNat)))) [])] [.k2, .d, .n, .d, .r] [ps 8 (sv (st (Lib.repeatL ([100] : List UInt8) ((min (0 - m) 7).toNat))))] (oc (by simp only [InK]; omega : InK .i64 (0 - m)) (oc (qcq ([100] : List UInt8) ((min (0 - m) 7).toNat) (by omega) (by simp only [List.length_cons, List.length_nil]; omega)) (oc (congrArg (fun z => [(sv (st ([100] : List UInt8))), iv z]) (show min (0 - m) 7 = (((min (0 - m) 7).toNat : Nat) : Int) from by omega) : [(sv (st ([100] : List UInt8))), (iv (min (0 - m) 7))] = renL (sigi [] 472) [(sv (st ([100] : List UInt8))), (nv ((min (0 - m) 7).toNat))]) oz))) ?_
    refine qbg <| qaa <| qaa ?_
    refine T_k mixed [] [.k3, .n, .r] [ps 82 (bv (decide (6 < (((Lib.repeatL ([100] : List UInt8) ((min (0 - m) 7).toNat)).length : Nat) : Int))))] (oz) ?_
    by_cases h26 : 6 < (((Lib.repeatL ([100] : List UInt8) ((min (0 - m) 7).toNat)).length : Nat) : Int)
    ·refine T_th (dty h26) ?_
     refine qaa ?_
     refine T_r mixed [] [ps 2 (sv (st ([] : List UInt8))), ps 3 (iv 3)] (oz) ?_
     rw [qbs (s := s) (h := h) h1 (by omega) (Eq.trans (by rw [← hx, ← hy]) (qcr (by rw [← hm]; exact (qjk h21 h23 h25)) h26))]
     exact qai fun cx_ a_ hI_ => rt hc0 [ps 2 (sv (st ([] : List UInt8))), ps 3 (iv 3)] [] hI_
    refine T_el (dtn h26) ?_
    refine qag <| qaa ?_
    refine T_r mixed [(2, .val (.av (.string (st (([] : List UInt8) ++ (Lib.repeatL ([100] : List UInt8) ((min (0 - m) 7).toNat))))))), (6, .call [] [(iv (x + 1))] [] (sv (st (Lib.itoa (x + 1)))) []), (7, .val (.av (.string (st ((([] : List UInt8) ++ (Lib.repeatL ([100] : List UInt8) ((min (0 - m) 7).toNat))) ++ (Lib.itoa (x + 1)))))))] [ps 2 (sv (st ((([] : List UInt8) ++ (Lib.repeatL ([100] : List UInt8) ((min (0 - m) 7).toNat))) ++ (Lib.itoa (x + 1))))), ps 3 (iv 0)] (oc (by first | omega | (simp only [List.length_append, List.length_cons, List.length_nil]; omega) : ((([] : List UInt8).length + (Lib.repeatL ([100] : List UInt8) ((min (0 - m) 7).toNat)).length : Nat) : Int) ≤ 9223372036854775807) (oc (qbb _ _ : st ([] : List UInt8) ++ st (Lib.repeatL ([100] : List UInt8) ((min (0 - m) 7).toNat)) = st (([] : List UInt8) ++ (Lib.repeatL ([100] : List UInt8) ((min (0 - m) 7).toNat)))) (oc (by simp only [InK]; omega : InK .i64 (x + 1)) (oc (qbw (x + 1) (by omega) (by omega)) (oc (rfl : Ren0 560 [(iv (x + 1))]) (oc (by first | omega | (simp only [List.length_append, List.length_cons, List.length_nil]; omega) : (((([] : List UInt8) ++ (Lib.repeatL ([100] : List UInt8) ((min (0 - m) 7).toNat))).length + (Lib.itoa (x + 1)).length : Nat) : Int) ≤ 9223372036854775807) (oc (qbb _ _ : st (([] : List UInt8) ++ (Lib.repeatL ([100] : List UInt8) ((min (0 - m) 7).toNat))) ++ st (Lib.itoa (x + 1)) = st ((([] : List UInt8) ++ (Lib.repeatL ([100] : List UInt8) ((min (0 - m) 7).toNat))) ++ (Lib.itoa (x + 1)))) oz))))))) ?_
    rw [qbs (s := s) (h := h) h1 (by omega) (Eq.trans (by rw [← hx, ← hy]) (qbo (by rw [← hm]; exact (qjk h21 h23 h25)) h26))]
    exact qai fun cx_ a_ hI_ => rt hc0 [ps 2 (sv (st ((([] : List UInt8) ++ (Lib.repeatL ([100] : List UInt8) ((min (0 - m) 7).toNat))) ++ (Lib.itoa (x + 1))))), ps 3 (iv 0)] [] hI_
   refine qbf (b := (qbv x)) rfl (Bool.eq_false_iff.2 h25) ?_
   refine qaa ?_
   refine T_k mixed [] [.k3, .d, .n, .r] [ps 77 (bv (decide (m = (-1))))] (oz) ?_
   by_cases h27 : m = (-1)
   ·refine T_th (dty h27) ?_
    refine T_k mixed [] [.k2, .d, .n, .d, .r] [ps 8 (sv (st ([109] : List UInt8)))] (oz) ?_
    refine qbg <| qaa <| qaa ?_
    refine T_k mixed [] [.k3, .n, .r] [ps 82 (bv false)] (oz) ?_
    refine qbf (b := false) rfl rfl ?_
    refine qag <| qaa ?_
    refine T_r mixed [(2, .val (.av (.string (st (([] : List UInt8) ++ ([109] : List UInt8)))))), (6, .call [] [(iv (x + 1))] [] (sv (st (Lib.itoa (x + 1)))) []), (7, .val (.av (.string (st ((([] : List UInt8) ++ ([109] : List UInt8)) ++ (Lib.itoa (x + 1)))))))] [ps 2 (sv (st ((([] : List UInt8) ++ ([109] : List UInt8)) ++ (Lib.itoa (x + 1))))), ps 3 (iv 0)] (oc (by first | omega | (simp only [List.length_append, List.length_cons, List.length_nil]; omega) : ((([] : List UInt8).length + ([109] : List UInt8).length : Nat) : Int) ≤ 9223372036854775807) (oc (qbb _ _ : st ([] : List UInt8) ++ st ([109] : List UInt8) = st (([] : List UInt8) ++ ([109] : List UInt8))) (oc (by simp only [InK]; omega : InK .i64 (x + 1)) (oc (qbw (x + 1) (by omega) (by omega)) (oc (rfl : Ren0 552 [(iv (x + 1))]) (oc (by first | omega | (simp only [List.length_append, List.length_cons, List.length_nil]; omega) : (((([] : List UInt8) ++ ([109] : List UInt8)).length + (Lib.itoa (x + 1)).length : Nat) : Int) ≤ 9223372036854775807) (oc (qbb _ _ : st (([] : List UInt8) ++ ([109] : List UInt8)) ++ st (Lib.itoa (x + 1)) = st ((([] : List UInt8) ++ ([109] : List UInt8)) ++ (Lib.itoa (x + 1)))) oz))))))) ?_
    rw [qbs (s := s) (h := h) h1 (by omega) (Eq.trans (by rw [← hx, ← hy]) (qbo (q := [109]) (by rw [← hm]; exact (quf h27 h25)) (by decide)))]
    exact qai fun cx_ a_ hI_ => rt hc0 [ps 2 (sv (st ((([] : List UInt8) ++ ([109] : List UInt8)) ++ (Lib.itoa (x + 1))))), ps 3 (iv 0)] [] hI_
   refine T_el (dtn h27) ?_
   refine T_k mixed [(4, .call [] [(sv (st ([100] : List UInt8))), (nv ((min ((0 - m) - 1) 7).toNat))] [] (sv (st (Lib.repeatL ([100] : List UInt8) ((min ((0 - m) - 1) 7).toNat)))) [])] [.k2, .d, .n, .d, .r] [ps 8 (sv (st (Lib.repeatL ([100] : List UInt8) ((min ((0 - m) - 1) 7).toNat))))] (oc (by simp only [InK]; omega : InK .i64 (0 - m)) (oc (by simp only [InK]; omega : InK .i64 ((0 - m) - 1)) (oc (qcq ([100] : List UInt8) ((min ((0 - m) - 1) 7).toNat) (by omega) (by simp only [List.length_cons, List.length_nil]; omega)) (oc (congrArg (fun z => [(sv (st ([100] : List UInt8))), iv z]) (show min ((0 - m) - 1) 7 = (((min ((0 - m) - 1) 7).toNat : Nat) : Int) from by omega) : [(sv (st ([100] : List UInt8))), (iv (min ((0 - m) - 1) 7))] = renL (sigi [] 504) [(sv (st ([100] : List UInt8))), (nv ((min ((0 - m) - 1) 7).toNat))]) oz)))) ?_
   refine qbg <| qaa <| qaa ?_
   refine T_k mixed [] [.k3, .n, .r] [ps 82 (bv (decide (6 < (((Lib.repeatL ([100] : List UInt8) ((min ((0 - m) - 1) 7).toNat)).length : Nat) : Int))))] (oz) ?_
   by_cases h28 : 6 < (((Lib.repeatL ([100] : List UInt8) ((min ((0 - m) - 1) 7).toNat)).length : Nat) : Int)
   ·refine T_th (dty h28) ?_
    refine qaa ?_
    refine T_r mixed [] [ps 2 (sv (st ([] : List UInt8))), ps 3 (iv 3)] (oz) ?_
    rw [qbs (s := s) (h := h) h1 (by omega) (Eq.trans (by rw [← hx, ← hy]) (qcr (by rw [← hm]; exact (qgb h21 h23 h25 h27)) h28))]
    exact qai fun cx_ a_ hI_ => rt hc0 [ps 2 (sv (st ([] : List UInt8))), ps 3 (iv 3)] [] hI_
   refine T_el (dtn h28) ?_
   refine qag <| qaa ?_
   refine T_r mixed [(2, .val (.av (.string (st (([] : List UInt8) ++ (Lib.repeatL ([100] : List UInt8) ((min ((0 - m) - 1) 7).toNat))))))), (6, .call [] [(iv (x + 1))] [] (sv (st (Lib.itoa (x + 1)))) []), (7, .val (.av (.string (st ((([] : List UInt8) ++ (Lib.repeatL ([100] : List UInt8) ((min ((0 - m) - 1) 7).toNat))) ++ (Lib.itoa (x + 1)))))))] [ps 2 (sv (st ((([] : List UInt8) ++ (Lib.repeatL ([100] : List UInt8) ((min ((0 - m) - 1) 7).toNat))) ++ (Lib.itoa (x + 1))))), ps 3 (iv 0)] (oc (by first | omega | (simp only [List.length_append, List.length_cons, List.length_nil]; omega) : ((([] : List UInt8).length + (Lib.repeatL ([100] : List UInt8) ((min ((0 - m) - 1) 7).toNat)).length : Nat) : Int) ≤ 9223372036854775807) (oc (qbb _ _ : st ([] : List UInt8) ++ st (Lib.repeatL ([100] : List UInt8) ((min ((0 - m) - 1) 7).toNat)) = st (([] : List UInt8) ++ (Lib.repeatL ([100] : List UInt8) ((min ((0 - m) - 1) 7).toNat)))) (oc (by simp only [InK]; omega : InK .i64 (x + 1)) (oc (qbw (x + 1) (by omega) (by omega)) (oc (rfl : Ren0 592 [(iv (x + 1))]) (oc (by first | omega | (simp only [List.length_append, List.length_cons, List.length_nil]; omega) : (((([] : List UInt8) ++ (Lib.repeatL ([100] : List UInt8) ((min ((0 - m) - 1) 7).toNat))).length + (Lib.itoa (x + 1)).length : Nat) : Int) ≤ 9223372036854775807) (oc (qbb _ _ : st (([] : List UInt8) ++ (Lib.repeatL ([100] : List UInt8) ((min ((0 - m) - 1) 7).toNat))) ++ st (Lib.itoa (x + 1)) = st ((([] : List UInt8) ++ (Lib.repeatL ([100] : List UInt8) ((min ((0 - m) - 1) 7).toNat))) ++ (Lib.itoa (x + 1)))) oz))))))) ?_
   rw [qbs (s := s) (h := h) h1 (by omega) (Eq.trans (by rw [← hx, ← hy]) (qbo (by rw [← hm]; exact (qgb h21 h23 h25 h27)) h28))]
   exact qai fun cx_ a_ hI_ => rt hc0 [ps 2 (sv (st ((([] : List UInt8) ++ (Lib.repeatL ([100] : List UInt8) ((min ((0 - m) - 1) 7).toNat))) ++ (Lib.itoa (x + 1))))), ps 3 (iv 0)] [] hI_
  refine T_k mixed [(4, .gd false (.no)), (5, .gd false (.no)), (6, .gd false (.no)), (7, .gd false (.no)), (8, .gd false .no), (9, .gd false .no), (10, .gd false .no), (11, .gd false (.yes false)), (12, .yes false)] [.k2, .n, .r] [ps 24 (bv false)] (oc (dtn h2) (oc (dtn h2) (oc (dtn h2) (oc (dtn h2) (oc (dtn h11) (oc (dtn h11) (oc (dtn h11) (oc (dtn h2) (oc (dtn h11) (oc (dtn h2) oz)))))))))) ?_
  refine qbf (b := false) rfl rfl ?_
  refine qag <| qaa ?_
  obtain ⟨x, hx⟩ : ∃ x, x = s := ⟨_, rfl⟩
  obtain ⟨y, hy⟩ : ∃ y, y = h := ⟨_, rfl⟩
  refine T_wk (Wk.eq (show _ = [ps 1 (.opt 0 0), ps 4 (sv (st ([] : List UInt8))), ps 24 (bv false), pb 0 41 [(iv x), (iv y)]] from by rw [hx, hy])) ?_
  have hnb := Pi.nat7_range (x % 7)
  have hl2 := qkd (o := x + 1) (by omega) (by omega)
  refine T_k mixed [(2, .call [] [(iv x), (iv 7)] [] (.tup [(iv (x / 7)), (iv (x % 7))]) [])] [.k2, .n, .n, .d, .r] [ps 5 (iv (x / 7)), ps 6 (iv (x % 7))] (oc (qgd x (by omega) (by omega)) (oc (rfl : Ren0 176 [(iv x), (iv 7)]) oz)) ?_
  refine qaa ?_
  refine T_kd mixed [(6, .call [] [(iv (x % 7))] [] (iv (Pi.nat7 (x % 7))) [])] [[], [0], [], [2], [0, 1, 2, 3], [], [5], [0, 1, 2, 3, 4, 5, 6], [0, 1, 2, 3, 4, 5, 6, 7]] [([78], [2]), ([80], [1, 78]), ([82], [10]), ([84], [82]), ([86], [80, 84]), ([88], [12]), ([90], [88]), ([92], [86, 90]), ([14], [92])] [.k2, .d, .d, .n, .r] [ps 7 (iv ((y - (12 * (x / 7))) - (Pi.nat7 (x % 7))))] (oc (by simp only [InK]; omega : InK .i64 (12 * (x / 7))) (oc (by simp only [InK]; omega : InK .i64 (y - (12 * (x / 7)))) (oc (qgl (x % 7)) (oc (rfl : Ren0 272 [(iv (x % 7))]) (oc (by simp only [InK]; omega : InK .i64 ((y - (12 * (x / 7))) - (Pi.nat7 (x % 7)))) oz))))) ?_
  refine qaa ?_
  obtain ⟨m, hm⟩ : ∃ m, m = qfp x y := ⟨_, rfl⟩
  have hmb : -9000 ≤ m ∧ m ≤ 9000 := by rw [hm]; unfold qfp; omega
  refine T_wk (Wk.eq (show _ = [ps 1 (.opt 0 0), ps 4 (sv (st ([] : List UInt8))), ps 7 (iv m), pb 0 41 [(iv x), (iv y)]] from by rw [hm]; rfl)) ?_
  refine T_k mixed [] [.r] [] (oz) ?_
  refine qaa <| qan <| qaa ?_
  refine T_k mixed [] [.k3, .n, .r] [ps 52 (bv (decide (0 < m)))] (oz) ?_
  by_cases h29 : 0 < m
  ·refine T_th (dty h29) ?_
   refine T_k mixed [(2, .call [] [(sv (st ([65] : List UInt8))), (nv ((min m 7).toNat))] [] (sv (st (Lib.repeatL ([65] : List UInt8) ((min m 7).toNat)))) [])] [.k2, .d, .n, .d, .r] [ps 8 (sv (st (Lib.repeatL ([65] : List UInt8) ((min m 7).toNat))))] (oc (qcq ([65] : List UInt8) ((min m 7).toNat) (by omega) (by simp only [List.length_cons, List.length_nil]; omega)) (oc (congrArg (fun z => [(sv (st ([65] : List UInt8))), iv z]) (show min m 7 = (((min m 7).toNat : Nat) : Int) from by omega) : [(sv (st ([65] : List UInt8))), (iv (min m 7))] = renL (sigi [] 344) [(sv (st ([65] : List UInt8))), (nv ((min m 7).toNat))]) oz)) ?_
   refine qbg <| qaa <| qaa ?_
   refine T_k mixed [] [.k3, .n, .r] [ps 82 (bv (decide (6 < (((Lib.repeatL ([65] : List UInt8) ((min m 7).toNat)).length : Nat) : Int))))] (oz) ?_
   by_cases h30 : 6 < (((Lib.repeatL ([65] : List UInt8) ((min m 7).toNat)).length : Nat) : Int)
   ·refine T_th (dty h30) ?_
    refine qaa ?_
    refine T_r mixed [] [ps 2 (sv (st ([] : List UInt8))), ps 3 (iv 3)] (oz) ?_
    rw [qbs (s := s) (h := h) h1 (by omega) (Eq.trans (by rw [← hx, ← hy]) (qcr (by rw [← hm]; exact (qga h29)) h30))]
    exact qai fun cx_ a_ hI_ => rt hc0 [ps 2 (sv (st ([] : List UInt8))), ps 3 (iv 3)] [] hI_
   refine T_el (dtn h30) ?_
   refine qag <| qaa ?_
   refine T_r mixed [(2, .val (.av (.string (st (([] : List UInt8) ++ (Lib.repeatL ([65] : List UInt8) ((min m 7).toNat))))))), (6, .call [] [(iv (x + 1))] [] (sv (st (Lib.itoa (x + 1)))) []), (7, .val (.av (.string (st ((([] : List UInt8) ++ (Lib.repeatL ([65] : List UInt8) ((min m 7).toNat))) ++ (Lib.itoa (x + 1)))))))] [ps 2 (sv (st ((([] : List UInt8) ++ (Lib.repeatL ([65] : List UInt8) ((min m 7).toNat))) ++ (Lib.itoa (x + 1))))), ps 3 (iv 0)] (oc (by first | omega | (simp only [List.length_append, List.length_cons, List.length_nil]; omega) : ((([] : List UInt8).length + (Lib.repeatL ([65] : List UInt8) ((min m 7).toNat)).length : Nat) : Int) ≤ 9223372036854775807) (oc (qbb _ _ : st ([] : List UInt8) ++ st (Lib.repeatL ([65] : List UInt8) ((min m 7).toNat)) = st (([] : List UInt8) ++ (Lib.repeatL ([65] : List UInt8) ((min m 7).toNat)))) (oc (by simp only [InK]; omega : InK .i64 (x + 1)) (oc (qbw (x + 1) (by omega) (by omega)) (oc (rfl : Ren0 432 [(iv (x + 1))]) (oc (by first | omega | (simp only [List.length_append, List.length_cons, List.length_nil]; omega) : (((([] : List UInt8) ++ (Lib.repeatL ([65] : List UInt8) ((min m 7).toNat))).length + (Lib.itoa (x + 1)).length : Nat) : Int) ≤ 9223372036854775807) (oc (qbb _ _ : st (([] : List UInt8) ++ (Lib.repeatL ([65] : List UInt8) ((min m 7).toNat))) ++ st (Lib.itoa (x + 1)) = st ((([] : List UInt8) ++ (Lib.repeatL ([65] : List UInt8) ((min m 7).toNat))) ++ (Lib.itoa (x + 1)))) oz))))))) ?_
   rw [qbs (s := s) (h := h) h1 (by omega) (Eq.trans (by rw [← hx, ← hy]) (qbo (by rw [← hm]; exact (qga h29)) h30))]
   exact qai fun cx_ a_ hI_ => rt hc0 [ps 2 (sv (st ((([] : List UInt8) ++ (Lib.repeatL ([65] : List UInt8) ((min m 7).toNat))) ++ (Lib.itoa (x + 1))))), ps 3 (iv 0)] [] hI_
  refine T_el (dtn h29) ?_
  refine qaa ?_
  by_cases h31 : m = 0
  ·refine T_k mixed [(3, .gd true (.no)), (4, .gd true (.no)), (5, .gd true (.call [] [(iv x)] [] (bv (qbv x)) [])), (6, .yes true)] [.k3, .d, .n, .r] [ps 58 (bv (qbv x))] (oc (dty h31) (oc (dty h31) (oc (dty h31) (oc (qdf x (by omega)) (oc (rfl : Ren0 368 [(iv x)]) (oc (dty h31) oz)))))) ?_
   by_cases h32 : (qbv x) = true
   ·refine qau (b := (qbv x)) rfl h32 ?_
    refine T_k mixed [] [.k2, .d, .n, .d, .r] [ps 8 (sv (st ([80] : List UInt8)))] (oz) ?_
    refine qbg <| qaa <| qaa ?_
    refine T_k mixed [] [.k3, .n, .r] [ps 82 (bv false)] (oz) ?_
    refine qbf (b := false) rfl rfl ?_
    refine qag <| qaa ?_
    refine T_r mixed [(2, .val (.av (.string (st (([] : List UInt8) ++ ([80] : List UInt8)))))), (6, .call [] [(iv (x + 1))] [] (sv (st (Lib.itoa (x + 1)))) []), (7, .val (.av (.string (st ((([] : List UInt8) ++ ([80] : List UInt8)) ++ (Lib.itoa (x + 1)))))))] [ps 2 (sv (st ((([] : List UInt8) ++ ([80] : List UInt8)) ++ (Lib.itoa (x + 1))))), ps 3 (iv 0)] (oc (by first | omega | (simp only [List.length_append, List.length_cons, List.length_nil]; omega) : ((([] : List UInt8).length + ([80] : List UInt8).length : Nat) : Int) ≤ 9223372036854775807) (oc (qbb _ _ : st ([] : List UInt8) ++ st ([80] : List UInt8) = st (([] : List UInt8) ++ ([80] : List UInt8))) (oc (by simp only [InK]; omega : InK .i64 (x + 1)) (oc (qbw (x + 1) (by omega) (by omega)) (oc (rfl : Ren0 472 [(iv (x + 1))]) (oc (by first | omega | (simp only [List.length_append, List.length_cons, List.length_nil]; omega) : (((([] : List UInt8) ++ ([80] : List UInt8)).length + (Lib.itoa (x + 1)).length : Nat) : Int) ≤ 9223372036854775807) (oc (qbb _ _ : st (([] : List UInt8) ++ ([80] : List UInt8)) ++ st (Lib.itoa (x + 1)) = st ((([] : List UInt8) ++ ([80] : List UInt8)) ++ (Lib.itoa (x + 1)))) oz))))))) ?_
    rw [qbs (s := s) (h := h) h1 (by omega) (Eq.trans (by rw [← hx, ← hy]) (qbo (q := [80]) (by rw [← hm]; exact (qug h31 h32)) (by decide)))]
    exact qai fun cx_ a_ hI_ => rt hc0 [ps 2 (sv (st ((([] : List UInt8) ++ ([80] : List UInt8)) ++ (Lib.itoa (x + 1))))), ps 3 (iv 0)] [] hI_
   refine qbf (b := (qbv x)) rfl (Bool.eq_false_iff.2 h32) ?_
   refine qaa ?_
   refine T_k mixed [] [.k3, .d, .n, .r] [ps 66 (bv (decide (m = 0)))] (oz) ?_
   refine T_th (dty h31) ?_
   refine T_k mixed [] [.k2, .d, .n, .d, .r] [ps 8 (sv (st ([77] : List UInt8)))] (oz) ?_
   refine qbg <| qaa <| qaa ?_
   refine T_k mixed [] [.k3, .n, .r] [ps 82 (bv false)] (oz) ?_
   refine qbf (b := false) rfl rfl ?_
   refine qag <| qaa ?_
   refine T_r mixed [(2, .val (.av (.string (st (([] : List UInt8) ++ ([77] : List UInt8)))))), (6, .call [] [(iv (x + 1))] [] (sv (st (Lib.itoa (x + 1)))) []), (7, .val (.av (.string (st ((([] : List UInt8) ++ ([77] : List UInt8)) ++ (Lib.itoa (x + 1)))))))] [ps 2 (sv (st ((([] : List UInt8) ++ ([77] : List UInt8)) ++ (Lib.itoa (x + 1))))), ps 3 (iv 0)] (oc (by first | omega | (simp only [List.length_append, List.length_cons, List.length_nil]; omega) : ((([] : List UInt8).length + ([77] : List UInt8).length : Nat) : Int) ≤ 9223372036854775807) (oc (qbb _ _ : st ([] : List UInt8) ++ st ([77] : List UInt8) = st (([] : List UInt8) ++ ([77] : List UInt8))) (oc (by simp only [InK]; omega : InK .i64 (x + 1)) (oc (qbw (x + 1) (by omega) (by omega)) (oc (rfl : Ren0 496 [(iv (x + 1))]) (oc (by first | omega | (simp only [List.length_append, List.length_cons, List.length_nil]; omega) : (((([] : List UInt8) ++ ([77] : List UInt8)).length + (Lib.itoa (x + 1)).length : Nat) : Int) ≤ 9223372036854775807) (oc (qbb _ _ : st (([] : List UInt8) ++ ([77] : List UInt8)) ++ st (Lib.itoa (x + 1)) = st ((([] : List UInt8) ++ ([77] : List UInt8)) ++ (Lib.itoa (x + 1)))) oz))))))) ?_
   rw [qbs (s := s) (h := h) h1 (by omega) (Eq.trans (by rw [← hx, ← hy]) (qbo (q := [77]) (by rw [← hm]; exact (quh h31 h32)) (by decide)))]
   exact qai fun cx_ a_ hI_ => rt hc0 [ps 2 (sv (st ((([] : List UInt8) ++ ([77] : List UInt8)) ++ (Lib.itoa (x + 1))))), ps 3 (iv 0)] [] hI_
  refine T_k mixed [(3, .gd false .no), (4, .gd false .no), (5, .gd false .no), (6, .yes false)] [.k3, .d, .n, .r] [ps 58 (bv false)] (oc (dtn h31) (oc (dtn h31) (oc (dtn h31) (oc (dtn h31) oz)))) ?_
  refine qbf (b := false) rfl rfl ?_
  refine qaa ?_
  refine T_k mixed [] [.k3, .d, .n, .r] [ps 66 (bv (decide (m = 0)))] (oz) ?_
  refine T_el (dtn h31) ?_
  refine qaa ?_
  refine T_k mixed [(2, .call [] [(iv x)] [] (bv (qbv x)) [])] [.k3, .d, .n, .r] [ps 69 (bv (qbv x))] (oc (qdf x (by omega)) (oc (rfl : Ren0 432 [(iv x)]) oz)) ?_
  by_cases h33 : (qbv x) = true
  ·refine qau (b := (qbv x)) rfl h33 ?_
   refine T_k mixed [(3, .call [] [(sv (st ([100] : List UInt8))), (nv ((min (0 - m) 7).toNat))] [] (sv (st (Lib.repeatL ([100] : List UInt8) ((min (0 - m) 7).toNat)))) [])] [.k2, .d, .n, .d, .r] [ps 8 (sv (st (Lib.repeatL ([100] : List UInt8) ((min (0 - m) 7).toNat))))] (oc (by simp only [InK]; omega : InK .i64 (0 - m)) (oc (qcq ([100] : List UInt8) ((min (0 - m) 7).toNat) (by omega) (by simp only [List.length_cons, List.length_nil]; omega)) (oc (congrArg (fun z => [(sv (st ([100] : List UInt8))), iv z]) (show min (0 - m) 7 = (((min (0 - m) 7).toNat : Nat) : Int) from by omega) : [(sv (st ([100] : List UInt8))), (iv (min (0 - m) 7))] = renL (sigi [] 472) [(sv (st ([100] : List UInt8))), (nv ((min (0 - m) 7).toNat))]) oz))) ?_
   refine qbg <| qaa <| qaa ?_
   refine T_k mixed [] [.k3, .n, .r] [ps 82 (bv (decide (6 < (((Lib.repeatL ([100] : List UInt8) ((min (0 - m) 7).toNat)).length : Nat) : Int))))] (oz) ?_
   by_cases h34 : 6 < (((Lib.repeatL ([100] : List UInt8) ((min (0 - m) 7).toNat)).length : Nat) : Int)
   ·refine T_th (dty h34) ?_
    refine qaa ?_
    refine T_r mixed [] [ps 2 (sv (st ([] : List UInt8))), ps 3 (iv 3)] (oz) ?_
    rw [qbs (s := s) (h := h) h1 (by omega) (Eq.trans (by rw [← hx, ← hy]) (qcr (by rw [← hm]; exact (qjk h29 h31 h33)) h34))]
    exact qai fun cx_ a_ hI_ => rt hc0 [ps 2 (sv (st ([] : List UInt8))), ps 3 (iv 3)] [] hI_
   refine T_el (dtn h34) ?_
   refine qag <| qaa ?_
   refine T_r mixed [(2, .val (.av (.string (st (([] : List UInt8) ++ (Lib.repeatL ([100] : List UInt8) ((min (0 - m) 7).toNat))))))), (6, .call [] [(iv (x + 1))] [] (sv (st (Lib.itoa (x + 1)))) []), (7, .val (.av (.string (st ((([] : List UInt8) ++ (Lib.repeatL ([100] : List UInt8) ((min (0 - m) 7).toNat))) ++ (Lib.itoa (x + 1)))))))] [ps 2 (sv (st ((([] : List UInt8) ++ (Lib.repeatL ([100] : List UInt8) ((min (0 - m) 7).toNat))) ++ (Lib.itoa (x + 1))))), ps 3 (iv 0)] (oc (by first | omega | (simp only [List.length_append, List.length_cons, List.length_nil]; omega) : ((([] : List UInt8).length + (Lib.repeatL ([100] : List UInt8) ((min (0 - m) 7).toNat)).length : Nat) : Int) ≤ 9223372036854775807) (oc (qbb _ _ : st ([] : List UInt8) ++ st (Lib.repeatL ([100] : List UInt8) ((min (0 - m) 7).toNat)) = st (([] : List UInt8) ++ (Lib.repeatL ([100] : List UInt8) ((min (0 - m) 7).toNat)))) (oc (by simp only [InK]; omega : InK .i64 (x + 1)) (oc (qbw (x + 1) (by omega) (by omega)) (oc (rfl : Ren0 560 [(iv (x + 1))]) (oc (by first | omega | (simp only [List.length_append, List.length_cons, List.length_nil]; omega) : (((([] : List UInt8) ++ (Lib.repeatL ([100] : List UInt8) ((min (0 - m) 7).toNat))).length + (Lib.itoa (x + 1)).length : Nat) : Int) ≤ 9223372036854775807) (oc (qbb _ _ : st (([] : List UInt8) ++ (Lib.repeatL ([100] : List UInt8) ((min (0 - m) 7).toNat))) ++ st (Lib.itoa (x + 1)) = st ((([] : List UInt8) ++ (Lib.repeatL ([100] : List UInt8) ((min (0 - m) 7).toNat))) ++ (Lib.itoa (x + 1)))) oz))))))) ?_
   rw [qbs (s := s) (h := h) h1 (by omega) (Eq.trans (by rw [← hx, ← hy]) (qbo (by rw [← hm]; exact (qjk h29 h31 h33)) h34))]
   exact qai fun cx_ a_ hI_ => rt hc0 [ps 2 (sv (st ((([] : List UInt8) ++ (Lib.repeatL ([100] : List UInt8) ((min (0 - m) 7).toNat))) ++ (Lib.itoa (x + 1))))), ps 3 (iv 0)] [] hI_
  refine qbf (b := (qbv x)) rfl (Bool.eq_false_iff.2 h33) ?_
  refine qaa ?_
  refine T_k mixed [] [.k3, .d, .n, .r] [ps 77 (bv (decide (m = (-1))))] (oz) ?_
  by_cases h35 : m = (-1)
  ·refine T_th (dty h35) ?_
   refine T_k mixed [] [.k2, .d, .n, .d, .r] [ps 8 (sv (st ([109] : List UInt8)))] (oz) ?_
   refine qbg <| qaa <| qaa ?_
   refine T_k mixed [] [.k3, .n, .r] [ps 82 (bv false)] (oz) ?_
   refine qbf (b := false) rfl rfl ?_
   refine qag <| qaa ?_
   refine T_r mixed [(2, .val (.av (.string (st (([] : List UInt8) ++ ([109] : List UInt8)))))), (6, .call [] [(iv (x + 1))] [] (sv (st (Lib.itoa (x + 1)))) []), (7, .val (.av (.string (st ((([] : List UInt8) ++ ([109] : List UInt8)) ++ (Lib.itoa (x + 1)))))))] [ps 2 (sv (st ((([] : List UInt8) ++ ([109] : List UInt8)) ++ (Lib.itoa (x + 1))))), ps 3 (iv 0)] (oc (by first | omega | (simp only [List.length_append, List.length_cons, List.length_nil]; omega) : ((([] : List UInt8).length + ([109] : List UInt8).length : Nat) : Int) ≤ 9223372036854775807) (oc (qbb _ _ : st ([] : List UInt8) ++ st ([109] : List UInt8) = st (([] : List UInt8) ++ ([109] : List UInt8))) (oc (by simp only [InK]; omega : InK .i64 (x + 1)) (oc (qbw (x + 1) (by omega) (by omega)) (oc (rfl : Ren0 552 [(iv (x + 1))]) (oc (by first | omega | (simp only [List.length_append, List.length_cons, List.length_nil]; omega) : (((([] : List UInt8) ++ ([109] : List UInt8)).length + (Lib.itoa (x + 1)).length : Nat) : Int) ≤ 9223372036854775807) (oc (qbb _ _ : st (([] : List UInt8) ++ ([109] : List UInt8)) ++ st (Lib.itoa (x + 1)) = st ((([] : List UInt8) ++ ([109] : List UInt8)) ++ (Lib.itoa (x + 1)))) oz))))))) ?_
   rw [qbs (s := s) (h := h) h1 (by omega) (Eq.trans (by rw [← hx, ← hy]) (qbo (q := [109]) (by rw [← hm]; exact (quf h35 h33)) (by decide)))]
   exact qai fun cx_ a_ hI_ => rt hc0 [ps 2 (sv (st ((([] : List UInt8) ++ ([109] : List UInt8)) ++ (Lib.itoa (x + 1))))), ps 3 (iv 0)] [] hI_
  refine T_el (dtn h35) ?_
  refine T_k mixed [(4, .call [] [(sv (st ([100] : List UInt8))), (nv ((min ((0 - m) - 1) 7).toNat))] [] (sv (st (Lib.repeatL ([100] : List UInt8) ((min ((0 - m) - 1) 7).toNat)))) [])] [.k2, .d, .n, .d, .r] [ps 8 (sv (st (Lib.repeatL ([100] : List UInt8) ((min ((0 - m) - 1) 7).toNat))))] (oc (by simp only [InK]; omega : InK .i64 (0 - m)) (oc (by simp only [InK]; omega : InK .i64 ((0 - m) - 1)) (oc (qcq ([100] : List UInt8) ((min ((0 - m) - 1) 7).toNat) (by omega) (by simp only [List.length_cons, List.length_nil]; omega)) (oc (congrArg (fun z => [(sv (st ([100] : List UInt8))), iv z]) (show min ((0 - m) - 1) 7 = (((min ((0 - m) - 1) 7).toNat : Nat) : Int) from by omega) : [(sv (st ([100] : List UInt8))), (iv (min ((0 - m) - 1) 7))] = renL (sigi [] 504) [(sv (st ([100] : List UInt8))), (nv ((min ((0 - m) - 1) 7).toNat))]) oz)))) ?_
  refine qbg <| qaa <| qaa ?_
  refine T_k mixed [] [.k3, .n, .r] [ps 82 (bv (decide (6 < (((Lib.repeatL ([100] : List UInt8) ((min ((0 - m) - 1) 7).toNat)).length : Nat) : Int))))] (oz) ?_
  by_cases h36 : 6 < (((Lib.repeatL ([100] : List UInt8) ((min ((0 - m) - 1) 7).toNat)).length : Nat) : Int)
  ·refine T_th (dty h36) ?_
   refine qaa ?_
   refine T_r mixed [] [ps 2 (sv (st ([] : List UInt8))), ps 3 (iv 3)] (oz) ?_
   rw [qbs (s := s) (h := h) h1 (by omega) (Eq.trans (by rw [← hx, ← hy]) (qcr (by rw [← hm]; exact (qgb h29 h31 h33 h35)) h36))]
   exact qai fun cx_ a_ hI_ => rt hc0 [ps 2 (sv (st ([] : List UInt8))), ps 3 (iv 3)] [] hI_
  refine T_el (dtn h36) ?_
  refine qag <| qaa ?_
  refine T_r mixed [(2, .val (.av (.string (st (([] : List UInt8) ++ (Lib.repeatL ([100] : List UInt8) ((min ((0 - m) - 1) 7).toNat))))))), (6, .call [] [(iv (x + 1))] [] (sv (st (Lib.itoa (x + 1)))) []), (7, .val (.av (.string (st ((([] : List UInt8) ++ (Lib.repeatL ([100] : List UInt8) ((min ((0 - m) - 1) 7).toNat))) ++ (Lib.itoa (x + 1)))))))] [ps 2 (sv (st ((([] : List UInt8) ++ (Lib.repeatL ([100] : List UInt8) ((min ((0 - m) - 1) 7).toNat))) ++ (Lib.itoa (x + 1))))), ps 3 (iv 0)] (oc (by first | omega | (simp only [List.length_append, List.length_cons, List.length_nil]; omega) : ((([] : List UInt8).length + (Lib.repeatL ([100] : List UInt8) ((min ((0 - m) - 1) 7).toNat)).length : Nat) : Int) ≤ 9223372036854775807) (oc (qbb _ _ : st ([] : List UInt8) ++ st (Lib.repeatL ([100] : List UInt8) ((min ((0 - m) - 1) 7).toNat)) = st (([] : List UInt8) ++ (Lib.repeatL ([100] : List UInt8) ((min ((0 - m) - 1) 7).toNat)))) (oc (by simp only [InK]; omega : InK .i64 (x + 1)) (oc (qbw (x + 1) (by omega) (by omega)) (oc (rfl : Ren0 592 [(iv (x + 1))]) (oc (by first | omega | (simp only [List.length_append, List.length_cons, List.length_nil]; omega) : (((([] : List UInt8) ++ (Lib.repeatL ([100] : List UInt8) ((min ((0 - m) - 1) 7).toNat))).length + (Lib.itoa (x + 1)).length : Nat) : Int) ≤ 9223372036854775807) (oc (qbb _ _ : st (([] : List UInt8) ++ (Lib.repeatL ([100] : List UInt8) ((min ((0 - m) - 1) 7).toNat))) ++ st (Lib.itoa (x + 1)) = st ((([] : List UInt8) ++ (Lib.repeatL ([100] : List UInt8) ((min ((0 - m) - 1) 7).toNat))) ++ (Lib.itoa (x + 1)))) oz))))))) ?_
  rw [qbs (s := s) (h := h) h1 (by omega) (Eq.trans (by rw [← hx, ← hy]) (qbo (by rw [← hm]; exact (qgb h29 h31 h33 h35)) h36))]
  exact qai fun cx_ a_ hI_ => rt hc0 [ps 2 (sv (st ((([] : List UInt8) ++ (Lib.repeatL ([100] : List UInt8) ((min ((0 - m) - 1) 7).toNat))) ++ (Lib.itoa (x + 1))))), ps 3 (iv 0)] [] hI_
 refine T_th (congrArg Bool.not (Bool.eq_false_iff.2 h1)) ?_
 refine qaa ?_
 refine T_r mixed [] [ps 2 (sv (st ([] : List UInt8))), ps 3 (iv 3)] (oz) ?_
 rw [nameS_no (s := s) (h := h) h1]
 exact qai fun cx_ a_ hI_ => rt hc0 [ps 2 (sv (st ([] : List UInt8))), ps 3 (iv 3)] [] hI_
end Go.Proofs.YtmlnilkbolcknaaGreatDoor.Pm
namespace Go.Proofs.YtmlnilkbolcknaaGreatDoor.Pm
open Go Go.Proofs.YtmlnilkbolcknaaGreatDoor.Pi

set_option maxRecDepth 100000 in
set_option maxHeartbeats 4000000 in
theorem item_step (y : It) (lv n : Int) (ihL : ∀ (l : List It) (lv n : Int), SizeOf.sizeOf l < SizeOf.sizeOf y → 0 ≤ lv → lv ≤ 32 → 0 ≤ n → n ≤ 4095 → fitL l → l.length ≤ 140737488351232 → PC Tryz.prog 24 [.opt 0 0, .ssl (ics l) 0 l.length, iv lv] [(67, [iv n])] (bv (decide ((itL l lv n).1 = true ∧ 0 < l.length))) [some (67, [iv (itL l lv n).2])]) (hlv0 : 0 ≤ lv) (hlv1 : lv ≤ 32) (hn0 : 0 ≤ n) (hn1 : n ≤ 4095) (hfx : fitI y) : PC Tryz.prog 58 [(.opt 0 0), (.agg [(iv (iK y)), (iv (iS y)), (.ssl (pts (iP y)) 0 ((iP y).length)), (iv ((iB y).1)), (iv ((iB y).2)), (sv (st (iL y))), (.ssl (ics (iC y)) 0 ((iC y).length))]), (iv lv)] [some (67, [(iv n)])] (bv ((itS y lv n).1)) [some (67, [(iv ((itS y lv n).2))])] := by
 obtain ⟨hx1, hx2, hx3, hx4, hx5⟩ := (qsx y).1 hfx
 refine qas Tryz.func58 rfl (by kernel_rfl) (Nat.le_of_ble_eq_true rfl) (by kernel_rfl) (l0 := [ps 0 (.opt 0 0), ps 1 (.agg [(iv (iK y)), (iv (iS y)), (.ssl (pts (iP y)) 0 ((iP y).length)), (iv ((iB y).1)), (iv ((iB y).2)), (sv (st (iL y))), (.ssl (ics (iC y)) 0 ((iC y).length))]), ps 2 (iv lv), pb 0 67 [(iv n)]]) rfl (fun c0 Bor hc0 => ?_)
 refine qaa ?_
 refine T_k mixed [] [.k1, .d, .k1, .n, .k1, .n] [ps 4 (.opt 1 0), pb 1 50 [(iv (iK y)), (iv (iS y)), (.ssl (pts (iP y)) 0 ((iP y).length)), (iv ((iB y).1)), (iv ((iB y).2)), (sv (st (iL y))), (.ssl (ics (iC y)) 0 ((iC y).length))]] (oz) ?_
 refine qaa <| qaa ?_
 refine T_k mixed [] [.k3, .d, .n, .r] [pb 0 67 [(iv (n - 1))]] (oc (by simp only [InK]; omega : InK .i64 (n - 1)) oz) ?_
 refine qaa ?_
 by_cases h1 : (n - 1) < 0
 ·refine T_k mixed [(6, .gd true .no), (7, .gd true .no), (8, .yes true), (10, .gd true .no), (11, .gd true .no), (12, .gd true .no), (15, .gd true .no), (16, .gd true .no), (17, .gd true .no)] [.k3, .n, .r] [ps 37 (bv true)] (oc (dty h1) (oc (dty h1) (oc (dty h1) (oc (rfl : true = true) (oc (rfl : true = true) (oc (rfl : true = true) (oc (rfl : true = true) (oc (rfl : true = true) (oc (rfl : true = true) oz))))))))) ?_
  refine qau (b := true) rfl rfl ?_
  refine qaa ?_
  refine T_r mixed [] [ps 6 (bv false), pb 0 67 [(iv (n - 1))]] (oz) ?_
  have hT : itS y lv n = (false, (n - 1)) := by rw [qcd]; (repeat (first | rw [if_pos (by omega)] | rw [if_neg (by omega)] | rw [if_pos (by assumption)] | rw [if_neg (by assumption)]))
  rw [hT]
  exact qai fun cx_ a_ hI_ => rt hc0 [ps 6 (bv false), pb 0 67 [(iv (n - 1))]] [0] hI_ (hbk := by exact oc rfl (oz))
 by_cases h2 : 31 < lv
 ·refine T_k mixed [(6, .gd false (.no)), (7, .gd false (.no)), (8, .yes false), (10, .gd true .no), (11, .gd true .no), (12, .gd true .no), (13, .yes true), (15, .gd true .no), (16, .gd true .no), (17, .gd true .no)] [.k3, .n, .r] [ps 37 (bv true)] (oc (dtn h1) (oc (dtn h1) (oc (dtn h1) (oc (dty h2) (oc (dty h2) (oc (dty h2) (oc (dty h2) (oc (rfl : true = true) (oc (rfl : true = true) (oc (rfl : true = true) oz)))))))))) ?_
  refine qau (b := true) rfl rfl ?_
  refine qaa ?_
  refine T_r mixed [] [ps 6 (bv false), pb 0 67 [(iv (n - 1))]] (oz) ?_
  have hT : itS y lv n = (false, (n - 1)) := by rw [qcd]; (repeat (first | rw [if_pos (by omega)] | rw [if_neg (by omega)] | rw [if_pos (by assumption)] | rw [if_neg (by assumption)]))
  rw [hT]
  exact qai fun cx_ a_ hI_ => rt hc0 [ps 6 (bv false), pb 0 67 [(iv (n - 1))]] [0] hI_ (hbk := by exact oc rfl (oz))
 by_cases h3 : (iS y) < 1
 ·refine T_k mixed [(6, .gd false (.no)), (7, .gd false (.no)), (8, .yes false), (10, .gd false (.no)), (11, .gd false (.no)), (12, .gd false (.no)), (13, .yes false), (15, .gd true .no), (16, .gd true .no), (17, .gd true .no), (18, .yes true)] [.k3, .n, .r] [ps 37 (bv true)] (oc (dtn h1) (oc (dtn h1) (oc (dtn h1) (oc (dtn h2) (oc (dtn h2) (oc (dtn h2) (oc (dtn h2) (oc (dty h3) (oc (dty h3) (oc (dty h3) (oc (dty h3) oz))))))))))) ?_
  refine qau (b := true) rfl rfl ?_
  refine qaa ?_
  refine T_r mixed [] [ps 6 (bv false), pb 0 67 [(iv (n - 1))]] (oz) ?_
  have hT : itS y lv n = (false, (n - 1)) := by rw [qcd]; (repeat (first | rw [if_pos (by omega)] | rw [if_neg (by omega)] | rw [if_pos (by assumption)] | rw [if_neg (by assumption)]))
  rw [hT]
  exact qai fun cx_ a_ hI_ => rt hc0 [ps 6 (bv false), pb 0 67 [(iv (n - 1))]] [0] hI_ (hbk := by exact oc rfl (oz))
 refine T_k mixed [(6, .gd false (.no)), (7, .gd false (.no)), (8, .yes false), (10, .gd false (.no)), (11, .gd false (.no)), (12, .gd false (.no)), (13, .yes false), (15, .gd false (.no)), (16, .gd false (.no)), (17, .gd false (.no)), (18, .yes false)] [.k3, .n, .r] [ps 37 (bv (decide (65536 < (iS y))))] (oc (dtn h1) (oc (dtn h1) (oc (dtn h1) (oc (dtn h2) (oc (dtn h2) (oc (dtn h2) (oc (dtn h2) (oc (dtn h3) (oc (dtn h3) (oc (dtn h3) (oc (dtn h3) oz))))))))))) ?_
 by_cases h4 : 65536 < (iS y)
 ·refine T_th (dty h4) ?_
  refine qaa ?_
  refine T_r mixed [] [ps 6 (bv false), pb 0 67 [(iv (n - 1))]] (oz) ?_
  have hT : itS y lv n = (false, (n - 1)) := by rw [qcd]; (repeat (first | rw [if_pos (by omega)] | rw [if_neg (by omega)] | rw [if_pos (by assumption)] | rw [if_neg (by assumption)]))
  rw [hT]
  exact qai fun cx_ a_ hI_ => rt hc0 [ps 6 (bv false), pb 0 67 [(iv (n - 1))]] [0] hI_ (hbk := by exact oc rfl (oz))
 refine T_el (dtn h4) ?_
 refine qag <| qaa ?_
 refine T_k mixed [] [.k3, .n, .d, .k2, .n] [ps 7 (.opt 241 0), pb 241 41 [(iv 0), (iv 0)]] (oz) ?_
 refine qaa <| qaa ?_
 refine T_k mixed [] [.k4, .n, .r] [ps 40 (iv (iK y))] (oz) ?_
 refine qan <| qaa ?_
 refine T_k mixed [] [.k5, .n, .r] [ps 41 (bv (decide ((iK y) = 1)))] (oz) ?_
 by_cases h5 : (iK y) = 1
 ·refine T_th (dty h5) ?_
  refine qaa <| qaa ?_
  by_cases h6 : (((iP y).length : Nat) : Int) = 0
  ·refine T_k mixed [(5, .gd true .no), (6, .gd true .no), (7, .gd true .no), (8, .gd true .no), (9, .yes true), (11, .gd true .no), (12, .gd true .no), (13, .gd true .no), (14, .gd true .no), (17, .gd true .no), (18, .gd true .no), (19, .gd true .no), (20, .gd true .no)] [.d, .d, .k1, .d, .d, .d, .n, .k2, .d] [ps 64 (bv true)] (oc (dty h6) (oc (dty h6) (oc (dty h6) (oc (dty h6) (oc (dty h6) (oc (rfl : true = true) (oc (rfl : true = true) (oc (rfl : true = true) (oc (rfl : true = true) (oc (rfl : true = true) (oc (rfl : true = true) (oc (rfl : true = true) (oc (rfl : true = true) oz))))))))))))) ?_
   refine qau (b := true) rfl rfl ?_
   refine qaa ?_
   refine T_k mixed [] [.d, .n, .d, .k1, .d] [ps 6 (bv false)] (oz) ?_
   have hT : itS y lv n = (false, (n - 1)) := by rw [qcd]; (repeat (first | rw [if_pos (by omega)] | rw [if_neg (by omega)] | rw [if_pos (by assumption)] | rw [if_neg (by assumption)])); rw [show qdg y = false from by unfold qdg; (repeat (first | rw [if_pos (by omega)] | rw [if_neg (by omega)] | rw [if_pos (by assumption)] | rw [if_neg (by assumption)]))]
   rw [hT]
   exact qai fun cx_ a_ hI_ => rt hc0 [ps 6 (bv false), pb 0 67 [(iv (n - 1))]] [0] hI_ (hbk := by exact oc rfl (oz))
  by_cases h7 : 16 < (((iP y).length : Nat) : Int)
  ·refine T_k mixed [(5, .gd false (.no)), (6, .gd false (.no)), (7, .gd false (.no)), (8, .gd false (.no)), (9, .yes false), (11, .gd true .no), (12, .gd true .no), (13, .gd true .no), (14, .gd true .no), (15, .yes true), (17, .gd true .no), (18, .gd true .no), (19, .gd true .no), (20, .gd true .no)] [.d, .d, .k1, .d, .d, .d, .n, .k2, .d] [ps 64 (bv true)] (oc (dtn h6) (oc (dtn h6) (oc (dtn h6) (oc (dtn h6) (oc (dtn h6) (oc (dty h7) (oc (dty h7) (oc (dty h7) (oc (dty h7) (oc (dty h7) (oc (rfl : true = true) (oc (rfl : true = true) (oc (rfl : true = true) (oc (rfl : true = true) oz)))))))))))))) ?_
   refine qau (b := true) rfl rfl ?_
   refine qaa ?_
   refine T_k mixed [] [.d, .n, .d, .k1, .d] [ps 6 (bv false)] (oz) ?_
   have hT : itS y lv n = (false, (n - 1)) := by rw [qcd]; (repeat (first | rw [if_pos (by omega)] | rw [if_neg (by omega)] | rw [if_pos (by assumption)] | rw [if_neg (by assumption)])); rw [show qdg y = false from by unfold qdg; (repeat (first | rw [if_pos (by omega)] | rw [if_neg (by omega)] | rw [if_pos (by assumption)] | rw [if_neg (by assumption)]))]
   rw [hT]
   exact qai fun cx_ a_ hI_ => rt hc0 [ps 6 (bv false), pb 0 67 [(iv (n - 1))]] [0] hI_ (hbk := by exact oc rfl (oz))
  by_cases h8 : 0 < (((iC y).length : Nat) : Int)
  ·refine T_k mixed [(5, .gd false (.no)), (6, .gd false (.no)), (7, .gd false (.no)), (8, .gd false (.no)), (9, .yes false), (11, .gd false (.no)), (12, .gd false (.no)), (13, .gd false (.no)), (14, .gd false (.no)), (15, .yes false), (17, .gd true .no), (18, .gd true .no), (19, .gd true .no), (20, .gd true .no), (21, .yes true)] [.d, .d, .k1, .d, .d, .d, .n, .k2, .d] [ps 64 (bv true)] (oc (dtn h6) (oc (dtn h6) (oc (dtn h6) (oc (dtn h6) (oc (dtn h6) (oc (dtn h7) (oc (dtn h7) (oc (dtn h7) (oc (dtn h7) (oc (dtn h7) (oc (dty h8) (oc (dty h8) (oc (dty h8) (oc (dty h8) (oc (dty h8) oz))))))))))))))) ?_
   refine qau (b := true) rfl rfl ?_
   refine qaa ?_
   refine T_k mixed [] [.d, .n, .d, .k1, .d] [ps 6 (bv false)] (oz) ?_
   have hT : itS y lv n = (false, (n - 1)) := by rw [qcd]; (repeat (first | rw [if_pos (by omega)] | rw [if_neg (by omega)] | rw [if_pos (by assumption)] | rw [if_neg (by assumption)])); rw [show qdg y = false from by unfold qdg; (repeat (first | rw [if_pos (by omega)] | rw [if_neg (by omega)] | rw [if_pos (by assumption)] | rw [if_neg (by assumption)]))]
   rw [hT]
   exact qai fun cx_ a_ hI_ => rt hc0 [ps 6 (bv false), pb 0 67 [(iv (n - 1))]] [0] hI_ (hbk := by exact oc rfl (oz))
  refine T_k mixed [(5, .gd false (.no)), (6, .gd false (.no)), (7, .gd false (.no)), (8, .gd false (.no)), (9, .yes false), (11, .gd false (.no)), (12, .gd false (.no)), (13, .gd false (.no)), (14, .gd false (.no)), (15, .yes false), (17, .gd false (.no)), (18, .gd false (.no)), (19, .gd false (.no)), (20, .gd false (.no)), (21, .yes false)] [.d, .d, .k1, .d, .d, .d, .n, .k2, .d] [ps 64 (bv (!((decide (((iB y).1) = 0)) && (decide (((iB y).2) = 0)))))] (oc (dtn h6) (oc (dtn h6) (oc (dtn h6) (oc (dtn h6) (oc (dtn h6) (oc (dtn h7) (oc (dtn h7) (oc (dtn h7) (oc (dtn h7) (oc (dtn h7) (oc (dtn h8) (oc (dtn h8) (oc (dtn h8) (oc (dtn h8) (oc (dtn h8) oz))))))))))))))) ?_
  by_cases h9 : ((decide (((iB y).1) = 0)) && (decide (((iB y).2) = 0))) = true
  ·refine T_el (congrArg Bool.not h9) ?_
   refine qag <| qaa <| qaa ?_
   refine T_k mixed [] [.k1, .d, .n, .n, .n, .r] [ps 66 (.ssl (pts (iP y)) 0 ((iP y).length)), ps 67 (nv ((iP y).length)), ps 68 (iv 0)] (oz) ?_
   refine qan ?_
   refine qcm (α := {x : Nat // x ≤ (iP y).length ∧ (∀ i, i < x → rb ((iP y).getD i dPt) = true)}) (fun x => [ps 4 (.opt 1 0), ps 66 (.ssl (pts (iP y)) 0 ((iP y).length)), ps 67 (nv ((iP y).length)), ps 68 (nv x.1), pb 0 67 [(iv (n - 1))], pb 1 50 [(iv (iK y)), (iv (iS y)), (.ssl (pts (iP y)) 0 ((iP y).length)), (iv ((iB y).1)), (iv ((iB y).2)), (sv (st (iL y))), (.ssl (ics (iC y)) 0 ((iC y).length))]]) (fun x => (iP y).length - x.1) 2 ⟨0, ⟨Nat.zero_le _, fun i hi => absurd hi (Nat.not_lt_zero i)⟩⟩ (Wk.ren2 [ps 4 (.opt 1 0), ps 66 (.ssl (pts (iP y)) 0 ((iP y).length)), ps 67 (nv ((iP y).length)), ps 68 (nv 0), pb 0 67 [(iv (n - 1))], pb 1 50 [(iv (iK y)), (iv (iS y)), (.ssl (pts (iP y)) 0 ((iP y).length)), (iv ((iB y).1)), (iv ((iB y).2)), (sv (st (iL y))), (.ssl (ics (iC y)) 0 ((iC y).length))]] 1 hc0 [0, 1] rfl rfl (by kernel_rfl) (by kernel_rfl)) ?_
   rintro ⟨j, ⟨hj, hin⟩⟩
   refine qaa ?_
   refine T_r mixed [] [ps 4 (.opt 1 0), ps 66 (.ssl (pts (iP y)) 0 ((iP y).length)), ps 67 (nv ((iP y).length)), ps 68 (nv j), ps 69 (bv (decide (((j : Nat) : Int) < (((iP y).length : Nat) : Int)))), pb 0 67 [(iv (n - 1))], pb 1 50 [(iv (iK y)), (iv (iS y)), (.ssl (pts (iP y)) 0 ((iP y).length)), (iv ((iB y).1)), (iv ((iB y).2)), (sv (st (iL y))), (.ssl (ics (iC y)) 0 ((iC y).length))]] (oz) ?_
   refine qaa ?_
   by_cases h10 : ((j : Nat) : Int) < (((iP y).length : Nat) : Int)
   ·refine T_th (dty h10) ?_
    refine qag <| qaa <| qan <| qaa ?_
    refine T_k mixed [(0, .nat (j * 3)), (1, .cells [(iv (((iP y).getD j dPt).1)), (iv (((iP y).getD j dPt).2.1)), (iv (((iP y).getD j dPt).2.2))])] [.k1, .n, .k3, .d, .k2, .n] [ps 9 (.opt 26 0), pb 26 52 [(iv (((iP y).getD j dPt).1)), (iv (((iP y).getD j dPt).2.1)), (iv (((iP y).getD j dPt).2.2))]] (oc (by omega : (0 : Int) ≤ ((j : Nat) : Int) ∧ ((j : Nat) : Int) < (((iP y).length : Nat) : Int)) (oc (by omega : 0 + (((j : Nat) : Int) : Int).toNat * 3 = (j * 3)) (oc (qch ptC 3 (fun _ => rfl) dPt (iP y) j 0 3 (by omega) (by decide) : (j * 3) + 3 ≤ ((pts (iP y))).length ∧ (((pts (iP y))).drop (j * 3)).take 3 = [(iv (((iP y).getD j dPt).1)), (iv (((iP y).getD j dPt).2.1)), (iv (((iP y).getD j dPt).2.2))]) oz))) ?_
    refine qaa ?_
    refine T_k mixed [(1, .call [] [(.agg [(iv (((iP y).getD j dPt).1)), (iv (((iP y).getD j dPt).2.1)), (iv (((iP y).getD j dPt).2.2))])] [] (bv (Pi.rightB (((iP y).getD j dPt).1) (((iP y).getD j dPt).2.1) (((iP y).getD j dPt).2.2))) [])] [.k1, .d, .k3, .n, .k2, .d] [ps 74 (bv (!(Pi.rightB (((iP y).getD j dPt).1) (((iP y).getD j dPt).2.1) (((iP y).getD j dPt).2.2))))] (oc (qgc (((iP y).getD j dPt).1) (((iP y).getD j dPt).2.1) (((iP y).getD j dPt).2.2)) (oc (rfl : Ren0 50 [(.agg [(iv (((iP y).getD j dPt).1)), (iv (((iP y).getD j dPt).2.1)), (iv (((iP y).getD j dPt).2.2))])]) oz)) ?_
    by_cases h11 : (Pi.rightB (((iP y).getD j dPt).1) (((iP y).getD j dPt).2.1) (((iP y).getD j dPt).2.2)) = true
    ·refine T_el (congrArg Bool.not h11) ?_
     refine qag <| qbg ?_
     refine T_k mixed [] [.k3, .d, .n, .d, .r] [ps 68 (iv (((j : Nat) : Int) + 1))] (oc (by simp only [InK]; omega : InK .i64 (((j : Nat) : Int) + 1)) oz) ?_
     exact qce ⟨j + 1, ⟨by show j + 1 ≤ (iP y).length; omega, by show ∀ i, i < j + 1 → rb ((iP y).getD i dPt) = true; intro i hi; by_cases hij : i < j; exact hin i hij; rw [show i = j from by omega]; exact h11⟩⟩ (Wk.trans (Wk.eq (show _ = [ps 4 (.opt 1 0), ps 66 (.ssl (pts (iP y)) 0 ((iP y).length)), ps 67 (nv ((iP y).length)), ps 68 (nv (j + 1)), pb 0 67 [(iv (n - 1))], pb 1 50 [(iv (iK y)), (iv (iS y)), (.ssl (pts (iP y)) 0 ((iP y).length)), (iv ((iB y).1)), (iv ((iB y).2)), (sv (st (iL y))), (.ssl (ics (iC y)) 0 ((iC y).length))]] from by rfl)) (Wk.ren2 [ps 4 (.opt 1 0), ps 66 (.ssl (pts (iP y)) 0 ((iP y).length)), ps 67 (nv ((iP y).length)), ps 68 (nv (j + 1)), pb 0 67 [(iv (n - 1))], pb 1 50 [(iv (iK y)), (iv (iS y)), (.ssl (pts (iP y)) 0 ((iP y).length)), (iv ((iB y).1)), (iv ((iB y).2)), (sv (st (iL y))), (.ssl (ics (iC y)) 0 ((iC y).length))]] 1 hc0 [0, 1] rfl rfl (by kernel_rfl) (by kernel_rfl))) (show (iP y).length - (j + 1) < (iP y).length - j from by show (iP y).length - (j + 1) < (iP y).length - j; omega)
    refine T_th (congrArg Bool.not (Bool.eq_false_iff.2 h11)) ?_
    refine qaa ?_
    refine T_r mixed [] [ps 6 (bv false), pb 0 67 [(iv (n - 1))]] (oz) ?_
    have hall : ¬ (iP y).all rb = true := qxk (show j < (iP y).length from by omega) h11
    have hT : itS y lv n = (false, (n - 1)) := by rw [qcd]; (repeat (first | rw [if_pos (by omega)] | rw [if_neg (by omega)] | rw [if_pos (by assumption)] | rw [if_neg (by assumption)])); rw [show qdg y = false from by unfold qdg; (repeat (first | rw [if_pos (by omega)] | rw [if_neg (by omega)] | rw [if_pos (by assumption)] | rw [if_neg (by assumption)]))]
    rw [hT]
    exact qai fun cx_ a_ hI_ => qav (rt hc0 [ps 6 (bv false), pb 0 67 [(iv (n - 1))]] [0] hI_ (hbk := by exact oc rfl (oz)))
   refine T_el (dtn h10) ?_
   refine qbu rfl rfl ?_
   refine qaa ?_
   by_cases h12 : (iL y) = ([] : List UInt8)
   ·refine T_r mixed [(2, .val (.av (.bool (decide ((iL y) = ([] : List UInt8)))))), (4, .gd true .no), (5, .gd true .no), (6, .gd true .no), (7, .yes true)] [ps 6 (bv true), pb 0 67 [(iv (n - 1))]] (oc (qdm _ _ : ((st (iL y)).toList == (st ([] : List UInt8)).toList) = decide ((iL y) = ([] : List UInt8))) (oc (dty h12) (oc (dty h12) (oc (dty h12) (oc (dty h12) oz))))) ?_
    have hall : (iP y).all rb = true := all_rb (fun i hi => hin i (by omega))
    have hT : itS y lv n = (true, (n - 1)) := by rw [qcd]; (repeat (first | rw [if_pos (by omega)] | rw [if_neg (by omega)] | rw [if_pos (by assumption)] | rw [if_neg (by assumption)])); rw [show qdg y = true from by unfold qdg; (repeat (first | rw [if_pos (by omega)] | rw [if_neg (by omega)] | rw [if_pos (by assumption)] | rw [if_neg (by assumption)]))]
    rw [hT]
    exact qai fun cx_ a_ hI_ => rt hc0 [ps 6 (bv true), pb 0 67 [(iv (n - 1))]] [0] hI_ (hbk := by exact oc rfl (oz))
   refine T_r mixed [(2, .val (.av (.bool (decide ((iL y) = ([] : List UInt8)))))), (4, .gd false (.no)), (5, .gd false (.no)), (6, .gd false (.call [] [(sv (st (iL y)))] [] (bv (qhd (iL y))) [])), (7, .yes false)] [ps 6 (bv (qhd (iL y))), pb 0 67 [(iv (n - 1))]] (oc (qdm _ _ : ((st (iL y)).toList == (st ([] : List UInt8)).toList) = decide ((iL y) = ([] : List UInt8))) (oc (dtn h12) (oc (dtn h12) (oc (dtn h12) (oc (sung_pc (iL y) hx3) (oc (rfl : Ren0 58 [(sv (st (iL y)))]) (oc (dtn h12) oz))))))) ?_
   have hall : (iP y).all rb = true := all_rb (fun i hi => hin i (by omega))
   have hT : itS y lv n = ((qhd (iL y)), (n - 1)) := by rw [qcd]; (repeat (first | rw [if_pos (by omega)] | rw [if_neg (by omega)] | rw [if_pos (by assumption)] | rw [if_neg (by assumption)])); rw [show qdg y = (qhd (iL y)) from by unfold qdg; (repeat (first | rw [if_pos (by omega)] | rw [if_neg (by omega)] | rw [if_pos (by assumption)] | rw [if_neg (by assumption)]))]
   rw [hT]
   exact qai fun cx_ a_ hI_ => rt hc0 [ps 6 (bv (qhd (iL y))), pb 0 67 [(iv (n - 1))]] [0] hI_ (hbk := by exact oc rfl (oz))
  refine T_th (congrArg Bool.not (Bool.eq_false_iff.2 h9)) ?_
  refine qaa ?_
  refine T_k mixed [] [.d, .n, .d, .k1, .d] [ps 6 (bv false)] (oz) ?_
  have hT : itS y lv n = (false, (n - 1)) := by rw [qcd]; (repeat (first | rw [if_pos (by omega)] | rw [if_neg (by omega)] | rw [if_pos (by assumption)] | rw [if_neg (by assumption)])); rw [show qdg y = false from by unfold qdg; (repeat (first | rw [if_pos (by omega)] | rw [if_neg (by omega)] | rw [if_pos (by assumption)] | rw [if_neg (by assumption)]))]
  rw [hT]
  exact qai fun cx_ a_ hI_ => rt hc0 [ps 6 (bv false), pb 0 67 [(iv (n - 1))]] [0] hI_ (hbk := by exact oc rfl (oz))
 refine T_el (dtn h5) ?_
 refine qaa <| qaa ?_
 refine T_k mixed [] [.k5, .d, .n, .r] [ps 84 (bv (decide ((iK y) = 2)))] (oz) ?_
 by_cases h13 : (iK y) = 2
 ·refine T_th (dty h13) ?_
  refine qag ?_
  refine T_th (dty h13) ?_
  refine qaa ?_
  by_cases h14 : (((iP y).length : Nat) : Int) = 0
  ·by_cases h15 : (((iC y).length : Nat) : Int) = 0
   ·by_cases h16 : (iL y) = ([] : List UInt8)
    ·refine T_r mixed [(5, .gd true (.no)), (6, .gd true (.no)), (7, .gd true (.no)), (8, .gd true (.no)), (9, .yes true), (11, .gd true (.no)), (12, .gd true (.no)), (13, .gd true (.val (.av (.bool (decide ((iL y) = ([] : List UInt8))))))), (14, .yes true), (16, .gd true (.no)), (17, .gd true (.no)), (18, .gd true (.no)), (19, .gd true (.no)), (20, .yes true)] [ps 6 (bv ((decide (((iB y).1) = 0)) && (decide (((iB y).2) = 0)))), pb 0 67 [(iv (n - 1))]] (oc (dty h14) (oc (dty h14) (oc (dty h14) (oc (dty h14) (oc (dty h14) (oc (dty h15) (oc (dty h15) (oc (dty h15) (oc (qdm _ _ : ((st (iL y)).toList == (st ([] : List UInt8)).toList) = decide ((iL y) = ([] : List UInt8))) (oc (dty h15) (oc (dty h16) (oc (dty h16) (oc (dty h16) (oc (dty h16) (oc (dty h16) oz))))))))))))))) ?_
     have hT : itS y lv n = (((decide (((iB y).1) = 0)) && (decide (((iB y).2) = 0))), (n - 1)) := by rw [qcd]; (repeat (first | rw [if_pos (by omega)] | rw [if_neg (by omega)] | rw [if_pos (by assumption)] | rw [if_neg (by assumption)])); rw [show qde y = ((decide (((iB y).1) = 0)) && (decide (((iB y).2) = 0))) from by unfold qde; (repeat (first | rw [if_pos (by omega)] | rw [if_neg (by omega)] | rw [if_pos (by assumption)] | rw [if_neg (by assumption)]))]
     rw [hT]
     exact qai fun cx_ a_ hI_ => rt hc0 [ps 6 (bv ((decide (((iB y).1) = 0)) && (decide (((iB y).2) = 0)))), pb 0 67 [(iv (n - 1))]] [0] hI_ (hbk := by exact oc rfl (oz))
    refine T_r mixed [(5, .gd true (.no)), (6, .gd true (.no)), (7, .gd true (.no)), (8, .gd true (.no)), (9, .yes true), (11, .gd true (.no)), (12, .gd true (.no)), (13, .gd true (.val (.av (.bool (decide ((iL y) = ([] : List UInt8))))))), (14, .yes true), (16, .gd false .no), (17, .gd false .no), (18, .gd false .no), (19, .gd false .no), (20, .yes false)] [ps 6 (bv false), pb 0 67 [(iv (n - 1))]] (oc (dty h14) (oc (dty h14) (oc (dty h14) (oc (dty h14) (oc (dty h14) (oc (dty h15) (oc (dty h15) (oc (dty h15) (oc (qdm _ _ : ((st (iL y)).toList == (st ([] : List UInt8)).toList) = decide ((iL y) = ([] : List UInt8))) (oc (dty h15) (oc (dtn h16) (oc (dtn h16) (oc (dtn h16) (oc (dtn h16) (oc (dtn h16) oz))))))))))))))) ?_
    have hT : itS y lv n = (false, (n - 1)) := by rw [qcd]; (repeat (first | rw [if_pos (by omega)] | rw [if_neg (by omega)] | rw [if_pos (by assumption)] | rw [if_neg (by assumption)])); rw [show qde y = false from by unfold qde; (repeat (first | rw [if_pos (by omega)] | rw [if_neg (by omega)] | rw [if_pos (by assumption)] | rw [if_neg (by assumption)]))]
    rw [hT]
    exact qai fun cx_ a_ hI_ => rt hc0 [ps 6 (bv false), pb 0 67 [(iv (n - 1))]] [0] hI_ (hbk := by exact oc rfl (oz))
   refine T_r mixed [(5, .gd true (.no)), (6, .gd true (.no)), (7, .gd true (.no)), (8, .gd true (.no)), (9, .yes true), (11, .gd false .no), (12, .gd false .no), (13, .gd false .no), (14, .yes false), (16, .gd false .no), (17, .gd false .no), (18, .gd false .no), (19, .gd false .no)] [ps 6 (bv false), pb 0 67 [(iv (n - 1))]] (oc (dty h14) (oc (dty h14) (oc (dty h14) (oc (dty h14) (oc (dty h14) (oc (dtn h15) (oc (dtn h15) (oc (dtn h15) (oc (dtn h15) (oc (rfl : false = false) (oc (rfl : false = false) (oc (rfl : false = false) (oc (rfl : false = false) oz))))))))))))) ?_
   have hT : itS y lv n = (false, (n - 1)) := by rw [qcd]; (repeat (first | rw [if_pos (by omega)] | rw [if_neg (by omega)] | rw [if_pos (by assumption)] | rw [if_neg (by assumption)])); rw [show qde y = false from by unfold qde; (repeat (first | rw [if_pos (by omega)] | rw [if_neg (by omega)] | rw [if_pos (by assumption)] | rw [if_neg (by assumption)]))]
   rw [hT]
   exact qai fun cx_ a_ hI_ => rt hc0 [ps 6 (bv false), pb 0 67 [(iv (n - 1))]] [0] hI_ (hbk := by exact oc rfl (oz))
  refine T_r mixed [(5, .gd false .no), (6, .gd false .no), (7, .gd false .no), (8, .gd false .no), (9, .yes false), (11, .gd false .no), (12, .gd false .no), (13, .gd false .no), (16, .gd false .no), (17, .gd false .no), (18, .gd false .no), (19, .gd false .no)] [ps 6 (bv false), pb 0 67 [(iv (n - 1))]] (oc (dtn h14) (oc (dtn h14) (oc (dtn h14) (oc (dtn h14) (oc (dtn h14) (oc (rfl : false = false) (oc (rfl : false = false) (oc (rfl : false = false) (oc (rfl : false = false) (oc (rfl : false = false) (oc (rfl : false = false) (oc (rfl : false = false) oz)))))))))))) ?_
  have hT : itS y lv n = (false, (n - 1)) := by rw [qcd]; (repeat (first | rw [if_pos (by omega)] | rw [if_neg (by omega)] | rw [if_pos (by assumption)] | rw [if_neg (by assumption)])); rw [show qde y = false from by unfold qde; (repeat (first | rw [if_pos (by omega)] | rw [if_neg (by omega)] | rw [if_pos (by assumption)] | rw [if_neg (by assumption)]))]
  rw [hT]
  exact qai fun cx_ a_ hI_ => rt hc0 [ps 6 (bv false), pb 0 67 [(iv (n - 1))]] [0] hI_ (hbk := by exact oc rfl (oz))
 refine T_el (dtn h13) ?_
 refine T_k mixed [] [.k5, .d, .n, .r] [ps 84 (bv (decide ((iK y) = 3)))] (oz) ?_
 by_cases h17 : (iK y) = 3
 ·refine T_th (dty h17) ?_
  refine qaa ?_
  by_cases h18 : (((iP y).length : Nat) : Int) = 0
  ·by_cases h19 : (((iC y).length : Nat) : Int) = 0
   ·by_cases h20 : (iL y) = ([] : List UInt8)
    ·refine T_r mixed [(5, .gd true (.no)), (6, .gd true (.no)), (7, .gd true (.no)), (8, .gd true (.no)), (9, .yes true), (11, .gd true (.no)), (12, .gd true (.no)), (13, .gd true (.val (.av (.bool (decide ((iL y) = ([] : List UInt8))))))), (14, .yes true), (16, .gd true (.no)), (17, .gd true (.no)), (18, .gd true (.no)), (19, .gd true (.no)), (20, .yes true)] [ps 6 (bv ((decide (((iB y).1) = 0)) && (decide (((iB y).2) = 0)))), pb 0 67 [(iv (n - 1))]] (oc (dty h18) (oc (dty h18) (oc (dty h18) (oc (dty h18) (oc (dty h18) (oc (dty h19) (oc (dty h19) (oc (dty h19) (oc (qdm _ _ : ((st (iL y)).toList == (st ([] : List UInt8)).toList) = decide ((iL y) = ([] : List UInt8))) (oc (dty h19) (oc (dty h20) (oc (dty h20) (oc (dty h20) (oc (dty h20) (oc (dty h20) oz))))))))))))))) ?_
     have hT : itS y lv n = (((decide (((iB y).1) = 0)) && (decide (((iB y).2) = 0))), (n - 1)) := by rw [qcd]; (repeat (first | rw [if_pos (by omega)] | rw [if_neg (by omega)] | rw [if_pos (by assumption)] | rw [if_neg (by assumption)])); rw [show qde y = ((decide (((iB y).1) = 0)) && (decide (((iB y).2) = 0))) from by unfold qde; (repeat (first | rw [if_pos (by omega)] | rw [if_neg (by omega)] | rw [if_pos (by assumption)] | rw [if_neg (by assumption)]))]
     rw [hT]
     exact qai fun cx_ a_ hI_ => rt hc0 [ps 6 (bv ((decide (((iB y).1) = 0)) && (decide (((iB y).2) = 0)))), pb 0 67 [(iv (n - 1))]] [0] hI_ (hbk := by exact oc rfl (oz))
    refine T_r mixed [(5, .gd true (.no)), (6, .gd true (.no)), (7, .gd true (.no)), (8, .gd true (.no)), (9, .yes true), (11, .gd true (.no)), (12, .gd true (.no)), (13, .gd true (.val (.av (.bool (decide ((iL y) = ([] : List UInt8))))))), (14, .yes true), (16, .gd false .no), (17, .gd false .no), (18, .gd false .no), (19, .gd false .no), (20, .yes false)] [ps 6 (bv false), pb 0 67 [(iv (n - 1))]] (oc (dty h18) (oc (dty h18) (oc (dty h18) (oc (dty h18) (oc (dty h18) (oc (dty h19) (oc (dty h19) (oc (dty h19) (oc (qdm _ _ : ((st (iL y)).toList == (st ([] : List UInt8)).toList) = decide ((iL y) = ([] : List UInt8))) (oc (dty h19) (oc (dtn h20) (oc (dtn h20) (oc (dtn h20) (oc (dtn h20) (oc (dtn h20) oz))))))))))))))) ?_
    have hT : itS y lv n = (false, (n - 1)) := by rw [qcd]; (repeat (first | rw [if_pos (by omega)] | rw [if_neg (by omega)] | rw [if_pos (by assumption)] | rw [if_neg (by assumption)])); rw [show qde y = false from by unfold qde; (repeat (first | rw [if_pos (by omega)] | rw [if_neg (by omega)] | rw [if_pos (by assumption)] | rw [if_neg (by assumption)]))]
    rw [hT]
    exact qai fun cx_ a_ hI_ => rt hc0 [ps 6 (bv false), pb 0 67 [(iv (n - 1))]] [0] hI_ (hbk := by exact oc rfl (oz))
   refine T_r mixed [(5, .gd true (.no)), (6, .gd true (.no)), (7, .gd true (.no)), (8, .gd true (.no)), (9, .yes true), (11, .gd false .no), (12, .gd false .no), (13, .gd false .no), (14, .yes false), (16, .gd false .no), (17, .gd false .no), (18, .gd false .no), (19, .gd false .no)] [ps 6 (bv false), pb 0 67 [(iv (n - 1))]] (oc (dty h18) (oc (dty h18) (oc (dty h18) (oc (dty h18) (oc (dty h18) (oc (dtn h19) (oc (dtn h19) (oc (dtn h19) (oc (dtn h19) (oc (rfl : false = false) (oc (rfl : false = false) (oc (rfl : false = false) (oc (rfl : false = false) oz))))))))))))) ?_
   have hT : itS y lv n = (false, (n - 1)) := by rw [qcd]; (repeat (first | rw [if_pos (by omega)] | rw [if_neg (by omega)] | rw [if_pos (by assumption)] | rw [if_neg (by assumption)])); rw [show qde y = false from by unfold qde; (repeat (first | rw [if_pos (by omega)] | rw [if_neg (by omega)] | rw [if_pos (by assumption)] | rw [if_neg (by assumption)]))]
   rw [hT]
   exact qai fun cx_ a_ hI_ => rt hc0 [ps 6 (bv false), pb 0 67 [(iv (n - 1))]] [0] hI_ (hbk := by exact oc rfl (oz))
  refine T_r mixed [(5, .gd false .no), (6, .gd false .no), (7, .gd false .no), (8, .gd false .no), (9, .yes false), (11, .gd false .no), (12, .gd false .no), (13, .gd false .no), (16, .gd false .no), (17, .gd false .no), (18, .gd false .no), (19, .gd false .no)] [ps 6 (bv false), pb 0 67 [(iv (n - 1))]] (oc (dtn h18) (oc (dtn h18) (oc (dtn h18) (oc (dtn h18) (oc (dtn h18) (oc (rfl : false = false) (oc (rfl : false = false) (oc (rfl : false = false) (oc (rfl : false = false) (oc (rfl : false = false) (oc (rfl : false = false) (oc (rfl : false = false) oz)))))))))))) ?_
  have hT : itS y lv n = (false, (n - 1)) := by rw [qcd]; (repeat (first | rw [if_pos (by omega)] | rw [if_neg (by omega)] | rw [if_pos (by assumption)] | rw [if_neg (by assumption)])); rw [show qde y = false from by unfold qde; (repeat (first | rw [if_pos (by omega)] | rw [if_neg (by omega)] | rw [if_pos (by assumption)] | rw [if_neg (by assumption)]))]
  rw [hT]
  exact qai fun cx_ a_ hI_ => rt hc0 [ps 6 (bv false), pb 0 67 [(iv (n - 1))]] [0] hI_ (hbk := by exact oc rfl (oz))
 refine T_el (dtn h17) ?_
 refine qaa <| qaa ?_
 refine T_k mixed [] [.k5, .d, .n, .r] [ps 108 (bv (decide ((iK y) = 4)))] (oz) ?_
 by_cases h21 : (iK y) = 4
 ·refine T_th (dty h21) ?_
  refine qag ?_
  refine T_th (dty h21) ?_
  refine qaa <| qaa ?_
  by_cases h22 : (((iC y).length : Nat) : Int) = 0
  ·refine T_k mixed [(5, .gd true .no), (6, .gd true .no), (7, .gd true .no), (8, .gd true .no), (9, .yes true), (11, .gd true .no), (12, .gd true .no), (13, .gd true .no), (16, .gd true .no), (17, .gd true .no), (18, .gd true .no), (19, .gd true .no), (24, .gd true .no)] [.k3, .d, .d, .d, .n, .k2, .d] [ps 136 (bv true)] (oc (dty h22) (oc (dty h22) (oc (dty h22) (oc (dty h22) (oc (dty h22) (oc (rfl : true = true) (oc (rfl : true = true) (oc (rfl : true = true) (oc (rfl : true = true) (oc (rfl : true = true) (oc (rfl : true = true) (oc (rfl : true = true) (oc (rfl : true = true) oz))))))))))))) ?_
   refine qau (b := true) rfl rfl ?_
   refine qaa ?_
   refine T_r mixed [] [ps 6 (bv false), pb 0 67 [(iv (n - 1))]] (oz) ?_
   have hT : itS y lv n = (false, (n - 1)) := by rw [qcd]; (repeat (first | rw [if_pos (by omega)] | rw [if_neg (by omega)] | rw [if_pos (by assumption)] | rw [if_neg (by assumption)])); rw [if_neg (show ¬ qbj y = true from by unfold qbj; (repeat (first | rw [if_pos (by omega)] | rw [if_neg (by omega)] | rw [if_pos (by assumption)] | rw [if_neg (by assumption)])); simp [*])]
   rw [hT]
   exact qai fun cx_ a_ hI_ => rt hc0 [ps 6 (bv false), pb 0 67 [(iv (n - 1))]] [0] hI_ (hbk := by exact oc rfl (oz))
  by_cases h23 : 0 < (((iP y).length : Nat) : Int)
  ·refine T_k mixed [(5, .gd false (.no)), (6, .gd false (.no)), (7, .gd false (.no)), (8, .gd false (.no)), (9, .yes false), (11, .gd true .no), (12, .gd true .no), (13, .gd true .no), (14, .yes true), (16, .gd true .no), (17, .gd true .no), (18, .gd true .no), (19, .gd true .no), (24, .gd true .no)] [.k3, .d, .d, .d, .n, .k2, .d] [ps 136 (bv true)] (oc (dtn h22) (oc (dtn h22) (oc (dtn h22) (oc (dtn h22) (oc (dtn h22) (oc (dty h23) (oc (dty h23) (oc (dty h23) (oc (dty h23) (oc (rfl : true = true) (oc (rfl : true = true) (oc (rfl : true = true) (oc (rfl : true = true) (oc (rfl : true = true) oz)))))))))))))) ?_
   refine qau (b := true) rfl rfl ?_
   refine qaa ?_
   refine T_r mixed [] [ps 6 (bv false), pb 0 67 [(iv (n - 1))]] (oz) ?_
   have hT : itS y lv n = (false, (n - 1)) := by rw [qcd]; (repeat (first | rw [if_pos (by omega)] | rw [if_neg (by omega)] | rw [if_pos (by assumption)] | rw [if_neg (by assumption)])); rw [if_neg (show ¬ qbj y = true from by unfold qbj; (repeat (first | rw [if_pos (by omega)] | rw [if_neg (by omega)] | rw [if_pos (by assumption)] | rw [if_neg (by assumption)])); simp [*])]
   rw [hT]
   exact qai fun cx_ a_ hI_ => rt hc0 [ps 6 (bv false), pb 0 67 [(iv (n - 1))]] [0] hI_ (hbk := by exact oc rfl (oz))
  by_cases h24 : (iL y) = ([] : List UInt8)
  ·refine T_k mixed [(5, .gd false (.no)), (6, .gd false (.no)), (7, .gd false (.no)), (8, .gd false (.no)), (9, .yes false), (11, .gd false (.no)), (12, .gd false (.no)), (13, .gd false (.val (.av (.bool (!decide ((iL y) = ([] : List UInt8))))))), (14, .yes false), (16, .gd false (.no)), (17, .gd false (.no)), (18, .gd false (.no)), (19, .gd false (.no)), (20, .gd true (.no)), (21, .gd true (.no)), (22, .gd true (.no)), (23, .gd true (.no)), (24, .gd false (.yes true)), (25, .yes false)] [.k3, .d, .d, .d, .n, .k2, .d] [ps 136 (bv (!((decide (((iB y).1) = 0)) && (decide (((iB y).2) = 0)))))] (oc (dtn h22) (oc (dtn h22) (oc (dtn h22) (oc (dtn h22) (oc (dtn h22) (oc (dtn h23) (oc (dtn h23) (oc (dtn h23) (oc (qhe _ _ : (!((st (iL y)).toList == (st ([] : List UInt8)).toList)) = !decide ((iL y) = ([] : List UInt8))) (oc (dtn h23) (oc (bt h24) (oc (bt h24) (oc (bt h24) (oc (bt h24) (oc (dty h21) (oc (dty h21) (oc (dty h21) (oc (dty h21) (oc (bt h24) (oc (dty h21) (oc (bt h24) oz))))))))))))))))))))) ?_
   by_cases h25 : ((decide (((iB y).1) = 0)) && (decide (((iB y).2) = 0))) = true
   ·refine T_el (congrArg Bool.not h25) ?_
    refine qag <| qaa <| qaa ?_
    refine T_k mixed [(2, .call [] [(.agg [(iv ((iB y).1)), (iv ((iB y).2))])] [] (.tup [(sv (st ((qeq ((iB y).1) ((iB y).2)).1))), (iv ((qeq ((iB y).1) ((iB y).2)).2))]) [])] [.k3, .n, .d, .r] [ps 11 (iv ((qeq ((iB y).1) ((iB y).2)).2))] (oc (name_pc (iB y).1 (iB y).2 hx1.1 hx1.2) (oc (rfl : Ren0 561 [(.agg [(iv ((iB y).1)), (iv ((iB y).2))])]) oz)) ?_
    refine qaa ?_
    refine T_k mixed [] [.k3, .d, .n, .r] [ps 144 (bv (!(decide (((qeq ((iB y).1) ((iB y).2)).2) = 0))))] (oz) ?_
    by_cases h26 : ((qeq ((iB y).1) ((iB y).2)).2) = 0
    ·refine T_el (bt h26) ?_
     refine qag <| qaa ?_
     refine T_r mixed [(5, .call [0] [(.opt 0 0), (.ssl (ics (iC y)) 0 ((iC y).length)), (iv (lv + 1))] [some (67, [(iv (n - 1))])] (bv (decide ((itL (iC y) (lv + 1) (n - 1)).1 = true ∧ 0 < (iC y).length))) [some (67, [(iv ((itL (iC y) (lv + 1) (n - 1)).2))])])] [ps 6 (bv (decide ((itL (iC y) (lv + 1) (n - 1)).1 = true ∧ 0 < (iC y).length))), pb 0 67 [(iv ((itL (iC y) (lv + 1) (n - 1)).2))]] (oc (by simp only [InK]; omega : InK .i64 (lv + 1)) (oc (ihL (iC y) (lv + 1) (n - 1) (qou y) (by omega) (by omega) (by omega) (by omega) hx5 (by omega)) (oc (rfl : [(.opt 0 0), (.ssl (ics (iC y)) 0 ((iC y).length)), (iv (lv + 1))] = renL (sigi [0] 665) [(.opt 0 0), (.ssl (ics (iC y)) 0 ((iC y).length)), (iv (lv + 1))]) (oc (rfl : [(iv (n - 1))] = renL (sigi [0] 665) [(iv (n - 1))]) oz)))) ?_
     have hT : itS y lv n = ((decide ((itL (iC y) (lv + 1) (n - 1)).1 = true ∧ 0 < (iC y).length)), ((itL (iC y) (lv + 1) (n - 1)).2)) := by rw [qcd]; (repeat (first | rw [if_pos (by omega)] | rw [if_neg (by omega)] | rw [if_pos (by assumption)] | rw [if_neg (by assumption)])); rw [if_pos (show qbj y = true from by unfold qbj; (repeat (first | rw [if_pos (by omega)] | rw [if_neg (by omega)] | rw [if_pos (by assumption)] | rw [if_neg (by assumption)])); simp [*])]; exact itb (by omega)
     rw [hT]
     exact qai fun cx_ a_ hI_ => rt hc0 [ps 6 (bv (decide ((itL (iC y) (lv + 1) (n - 1)).1 = true ∧ 0 < (iC y).length))), pb 0 67 [(iv ((itL (iC y) (lv + 1) (n - 1)).2))]] [0] hI_ (hbk := by exact oc rfl (oz))
    refine T_th (bf h26) ?_
    refine qaa ?_
    refine T_r mixed [] [ps 6 (bv false), pb 0 67 [(iv (n - 1))]] (oz) ?_
    have hT : itS y lv n = (false, (n - 1)) := by rw [qcd]; (repeat (first | rw [if_pos (by omega)] | rw [if_neg (by omega)] | rw [if_pos (by assumption)] | rw [if_neg (by assumption)])); rw [if_neg (show ¬ qbj y = true from by unfold qbj; (repeat (first | rw [if_pos (by omega)] | rw [if_neg (by omega)] | rw [if_pos (by assumption)] | rw [if_neg (by assumption)])); simp [*])]
    rw [hT]
    exact qai fun cx_ a_ hI_ => rt hc0 [ps 6 (bv false), pb 0 67 [(iv (n - 1))]] [0] hI_ (hbk := by exact oc rfl (oz))
   refine T_th (congrArg Bool.not (Bool.eq_false_iff.2 h25)) ?_
   refine qaa ?_
   refine T_r mixed [] [ps 6 (bv false), pb 0 67 [(iv (n - 1))]] (oz) ?_
   have hT : itS y lv n = (false, (n - 1)) := by rw [qcd]; (repeat (first | rw [if_pos (by omega)] | rw [if_neg (by omega)] | rw [if_pos (by assumption)] | rw [if_neg (by assumption)])); rw [if_neg (show ¬ qbj y = true from by unfold qbj; (repeat (first | rw [if_pos (by omega)] | rw [if_neg (by omega)] | rw [if_pos (by assumption)] | rw [if_neg (by assumption)])); simp [*])]
   rw [hT]
   exact qai fun cx_ a_ hI_ => rt hc0 [ps 6 (bv false), pb 0 67 [(iv (n - 1))]] [0] hI_ (hbk := by exact oc rfl (oz))
  refine T_k mixed [(5, .gd false (.no)), (6, .gd false (.no)), (7, .gd false (.no)), (8, .gd false (.no)), (9, .yes false), (11, .gd false (.no)), (12, .gd false (.no)), (13, .gd false (.val (.av (.bool (!decide ((iL y) = ([] : List UInt8))))))), (14, .yes false), (16, .gd true .no), (17, .gd true .no), (18, .gd true .no), (19, .gd true .no), (24, .gd true .no), (25, .yes true)] [.k3, .d, .d, .d, .n, .k2, .d] [ps 136 (bv true)] (oc (dtn h22) (oc (dtn h22) (oc (dtn h22) (oc (dtn h22) (oc (dtn h22) (oc (dtn h23) (oc (dtn h23) (oc (dtn h23) (oc (qhe _ _ : (!((st (iL y)).toList == (st ([] : List UInt8)).toList)) = !decide ((iL y) = ([] : List UInt8))) (oc (dtn h23) (oc (bf h24) (oc (bf h24) (oc (bf h24) (oc (bf h24) (oc (bf h24) (oc (bf h24) oz)))))))))))))))) ?_
  refine qau (b := true) rfl rfl ?_
  refine qaa ?_
  refine T_r mixed [] [ps 6 (bv false), pb 0 67 [(iv (n - 1))]] (oz) ?_
  have hT : itS y lv n = (false, (n - 1)) := by rw [qcd]; (repeat (first | rw [if_pos (by omega)] | rw [if_neg (by omega)] | rw [if_pos (by assumption)] | rw [if_neg (by assumption)])); rw [if_neg (show ¬ qbj y = true from by unfold qbj; (repeat (first | rw [if_pos (by omega)] | rw [if_neg (by omega)] | rw [if_pos (by assumption)] | rw [if_neg (by assumption)])); simp [*])]
  rw [hT]
  exact qai fun cx_ a_ hI_ => rt hc0 [ps 6 (bv false), pb 0 67 [(iv (n - 1))]] [0] hI_ (hbk := by exact oc rfl (oz))
 refine T_el (dtn h21) ?_
 refine T_k mixed [] [.k4, .d, .d, .n, .r] [ps 108 (bv (decide ((iK y) = 5)))] (oz) ?_
 by_cases h27 : (iK y) = 5
 ·refine T_th (dty h27) ?_
  refine qaa <| qaa ?_
  by_cases h28 : (((iC y).length : Nat) : Int) = 0
  ·refine T_k mixed [(5, .gd true .no), (6, .gd true .no), (7, .gd true .no), (8, .gd true .no), (9, .yes true), (11, .gd true .no), (12, .gd true .no), (13, .gd true .no), (16, .gd true .no), (17, .gd true .no), (18, .gd true .no), (19, .gd true .no), (24, .gd true .no)] [.k3, .d, .d, .n, .k2, .d] [ps 136 (bv true)] (oc (dty h28) (oc (dty h28) (oc (dty h28) (oc (dty h28) (oc (dty h28) (oc (rfl : true = true) (oc (rfl : true = true) (oc (rfl : true = true) (oc (rfl : true = true) (oc (rfl : true = true) (oc (rfl : true = true) (oc (rfl : true = true) (oc (rfl : true = true) oz))))))))))))) ?_
   refine qau (b := true) rfl rfl ?_
   refine qaa ?_
   refine T_r mixed [] [ps 6 (bv false), pb 0 67 [(iv (n - 1))]] (oz) ?_
   have hT : itS y lv n = (false, (n - 1)) := by rw [qcd]; (repeat (first | rw [if_pos (by omega)] | rw [if_neg (by omega)] | rw [if_pos (by assumption)] | rw [if_neg (by assumption)])); rw [if_neg (show ¬ qbj y = true from by unfold qbj; (repeat (first | rw [if_pos (by omega)] | rw [if_neg (by omega)] | rw [if_pos (by assumption)] | rw [if_neg (by assumption)])); simp [*])]
   rw [hT]
   exact qai fun cx_ a_ hI_ => rt hc0 [ps 6 (bv false), pb 0 67 [(iv (n - 1))]] [0] hI_ (hbk := by exact oc rfl (oz))
  by_cases h29 : 0 < (((iP y).length : Nat) : Int)
  ·refine T_k mixed [(5, .gd false (.no)), (6, .gd false (.no)), (7, .gd false (.no)), (8, .gd false (.no)), (9, .yes false), (11, .gd true .no), (12, .gd true .no), (13, .gd true .no), (14, .yes true), (16, .gd true .no), (17, .gd true .no), (18, .gd true .no), (19, .gd true .no), (24, .gd true .no)] [.k3, .d, .d, .n, .k2, .d] [ps 136 (bv true)] (oc (dtn h28) (oc (dtn h28) (oc (dtn h28) (oc (dtn h28) (oc (dtn h28) (oc (dty h29) (oc (dty h29) (oc (dty h29) (oc (dty h29) (oc (rfl : true = true) (oc (rfl : true = true) (oc (rfl : true = true) (oc (rfl : true = true) (oc (rfl : true = true) oz)))))))))))))) ?_
   refine qau (b := true) rfl rfl ?_
   refine qaa ?_
   refine T_r mixed [] [ps 6 (bv false), pb 0 67 [(iv (n - 1))]] (oz) ?_
   have hT : itS y lv n = (false, (n - 1)) := by rw [qcd]; (repeat (first | rw [if_pos (by omega)] | rw [if_neg (by omega)] | rw [if_pos (by assumption)] | rw [if_neg (by assumption)])); rw [if_neg (show ¬ qbj y = true from by unfold qbj; (repeat (first | rw [if_pos (by omega)] | rw [if_neg (by omega)] | rw [if_pos (by assumption)] | rw [if_neg (by assumption)])); simp [*])]
   rw [hT]
   exact qai fun cx_ a_ hI_ => rt hc0 [ps 6 (bv false), pb 0 67 [(iv (n - 1))]] [0] hI_ (hbk := by exact oc rfl (oz))
  by_cases h30 : (iL y) = ([] : List UInt8)
  ·refine T_k mixed [(5, .gd false (.no)), (6, .gd false (.no)), (7, .gd false (.no)), (8, .gd false (.no)), (9, .yes false), (11, .gd false (.no)), (12, .gd false (.no)), (13, .gd false (.val (.av (.bool (!decide ((iL y) = ([] : List UInt8))))))), (14, .yes false), (16, .gd false (.no)), (17, .gd false (.no)), (18, .gd false (.no)), (19, .gd false (.no)), (20, .gd false .no), (21, .gd false .no), (22, .gd false .no), (23, .gd false .no), (24, .gd false (.yes false)), (25, .yes false)] [.k3, .d, .d, .n, .k2, .d] [ps 136 (bv false)] (oc (dtn h28) (oc (dtn h28) (oc (dtn h28) (oc (dtn h28) (oc (dtn h28) (oc (dtn h29) (oc (dtn h29) (oc (dtn h29) (oc (qhe _ _ : (!((st (iL y)).toList == (st ([] : List UInt8)).toList)) = !decide ((iL y) = ([] : List UInt8))) (oc (dtn h29) (oc (bt h30) (oc (bt h30) (oc (bt h30) (oc (bt h30) (oc (dtn h21) (oc (dtn h21) (oc (dtn h21) (oc (dtn h21) (oc (bt h30) (oc (dtn h21) (oc (bt h30) oz))))))))))))))))))))) ?_
   refine qbf (b := false) rfl rfl ?_
   refine qag <| qaa <| qaa ?_
   refine T_k mixed [(2, .call [] [(.agg [(iv ((iB y).1)), (iv ((iB y).2))])] [] (.tup [(sv (st ((qeq ((iB y).1) ((iB y).2)).1))), (iv ((qeq ((iB y).1) ((iB y).2)).2))]) [])] [.k3, .n, .d, .r] [ps 11 (iv ((qeq ((iB y).1) ((iB y).2)).2))] (oc (name_pc (iB y).1 (iB y).2 hx1.1 hx1.2) (oc (rfl : Ren0 577 [(.agg [(iv ((iB y).1)), (iv ((iB y).2))])]) oz)) ?_
   refine qaa ?_
   refine T_k mixed [] [.k3, .d, .n, .r] [ps 144 (bv (!(decide (((qeq ((iB y).1) ((iB y).2)).2) = 0))))] (oz) ?_
   by_cases h31 : ((qeq ((iB y).1) ((iB y).2)).2) = 0
   ·refine T_el (bt h31) ?_
    refine qag <| qaa ?_
    refine T_r mixed [(5, .call [0] [(.opt 0 0), (.ssl (ics (iC y)) 0 ((iC y).length)), (iv (lv + 1))] [some (67, [(iv (n - 1))])] (bv (decide ((itL (iC y) (lv + 1) (n - 1)).1 = true ∧ 0 < (iC y).length))) [some (67, [(iv ((itL (iC y) (lv + 1) (n - 1)).2))])])] [ps 6 (bv (decide ((itL (iC y) (lv + 1) (n - 1)).1 = true ∧ 0 < (iC y).length))), pb 0 67 [(iv ((itL (iC y) (lv + 1) (n - 1)).2))]] (oc (by simp only [InK]; omega : InK .i64 (lv + 1)) (oc (ihL (iC y) (lv + 1) (n - 1) (qou y) (by omega) (by omega) (by omega) (by omega) hx5 (by omega)) (oc (rfl : [(.opt 0 0), (.ssl (ics (iC y)) 0 ((iC y).length)), (iv (lv + 1))] = renL (sigi [0] 681) [(.opt 0 0), (.ssl (ics (iC y)) 0 ((iC y).length)), (iv (lv + 1))]) (oc (rfl : [(iv (n - 1))] = renL (sigi [0] 681) [(iv (n - 1))]) oz)))) ?_
    have hT : itS y lv n = ((decide ((itL (iC y) (lv + 1) (n - 1)).1 = true ∧ 0 < (iC y).length)), ((itL (iC y) (lv + 1) (n - 1)).2)) := by rw [qcd]; (repeat (first | rw [if_pos (by omega)] | rw [if_neg (by omega)] | rw [if_pos (by assumption)] | rw [if_neg (by assumption)])); rw [if_pos (show qbj y = true from by unfold qbj; (repeat (first | rw [if_pos (by omega)] | rw [if_neg (by omega)] | rw [if_pos (by assumption)] | rw [if_neg (by assumption)])); simp [*])]; exact itb (by omega)
    rw [hT]
    exact qai fun cx_ a_ hI_ => rt hc0 [ps 6 (bv (decide ((itL (iC y) (lv + 1) (n - 1)).1 = true ∧ 0 < (iC y).length))), pb 0 67 [(iv ((itL (iC y) (lv + 1) (n - 1)).2))]] [0] hI_ (hbk := by exact oc rfl (oz))
   refine T_th (bf h31) ?_
   refine qaa ?_
   refine T_r mixed [] [ps 6 (bv false), pb 0 67 [(iv (n - 1))]] (oz) ?_
   have hT : itS y lv n = (false, (n - 1)) := by rw [qcd]; (repeat (first | rw [if_pos (by omega)] | rw [if_neg (by omega)] | rw [if_pos (by assumption)] | rw [if_neg (by assumption)])); rw [if_neg (show ¬ qbj y = true from by unfold qbj; (repeat (first | rw [if_pos (by omega)] | rw [if_neg (by omega)] | rw [if_pos (by assumption)] | rw [if_neg (by assumption)])); simp [*])]
   rw [hT]
   exact qai fun cx_ a_ hI_ => rt hc0 [ps 6 (bv false), pb 0 67 [(iv (n - 1))]] [0] hI_ (hbk := by exact oc rfl (oz))
  refine T_k mixed [(5, .gd false (.no)), (6, .gd false (.no)), (7, .gd false (.no)), (8, .gd false (.no)), (9, .yes false), (11, .gd false (.no)), (12, .gd false (.no)), (13, .gd false (.val (.av (.bool (!decide ((iL y) = ([] : List UInt8))))))), (14, .yes false), (16, .gd true .no), (17, .gd true .no), (18, .gd true .no), (19, .gd true .no), (24, .gd true .no), (25, .yes true)] [.k3, .d, .d, .n, .k2, .d] [ps 136 (bv true)] (oc (dtn h28) (oc (dtn h28) (oc (dtn h28) (oc (dtn h28) (oc (dtn h28) (oc (dtn h29) (oc (dtn h29) (oc (dtn h29) (oc (qhe _ _ : (!((st (iL y)).toList == (st ([] : List UInt8)).toList)) = !decide ((iL y) = ([] : List UInt8))) (oc (dtn h29) (oc (bf h30) (oc (bf h30) (oc (bf h30) (oc (bf h30) (oc (bf h30) (oc (bf h30) oz)))))))))))))))) ?_
  refine qau (b := true) rfl rfl ?_
  refine qaa ?_
  refine T_r mixed [] [ps 6 (bv false), pb 0 67 [(iv (n - 1))]] (oz) ?_
  have hT : itS y lv n = (false, (n - 1)) := by rw [qcd]; (repeat (first | rw [if_pos (by omega)] | rw [if_neg (by omega)] | rw [if_pos (by assumption)] | rw [if_neg (by assumption)])); rw [if_neg (show ¬ qbj y = true from by unfold qbj; (repeat (first | rw [if_pos (by omega)] | rw [if_neg (by omega)] | rw [if_pos (by assumption)] | rw [if_neg (by assumption)])); simp [*])]
  rw [hT]
  exact qai fun cx_ a_ hI_ => rt hc0 [ps 6 (bv false), pb 0 67 [(iv (n - 1))]] [0] hI_ (hbk := by exact oc rfl (oz))
 refine T_el (dtn h27) ?_
 refine qag <| qbg <| qaa ?_
 refine T_r mixed [] [ps 6 (bv false), pb 0 67 [(iv (n - 1))]] (oz) ?_
 have hT : itS y lv n = (false, (n - 1)) := by rw [qcd]; (repeat (first | rw [if_pos (by omega)] | rw [if_neg (by omega)] | rw [if_pos (by assumption)] | rw [if_neg (by assumption)]))
 rw [hT]
 exact qai fun cx_ a_ hI_ => rt hc0 [ps 6 (bv false), pb 0 67 [(iv (n - 1))]] [0] hI_ (hbk := by exact oc rfl (oz))
set_option maxRecDepth 100000 in
set_option maxHeartbeats 4000000 in
theorem qxt (l : List It) (lv n : Int) (ihI : ∀ (x : It) (lv n : Int), SizeOf.sizeOf x < SizeOf.sizeOf l → 0 ≤ lv → lv ≤ 32 → 0 ≤ n → n ≤ 4095 → fitI x → PC Tryz.prog 58 [.opt 0 0, .agg (gI x), iv lv] [(67, [iv n])] (bv (itS x lv n).1) [some (67, [iv (itS x lv n).2])]) (hlv0 : 0 ≤ lv) (hlv1 : lv ≤ 32) (hn0 : 0 ≤ n) (hn1 : n ≤ 4095) (hfl : fitL l) (hll : l.length ≤ 140737488351232) : PC Tryz.prog 24 [(.opt 0 0), (.ssl (ics l) 0 l.length), (iv lv)] [some (67, [(iv n)])] (bv (decide ((itL l lv n).1 = true ∧ 0 < l.length))) [some (67, [(iv ((itL l lv n).2))])] := by
 refine qas Tryz.func24 rfl (by kernel_rfl) (Nat.le_of_ble_eq_true rfl) (by kernel_rfl) (l0 := [ps 0 (.opt 0 0), ps 1 (.ssl (ics l) 0 l.length), ps 2 (iv lv), pb 0 67 [(iv n)]]) rfl (fun c0 Bor hc0 => ?_)
 refine qaa ?_
 refine T_k mixed [] [.r] [] (oz) ?_
 refine qaa <| qaa ?_
 refine T_k mixed [] [.k3, .n, .n, .n, .r] [ps 9 (.ssl (ics l) 0 l.length), ps 10 (nv l.length), ps 11 (iv 0)] (oz) ?_
 refine qan ?_
 refine qcm (α := {x : Nat × Int // x.1 ≤ l.length ∧ itL (l.drop x.1) lv x.2 = itL l lv n ∧ 0 ≤ x.2 ∧ x.2 ≤ 4095}) (fun x => [ps 0 (.opt 0 0), ps 1 (.ssl (ics l) 0 l.length), ps 2 (iv lv), ps 9 (.ssl (ics l) 0 l.length), ps 10 (nv l.length), ps 11 (nv x.1.1), pb 0 67 [(iv x.1.2)]]) (fun x => l.length - x.1.1) 1 ⟨(0, n), ⟨Nat.zero_le _, rfl, hn0, hn1⟩⟩ (Wk.ren2 [ps 0 (.opt 0 0), ps 1 (.ssl (ics l) 0 l.length), ps 2 (iv lv), ps 9 (.ssl (ics l) 0 l.length), ps 10 (nv l.length), ps 11 (nv 0), pb 0 67 [(iv n)]] 1 hc0 [0] rfl rfl (by kernel_rfl) (by kernel_rfl)) ?_
 rintro ⟨⟨i, m⟩, ⟨hi, hL, hm0, hm1⟩⟩
 dsimp only at hi hL hm0 hm1
 refine qaa ?_
 refine T_r mixed [] [ps 0 (.opt 0 0), ps 1 (.ssl (ics l) 0 l.length), ps 2 (iv lv), ps 9 (.ssl (ics l) 0 l.length), ps 10 (nv l.length), ps 11 (nv i), ps 12 (bv (decide (((i : Nat) : Int) < ((l.length : Nat) : Int)))), pb 0 67 [(iv m)]] (oz) ?_
 refine qaa ?_
 by_cases h1 : ((i : Nat) : Int) < ((l.length : Nat) : Int)
 ·refine T_th (dty h1) ?_
  refine qag <| qaa <| qan <| qaa ?_
  refine T_k mixed [(0, .nat (i * 7)), (1, .cells [(iv (iK (l.getD i dIt))), (iv (iS (l.getD i dIt))), (.ssl (pts (iP (l.getD i dIt))) 0 ((iP (l.getD i dIt)).length)), (iv ((iB (l.getD i dIt)).1)), (iv ((iB (l.getD i dIt)).2)), (sv (st (iL (l.getD i dIt)))), (.ssl (ics (iC (l.getD i dIt))) 0 ((iC (l.getD i dIt)).length))])] [.k3, .n, .k3, .d, .k1, .n] [ps 8 (.opt 25 0), pb 25 50 [(iv (iK (l.getD i dIt))), (iv (iS (l.getD i dIt))), (.ssl (pts (iP (l.getD i dIt))) 0 ((iP (l.getD i dIt)).length)), (iv ((iB (l.getD i dIt)).1)), (iv ((iB (l.getD i dIt)).2)), (sv (st (iL (l.getD i dIt)))), (.ssl (ics (iC (l.getD i dIt))) 0 ((iC (l.getD i dIt)).length))]] (oc (by omega : (0 : Int) ≤ ((i : Nat) : Int) ∧ ((i : Nat) : Int) < ((l.length : Nat) : Int)) (oc (by omega : 0 + (((i : Nat) : Int) : Int).toNat * 7 = (i * 7)) (oc (qvk l i 0 7 (by omega) (by decide) : (i * 7) + 7 ≤ ((ics l)).length ∧ (((ics l)).drop (i * 7)).take 7 = [(iv (iK (l.getD i dIt))), (iv (iS (l.getD i dIt))), (.ssl (pts (iP (l.getD i dIt))) 0 ((iP (l.getD i dIt)).length)), (iv ((iB (l.getD i dIt)).1)), (iv ((iB (l.getD i dIt)).2)), (sv (st (iL (l.getD i dIt)))), (.ssl (ics (iC (l.getD i dIt))) 0 ((iC (l.getD i dIt)).length))]) oz))) ?_
  refine qaa ?_
  have hrg := qsp (l.getD i dIt) lv m hm0
  refine T_k mixed [(3, .call [0] [(.opt 0 0), (.agg [(iv (iK (l.getD i dIt))), (iv (iS (l.getD i dIt))), (.ssl (pts (iP (l.getD i dIt))) 0 ((iP (l.getD i dIt)).length)), (iv ((iB (l.getD i dIt)).1)), (iv ((iB (l.getD i dIt)).2)), (sv (st (iL (l.getD i dIt)))), (.ssl (ics (iC (l.getD i dIt))) 0 ((iC (l.getD i dIt)).length))]), (iv lv)] [some (67, [(iv m)])] (bv ((itS (l.getD i dIt) lv m).1)) [some (67, [(iv ((itS (l.getD i dIt) lv m).2))])])] [.k3, .d, .k3, .n, .d, .n, .d] [ps 19 (bv (!((itS (l.getD i dIt) lv m).1))), pb 0 67 [(iv ((itS (l.getD i dIt) lv m).2))]] (oc (ihI (l.getD i dIt) lv m (el_lt (by omega)) hlv0 hlv1 (by omega) (by omega) (qre hfl (by omega)) : PC Tryz.prog 58 [(.opt 0 0), (.agg [(iv (iK (l.getD i dIt))), (iv (iS (l.getD i dIt))), (.ssl (pts (iP (l.getD i dIt))) 0 ((iP (l.getD i dIt)).length)), (iv ((iB (l.getD i dIt)).1)), (iv ((iB (l.getD i dIt)).2)), (sv (st (iL (l.getD i dIt)))), (.ssl (ics (iC (l.getD i dIt))) 0 ((iC (l.getD i dIt)).length))]), (iv lv)] [some (67, [(iv m)])] (bv ((itS (l.getD i dIt) lv m).1)) [some (67, [(iv ((itS (l.getD i dIt) lv m).2))])]) (oc (rfl : [(.opt 0 0), (.agg [(iv (iK (l.getD i dIt))), (iv (iS (l.getD i dIt))), (.ssl (pts (iP (l.getD i dIt))) 0 ((iP (l.getD i dIt)).length)), (iv ((iB (l.getD i dIt)).1)), (iv ((iB (l.getD i dIt)).2)), (sv (st (iL (l.getD i dIt)))), (.ssl (ics (iC (l.getD i dIt))) 0 ((iC (l.getD i dIt)).length))]), (iv lv)] = renL (sigi [0] 65) [(.opt 0 0), (.agg [(iv (iK (l.getD i dIt))), (iv (iS (l.getD i dIt))), (.ssl (pts (iP (l.getD i dIt))) 0 ((iP (l.getD i dIt)).length)), (iv ((iB (l.getD i dIt)).1)), (iv ((iB (l.getD i dIt)).2)), (sv (st (iL (l.getD i dIt)))), (.ssl (ics (iC (l.getD i dIt))) 0 ((iC (l.getD i dIt)).length))]), (iv lv)]) (oc (rfl : [(iv m)] = renL (sigi [0] 65) [(iv m)]) oz))) ?_
  by_cases h2 : ((itS (l.getD i dIt) lv m).1) = true
  ·refine T_el (congrArg Bool.not h2) ?_
   refine qag <| qbg ?_
   refine T_k mixed [] [.k5, .d, .n, .d, .r] [ps 11 (iv (((i : Nat) : Int) + 1))] (oc (by simp only [InK]; omega : InK .i64 (((i : Nat) : Int) + 1)) oz) ?_
   exact qce ⟨(i + 1, (itS (l.getD i dIt) lv m).2), ⟨by show i + 1 ≤ l.length; omega, by show itL (l.drop (i + 1)) lv (itS (l.getD i dIt) lv m).2 = itL l lv n; rw [itL_at (by omega), if_pos h2] at hL; exact hL, hrg.2.2 h2, by show (itS (l.getD i dIt) lv m).2 ≤ 4095; omega⟩⟩ (Wk.trans (Wk.eq (show _ = [ps 0 (.opt 0 0), ps 1 (.ssl (ics l) 0 l.length), ps 2 (iv lv), ps 9 (.ssl (ics l) 0 l.length), ps 10 (nv l.length), ps 11 (nv (i + 1)), pb 0 67 [(iv ((itS (l.getD i dIt) lv m).2))]] from by rfl)) (Wk.ren2 [ps 0 (.opt 0 0), ps 1 (.ssl (ics l) 0 l.length), ps 2 (iv lv), ps 9 (.ssl (ics l) 0 l.length), ps 10 (nv l.length), ps 11 (nv (i + 1)), pb 0 67 [(iv ((itS (l.getD i dIt) lv m).2))]] 1 hc0 [0] rfl rfl (by kernel_rfl) (by kernel_rfl))) (show l.length - (i + 1) < l.length - i from by show l.length - (i + 1) < l.length - i; omega)
  refine T_th (congrArg Bool.not (Bool.eq_false_iff.2 h2)) ?_
  refine qaa ?_
  refine T_k mixed [] [.d, .d, .d, .n, .d, .d, .d, .d, .r] [ps 6 (bv false)] (oz) ?_
  rw [itL_at (by omega), if_neg h2] at hL
  have e1 : decide ((itL l lv n).1 = true ∧ 0 < l.length) = false := by rw [← hL]; simp
  have e2 : (itL l lv n).2 = (itS (l.getD i dIt) lv m).2 := by rw [← hL]
  rw [e1, e2]
  exact qai fun cx_ a_ hI_ => qav (rt hc0 [ps 6 (bv false), pb 0 67 [(iv ((itS (l.getD i dIt) lv m).2))]] [0] hI_ (hbk := by exact oc rfl (oz)))
 refine T_el (dtn h1) ?_
 refine qbu rfl rfl ?_
 refine qaa ?_
 refine T_r mixed [] [ps 6 (bv (decide (0 < ((l.length : Nat) : Int)))), pb 0 67 [(iv m)]] (oz) ?_
 rw [List.drop_eq_nil_of_le (show l.length ≤ i from by omega), itL] at hL
 have e1 : decide ((itL l lv n).1 = true ∧ 0 < l.length) = decide (0 < ((l.length : Nat) : Int)) := by rw [← hL]; simp
 have e2 : (itL l lv n).2 = m := by rw [← hL]
 rw [e1, e2]
 exact qai fun cx_ a_ hI_ => rt hc0 [ps 6 (bv (decide (0 < ((l.length : Nat) : Int)))), pb 0 67 [(iv m)]] [0] hI_ (hbk := by exact oc rfl (oz))
theorem qly : ∀ m : Nat, (∀ (x : It) (lv n : Int), SizeOf.sizeOf x < m → 0 ≤ lv → lv ≤ 32 → 0 ≤ n → n ≤ 4095 → fitI x → PC Tryz.prog 58 [.opt 0 0, .agg (gI x), iv lv] [(67, [iv n])] (bv (itS x lv n).1) [some (67, [iv (itS x lv n).2])]) ∧ (∀ (l : List It) (lv n : Int), SizeOf.sizeOf l < m → 0 ≤ lv → lv ≤ 32 → 0 ≤ n → n ≤ 4095 → fitL l → l.length ≤ 140737488351232 → PC Tryz.prog 24 [.opt 0 0, .ssl (ics l) 0 l.length, iv lv] [(67, [iv n])] (bv (decide ((itL l lv n).1 = true ∧ 0 < l.length))) [some (67, [iv (itL l lv n).2])])
 | 0 => ⟨fun _ _ _ h => absurd h (Nat.not_lt_zero _), fun _ _ _ h => absurd h (Nat.not_lt_zero _)⟩
 | m + 1 => ⟨fun x lv n h h0 h1 h2 h3 h4 => item_step x lv n (fun l lv n hl => (qly m).2 l lv n (by omega)) h0 h1 h2 h3 h4, fun l lv n h h0 h1 h2 h3 h4 h5 => qxt l lv n (fun x lv n hx => (qly m).1 x lv n (by omega)) h0 h1 h2 h3 h4 h5⟩
theorem items_pc (l : List It) (lv n : Int) (h0 : 0 ≤ lv) (h1 : lv ≤ 32) (h2 : 0 ≤ n) (h3 : n ≤ 4095) (h4 : fitL l) (h5 : l.length ≤ 140737488351232) : PC Tryz.prog 24 [.opt 0 0, .ssl (ics l) 0 l.length, iv lv] [(67, [iv n])] (bv (decide ((itL l lv n).1 = true ∧ 0 < l.length))) [some (67, [iv (itL l lv n).2])] := (qly _).2 l lv n (Nat.lt_succ_self _) h0 h1 h2 h3 h4 h5
end Go.Proofs.YtmlnilkbolcknaaGreatDoor.Pm
namespace Go.Proofs.YtmlnilkbolcknaaGreatDoor.Pm
open Go

theorem pc_trimS {P : Program} {f : FuncId} {args rs : List PV} (H' : Hp) (hr : shds rs) (_hd : ∀ i, H'.getD i none = none) (h : PC P f args [] (.agg rs) H') : PC P f args [] (.agg rs) [] := by
 obtain ⟨h1, _, h2⟩ := h
 refine ⟨h1, Nat.le_refl _, fun c vs hh hrl => (h2 c vs hh hrl).mono ?_⟩
 rintro e w' ⟨u, c', rfl, rfl, h3, h4⟩
 have hno : ∀ (H : Hp), (∀ i, H.getD i none = none) → ∀ i, ¬ Live (hSt H) i := fun H hH i ⟨T, cs, hx⟩ => by rw [qgs, hH] at hx; cases hx
 have hno0 := hno [] (fun i => by simp)
 have hown : ∀ i x, c.own i = some x → False := fun i x hx => by have : i < 0 := hh.ids i x hx; omega
 have hk := h3.keep
 refine ⟨u, ⟨c'.w, c'.S, fun _ => none⟩, rfl, rfl, { ids := fun i x hx => (by cases hx), blk := fun i T cs hx => absurd ⟨T, cs, hx⟩ (hno0 i), inj := fun i j b T T' l1 => absurd l1 (hno0 i), apart := fun i b T l1 => absurd l1 (hno0 i), bnd := fun i b T hx => (by cases hx), sok := h3.sok, os := h3.os, tape := h3.tape, output := h3.output, size := h3.size, same := h3.same, laid := h3.laid, s0 := h3.s0, s1 := h3.s1, keep := ⟨hk.S, fun i x hx => (hown i x hx).elim, hk.shape⟩ }, ?_⟩
 obtain ⟨us, rfl, q1, q2⟩ := qfz h4
 have hsr : ∀ i, i < rs.length → SRep c'.w c'.S (rs.getD i P0) (us.getD i undef) := fun i hi => qrx (q2 i hi) (hr _ (by
  rw [List.getD_eq_getElem?_getD, List.getElem?_eq_getElem hi]
  exact List.getElem_mem hi))
 exact .sh (.agg q1 hsr)
end Go.Proofs.YtmlnilkbolcknaaGreatDoor.Pm
namespace Go.Proofs.YtmlnilkbolcknaaGreatDoor.Pm
open Go Go.Proofs.YtmlnilkbolcknaaGreatDoor.Pi

set_option maxRecDepth 100000 in
set_option maxHeartbeats 4000000 in
theorem qyc (y : It) (ih : ∀ c : It, SizeOf.sizeOf c < SizeOf.sizeOf y → fitI c → PC Tryz.prog 66 [.agg (gI c)] [] (.agg (gB (toB c))) []) (hfx : fitI y) : PC Tryz.prog 66 [(.agg [(iv (iK y)), (iv (iS y)), (.ssl (pts (iP y)) 0 ((iP y).length)), (iv ((iB y).1)), (iv ((iB y).2)), (sv (st (iL y))), (.ssl (ics (iC y)) 0 ((iC y).length))])] [] (.agg [(iv (kd (toB y))), (iv (sh (toB y))), (.ssl (kc (toB y)) 0 ((kids (toB y)).length))]) [none] := by
 obtain ⟨hx1, hx2, hx3, hx4, hx5⟩ := (qsx y).1 hfx
 refine qas Tryz.func66 rfl (by kernel_rfl) (Nat.le_of_ble_eq_true rfl) (by kernel_rfl) (l0 := [ps 0 (.agg [(iv (iK y)), (iv (iS y)), (.ssl (pts (iP y)) 0 ((iP y).length)), (iv ((iB y).1)), (iv ((iB y).2)), (sv (st (iL y))), (.ssl (ics (iC y)) 0 ((iC y).length))])]) rfl (fun c0 Bor hc0 => ?_)
 refine qaa ?_
 refine T_r mixed [] [ps 1 (.opt 0 0), ps 2 (.opt 8 0), pb 0 50 [(iv (iK y)), (iv (iS y)), (.ssl (pts (iP y)) 0 ((iP y).length)), (iv ((iB y).1)), (iv ((iB y).2)), (sv (st (iL y))), (.ssl (ics (iC y)) 0 ((iC y).length))], pb 8 125 [(iv 0), (iv 0), (.av (.slice none 0 0))]] (oz) ?_
 refine qaa ?_
 refine T_k mixed [] [.k2, .n, .k2, .n] [ps 3 (.opt 40 0), pb 40 125 [(iv 1), (iv (iS y)), (.av (.slice none 0 0))]] (oz) ?_
 refine qaa <| qaa ?_
 refine T_k mixed [] [.k3, .n, .r] [ps 12 (bv (decide (0 < (((iC y).length : Nat) : Int))))] (oz) ?_
 by_cases h1 : 0 < (((iC y).length : Nat) : Int)
 ·refine T_th (dty h1) ?_
  refine T_k mixed [] [.k3, .d, .k2, .d, .n] [pb 40 125 [(iv 4), (iv (iS y)), (.av (.slice none 0 0))]] (oz) ?_
  refine qaa <| qaa ?_
  refine T_k mixed [] [.d, .k2, .n, .n, .n, .d, .r] [ps 15 (.ssl (ics (iC y)) 0 ((iC y).length)), ps 16 (nv ((iC y).length)), ps 17 (iv 0)] (oz) ?_
  refine qan ?_
  refine T_wk (Wk.nilc (B := 125) (cells := [(iv 4), (iv (iS y)), (.av (.slice none 0 0))]) 40 2 125 (by kernel_rfl) rfl) ?_
  refine T_wk (Wk.less (l' := [ps 2 (.opt 8 0), ps 3 (.opt 40 0), ps 15 (.ssl (ics (iC y)) 0 ((iC y).length)), ps 16 (nv ((iC y).length)), ps 17 (iv 0), pb 8 125 [(iv 0), (iv 0), (.av (.slice none 0 0))], pb 40 125 [(iv 4), (iv (iS y)), (.osl 136 0 0)], pb 136 125 []]) 137 (by kernel_rfl) (by kernel_rfl)) ?_
  refine T_wk (Wk.eq (show _ = [ps 2 (.opt 8 0), ps 3 (.opt 40 0), ps 15 (.ssl (ics (iC y)) 0 ((iC y).length)), ps 16 (nv ((iC y).length)), ps 17 (iv 0), pb 8 125 [(iv 0), (iv 0), (.av (.slice none 0 0))], pb 40 125 [(iv 4), (iv (iS y)), (.osl 136 0 0)], pb 136 125 (kcs (bs y 0))] from by rfl)) ?_
  refine qcm (α := {x : Nat // x ≤ (iC y).length}) (fun x => [ps 2 (.opt 0 0), ps 3 (.opt 1 0), ps 15 (.ssl (ics (iC y)) 0 ((iC y).length)), ps 16 (nv ((iC y).length)), ps 17 (nv x.1), pb 0 125 [(iv 0), (iv 0), (.av (.slice none 0 0))], pb 1 125 [(iv 4), (iv (iS y)), (.osl 2 0 x.1)], pb 2 125 (kcs (bs y x.1))]) (fun x => (iC y).length - x.1) 3 ⟨0, Nat.zero_le _⟩ (Wk.ren3 [ps 2 (.opt 0 0), ps 3 (.opt 1 0), ps 15 (.ssl (ics (iC y)) 0 ((iC y).length)), ps 16 (nv ((iC y).length)), ps 17 (nv 0), pb 0 125 [(iv 0), (iv 0), (.av (.slice none 0 0))], pb 1 125 [(iv 4), (iv (iS y)), (.osl 2 0 0)], pb 2 125 (kcs (bs y 0))] 0 hc0 [8, 40, 136] [(kb 2, (kcs (bs y 0)))] (oc (qov _) (oz)) (by kernel_rfl) rfl rfl (by kernel_rfl) (by kernel_rfl)) ?_
  rintro ⟨j, hj⟩
  refine qaa ?_
  refine T_r mixed [] [ps 2 (.opt 0 0), ps 3 (.opt 1 0), ps 15 (.ssl (ics (iC y)) 0 ((iC y).length)), ps 16 (nv ((iC y).length)), ps 17 (nv j), ps 18 (bv (decide (((j : Nat) : Int) < (((iC y).length : Nat) : Int)))), pb 0 125 [(iv 0), (iv 0), (.av (.slice none 0 0))], pb 1 125 [(iv 4), (iv (iS y)), (.osl 2 0 j)], pb 2 125 (kcs (bs y j))] (oz) ?_
  refine qaa ?_
  by_cases h2 : ((j : Nat) : Int) < (((iC y).length : Nat) : Int)
  ·refine T_th (dty h2) ?_
   refine qag <| qaa <| qan <| qaa ?_
   refine T_k mixed [(0, .nat (j * 7)), (1, .cells [(iv (iK ((iC y).getD j dIt))), (iv (iS ((iC y).getD j dIt))), (.ssl (pts (iP ((iC y).getD j dIt))) 0 ((iP ((iC y).getD j dIt)).length)), (iv ((iB ((iC y).getD j dIt)).1)), (iv ((iB ((iC y).getD j dIt)).2)), (sv (st (iL ((iC y).getD j dIt)))), (.ssl (ics (iC ((iC y).getD j dIt))) 0 ((iC ((iC y).getD j dIt)).length))])] [.k2, .n, .k3, .d, .k3, .n] [ps 5 (.opt 27 0), pb 27 50 [(iv (iK ((iC y).getD j dIt))), (iv (iS ((iC y).getD j dIt))), (.ssl (pts (iP ((iC y).getD j dIt))) 0 ((iP ((iC y).getD j dIt)).length)), (iv ((iB ((iC y).getD j dIt)).1)), (iv ((iB ((iC y).getD j dIt)).2)), (sv (st (iL ((iC y).getD j dIt)))), (.ssl (ics (iC ((iC y).getD j dIt))) 0 ((iC ((iC y).getD j dIt)).length))]] (oc (by omega : (0 : Int) ≤ ((j : Nat) : Int) ∧ ((j : Nat) : Int) < (((iC y).length : Nat) : Int)) (oc (by omega : 0 + (((j : Nat) : Int) : Int).toNat * 7 = (j * 7)) (oc (qvk (iC y) j 0 7 (by omega) (by decide) : (j * 7) + 7 ≤ ((ics (iC y))).length ∧ (((ics (iC y))).drop (j * 7)).take 7 = [(iv (iK ((iC y).getD j dIt))), (iv (iS ((iC y).getD j dIt))), (.ssl (pts (iP ((iC y).getD j dIt))) 0 ((iP ((iC y).getD j dIt)).length)), (iv ((iB ((iC y).getD j dIt)).1)), (iv ((iB ((iC y).getD j dIt)).2)), (sv (st (iL ((iC y).getD j dIt)))), (.ssl (ics (iC ((iC y).getD j dIt))) 0 ((iC ((iC y).getD j dIt)).length))]) oz))) ?_
   refine T_kd mixed [(3, .call [] [(.agg [(iv (iK ((iC y).getD j dIt))), (iv (iS ((iC y).getD j dIt))), (.ssl (pts (iP ((iC y).getD j dIt))) 0 ((iP ((iC y).getD j dIt)).length)), (iv ((iB ((iC y).getD j dIt)).1)), (iv ((iB ((iC y).getD j dIt)).2)), (sv (st (iL ((iC y).getD j dIt)))), (.ssl (ics (iC ((iC y).getD j dIt))) 0 ((iC ((iC y).getD j dIt)).length))])] [] (.agg [(iv (kd (toB ((iC y).getD j dIt)))), (iv (sh (toB ((iC y).getD j dIt)))), (.ssl (kc (toB ((iC y).getD j dIt))) 0 ((kids (toB ((iC y).getD j dIt))).length))]) []), (5, .app none (some (kcs (bs y (j + 1)))))] [[], [0], [], [2], [2, 3], [0, 1, 2, 3, 4], [0, 1, 2, 3, 4, 5], [0, 1, 2, 3, 4, 5, 6]] [([42], [6]), ([44], [3, 42]), ([46], [10, 55]), ([48], [46]), ([50, 151], [48]), ([52, 5, 167], [5, 44, 50, 151]), ([54], [6]), ([3], [3, 52, 54])] [.k2, .d, .k4, .d, .n, .d, .d, .n] [pb 1 125 [(iv 4), (iv (iS y)), (.osl 83 0 (j + 1))], pb 83 125 (kcs (bs y (j + 1)))] (oc (ih ((iC y).getD j dIt) (kid_lt (by omega)) (qre hx5 (by omega)) : PC Tryz.prog 66 [(.agg [(iv (iK ((iC y).getD j dIt))), (iv (iS ((iC y).getD j dIt))), (.ssl (pts (iP ((iC y).getD j dIt))) 0 ((iP ((iC y).getD j dIt)).length)), (iv ((iB ((iC y).getD j dIt)).1)), (iv ((iB ((iC y).getD j dIt)).2)), (sv (st (iL ((iC y).getD j dIt)))), (.ssl (ics (iC ((iC y).getD j dIt))) 0 ((iC ((iC y).getD j dIt)).length))])] [] (.agg [(iv (kd (toB ((iC y).getD j dIt)))), (iv (sh (toB ((iC y).getD j dIt)))), (.ssl (kc (toB ((iC y).getD j dIt))) 0 ((kids (toB ((iC y).getD j dIt))).length))]) []) (oc (rfl : Ren0 67 [(.agg [(iv (iK ((iC y).getD j dIt))), (iv (iS ((iC y).getD j dIt))), (.ssl (pts (iP ((iC y).getD j dIt))) 0 ((iP ((iC y).getD j dIt)).length)), (iv ((iB ((iC y).getD j dIt)).1)), (iv ((iB ((iC y).getD j dIt)).2)), (sv (st (iL ((iC y).getD j dIt)))), (.ssl (ics (iC ((iC y).getD j dIt))) 0 ((iC ((iC y).getD j dIt)).length))])]) (oc (by rw [kcs_len, qwh (by omega)] : ((kcs (bs y j))).length = j * 3) (oc (by omega : (j + 1) * 40 ≤ 140737488355328 ∧ j + 1 ≤ 9223372036854775807) (oc (bs_next (show j < (iC y).length from by omega) : (kcs (bs y j)) ++ [(iv (kd (toB ((iC y).getD j dIt)))), (iv (sh (toB ((iC y).getD j dIt)))), (.ssl (kc (toB ((iC y).getD j dIt))) 0 ((kids (toB ((iC y).getD j dIt))).length))] = (kcs (bs y (j + 1)))) oz))))) ?_
   refine qbg ?_
   refine T_k mixed [] [.k4, .d, .n, .r] [ps 17 (iv (((j : Nat) : Int) + 1))] (oc (by simp only [InK]; omega : InK .i64 (((j : Nat) : Int) + 1)) oz) ?_
   exact qce ⟨j + 1, by show j + 1 ≤ (iC y).length; omega⟩ (Wk.trans (Wk.eq (show _ = [ps 2 (.opt 0 0), ps 3 (.opt 1 0), ps 15 (.ssl (ics (iC y)) 0 ((iC y).length)), ps 16 (nv ((iC y).length)), ps 17 (nv (j + 1)), pb 0 125 [(iv 0), (iv 0), (.av (.slice none 0 0))], pb 1 125 [(iv 4), (iv (iS y)), (.osl 83 0 (j + 1))], pb 83 125 (kcs (bs y (j + 1)))] from by rfl)) (Wk.ren3 [ps 2 (.opt 0 0), ps 3 (.opt 1 0), ps 15 (.ssl (ics (iC y)) 0 ((iC y).length)), ps 16 (nv ((iC y).length)), ps 17 (nv (j + 1)), pb 0 125 [(iv 0), (iv 0), (.av (.slice none 0 0))], pb 1 125 [(iv 4), (iv (iS y)), (.osl 2 0 (j + 1))], pb 2 125 (kcs (bs y (j + 1)))] 0 hc0 [0, 1, 83] [(kb 2, (kcs (bs y (j + 1))))] (oc (qov _) (oz)) (by kernel_rfl) rfl rfl (by kernel_rfl) (by kernel_rfl))) (show (iC y).length - (j + 1) < (iC y).length - j from by show (iC y).length - (j + 1) < (iC y).length - j; omega)
  refine T_el (dtn h2) ?_
  refine qbu rfl rfl ?_
  refine qaa ?_
  refine T_r mixed [] [ps 2 (.opt 0 0), pb 0 125 [(iv 4), (iv (iS y)), (.osl 2 0 j)], pb 2 125 (kcs (bs y j))] (oz) ?_
  obtain rfl : j = (iC y).length := by omega
  refine T_wk (Wk.eq (show _ = [ps 2 (.opt 0 0), pb 0 125 [(iv (kd (toB y))), (iv (sh (toB y))), (.osl 2 0 ((kids (toB y)).length))], pb 2 125 (kc (toB y))] from by rw [kc_kcs, ← bs_all, qwh (Nat.le_refl _), qyo, show kd (toB y) = 4 from by rw [toB_kd, if_neg (by omega)]])) ?_
  refine T_wk (Wk.frz (l' := [ps 2 (.opt 0 0), pb 0 125 [(iv (kd (toB y))), (iv (sh (toB y))), (.ssl (kc (toB y)) 0 ((kids (toB y)).length))], (kb 2, none)]) 2 (T := 125) (cs := (kc (toB y))) (by kernel_rfl) (kc_shd _) (by kernel_rfl)) ?_
  refine T_wk (Wk.less (l' := [ps 2 (.opt 0 0), pb 0 125 [(iv (kd (toB y))), (iv (sh (toB y))), (.ssl (kc (toB y)) 0 ((kids (toB y)).length))]]) 27 (by kernel_rfl) (by kernel_rfl)) ?_
  exact qai fun cx_ a_ hI_ => rt hc0 [ps 2 (.opt 0 0), pb 0 125 [(iv (kd (toB y))), (iv (sh (toB y))), (.ssl (kc (toB y)) 0 ((kids (toB y)).length))]] [0] hI_
 refine T_el (dtn h1) ?_
 refine qag <| qaa <| qaa ?_
 refine T_k mixed [] [.d, .k2, .d, .n, .n, .n, .d, .r] [ps 15 (.ssl (ics (iC y)) 0 ((iC y).length)), ps 16 (nv ((iC y).length)), ps 17 (iv 0)] (oz) ?_
 refine qan ?_
 refine T_wk (Wk.nilc (B := 125) (cells := [(iv 1), (iv (iS y)), (.av (.slice none 0 0))]) 40 2 125 (by kernel_rfl) rfl) ?_
 refine T_wk (Wk.less (l' := [ps 2 (.opt 8 0), ps 3 (.opt 40 0), ps 15 (.ssl (ics (iC y)) 0 ((iC y).length)), ps 16 (nv ((iC y).length)), ps 17 (iv 0), pb 8 125 [(iv 0), (iv 0), (.av (.slice none 0 0))], pb 40 125 [(iv 1), (iv (iS y)), (.osl 120 0 0)], pb 120 125 []]) 121 (by kernel_rfl) (by kernel_rfl)) ?_
 refine T_wk (Wk.eq (show _ = [ps 2 (.opt 8 0), ps 3 (.opt 40 0), ps 15 (.ssl (ics (iC y)) 0 ((iC y).length)), ps 16 (nv ((iC y).length)), ps 17 (iv 0), pb 8 125 [(iv 0), (iv 0), (.av (.slice none 0 0))], pb 40 125 [(iv 1), (iv (iS y)), (.osl 120 0 0)], pb 120 125 (kcs (bs y 0))] from by rfl)) ?_
 refine qcm (α := {x : Nat // x ≤ (iC y).length}) (fun x => [ps 2 (.opt 0 0), ps 3 (.opt 1 0), ps 15 (.ssl (ics (iC y)) 0 ((iC y).length)), ps 16 (nv ((iC y).length)), ps 17 (nv x.1), pb 0 125 [(iv 0), (iv 0), (.av (.slice none 0 0))], pb 1 125 [(iv 1), (iv (iS y)), (.osl 2 0 x.1)], pb 2 125 (kcs (bs y x.1))]) (fun x => (iC y).length - x.1) 3 ⟨0, Nat.zero_le _⟩ (Wk.ren3 [ps 2 (.opt 0 0), ps 3 (.opt 1 0), ps 15 (.ssl (ics (iC y)) 0 ((iC y).length)), ps 16 (nv ((iC y).length)), ps 17 (nv 0), pb 0 125 [(iv 0), (iv 0), (.av (.slice none 0 0))], pb 1 125 [(iv 1), (iv (iS y)), (.osl 2 0 0)], pb 2 125 (kcs (bs y 0))] 0 hc0 [8, 40, 120] [(kb 2, (kcs (bs y 0)))] (oc (qov _) (oz)) (by kernel_rfl) rfl rfl (by kernel_rfl) (by kernel_rfl)) ?_
 rintro ⟨j, hj⟩
 refine qaa ?_
 refine T_r mixed [] [ps 2 (.opt 0 0), ps 3 (.opt 1 0), ps 15 (.ssl (ics (iC y)) 0 ((iC y).length)), ps 16 (nv ((iC y).length)), ps 17 (nv j), ps 18 (bv (decide (((j : Nat) : Int) < (((iC y).length : Nat) : Int)))), pb 0 125 [(iv 0), (iv 0), (.av (.slice none 0 0))], pb 1 125 [(iv 1), (iv (iS y)), (.osl 2 0 j)], pb 2 125 (kcs (bs y j))] (oz) ?_
 refine qaa ?_
 by_cases h3 : ((j : Nat) : Int) < (((iC y).length : Nat) : Int)
 ·refine T_th (dty h3) ?_
  refine qag <| qaa <| qan <| qaa ?_
  refine T_k mixed [(0, .nat (j * 7)), (1, .cells [(iv (iK ((iC y).getD j dIt))), (iv (iS ((iC y).getD j dIt))), (.ssl (pts (iP ((iC y).getD j dIt))) 0 ((iP ((iC y).getD j dIt)).length)), (iv ((iB ((iC y).getD j dIt)).1)), (iv ((iB ((iC y).getD j dIt)).2)), (sv (st (iL ((iC y).getD j dIt)))), (.ssl (ics (iC ((iC y).getD j dIt))) 0 ((iC ((iC y).getD j dIt)).length))])] [.k2, .n, .k3, .d, .k3, .n] [ps 5 (.opt 27 0), pb 27 50 [(iv (iK ((iC y).getD j dIt))), (iv (iS ((iC y).getD j dIt))), (.ssl (pts (iP ((iC y).getD j dIt))) 0 ((iP ((iC y).getD j dIt)).length)), (iv ((iB ((iC y).getD j dIt)).1)), (iv ((iB ((iC y).getD j dIt)).2)), (sv (st (iL ((iC y).getD j dIt)))), (.ssl (ics (iC ((iC y).getD j dIt))) 0 ((iC ((iC y).getD j dIt)).length))]] (oc (by omega : (0 : Int) ≤ ((j : Nat) : Int) ∧ ((j : Nat) : Int) < (((iC y).length : Nat) : Int)) (oc (by omega : 0 + (((j : Nat) : Int) : Int).toNat * 7 = (j * 7)) (oc (qvk (iC y) j 0 7 (by omega) (by decide) : (j * 7) + 7 ≤ ((ics (iC y))).length ∧ (((ics (iC y))).drop (j * 7)).take 7 = [(iv (iK ((iC y).getD j dIt))), (iv (iS ((iC y).getD j dIt))), (.ssl (pts (iP ((iC y).getD j dIt))) 0 ((iP ((iC y).getD j dIt)).length)), (iv ((iB ((iC y).getD j dIt)).1)), (iv ((iB ((iC y).getD j dIt)).2)), (sv (st (iL ((iC y).getD j dIt)))), (.ssl (ics (iC ((iC y).getD j dIt))) 0 ((iC ((iC y).getD j dIt)).length))]) oz))) ?_
  refine T_kd mixed [(3, .call [] [(.agg [(iv (iK ((iC y).getD j dIt))), (iv (iS ((iC y).getD j dIt))), (.ssl (pts (iP ((iC y).getD j dIt))) 0 ((iP ((iC y).getD j dIt)).length)), (iv ((iB ((iC y).getD j dIt)).1)), (iv ((iB ((iC y).getD j dIt)).2)), (sv (st (iL ((iC y).getD j dIt)))), (.ssl (ics (iC ((iC y).getD j dIt))) 0 ((iC ((iC y).getD j dIt)).length))])] [] (.agg [(iv (kd (toB ((iC y).getD j dIt)))), (iv (sh (toB ((iC y).getD j dIt)))), (.ssl (kc (toB ((iC y).getD j dIt))) 0 ((kids (toB ((iC y).getD j dIt))).length))]) []), (5, .app none (some (kcs (bs y (j + 1)))))] [[], [0], [], [2], [2, 3], [0, 1, 2, 3, 4], [0, 1, 2, 3, 4, 5], [0, 1, 2, 3, 4, 5, 6]] [([42], [6]), ([44], [3, 42]), ([46], [10, 55]), ([48], [46]), ([50, 151], [48]), ([52, 5, 167], [5, 44, 50, 151]), ([54], [6]), ([3], [3, 52, 54])] [.k2, .d, .k4, .d, .n, .d, .d, .n] [pb 1 125 [(iv 1), (iv (iS y)), (.osl 83 0 (j + 1))], pb 83 125 (kcs (bs y (j + 1)))] (oc (ih ((iC y).getD j dIt) (kid_lt (by omega)) (qre hx5 (by omega)) : PC Tryz.prog 66 [(.agg [(iv (iK ((iC y).getD j dIt))), (iv (iS ((iC y).getD j dIt))), (.ssl (pts (iP ((iC y).getD j dIt))) 0 ((iP ((iC y).getD j dIt)).length)), (iv ((iB ((iC y).getD j dIt)).1)), (iv ((iB ((iC y).getD j dIt)).2)), (sv (st (iL ((iC y).getD j dIt)))), (.ssl (ics (iC ((iC y).getD j dIt))) 0 ((iC ((iC y).getD j dIt)).length))])] [] (.agg [(iv (kd (toB ((iC y).getD j dIt)))), (iv (sh (toB ((iC y).getD j dIt)))), (.ssl (kc (toB ((iC y).getD j dIt))) 0 ((kids (toB ((iC y).getD j dIt))).length))]) []) (oc (rfl : Ren0 67 [(.agg [(iv (iK ((iC y).getD j dIt))), (iv (iS ((iC y).getD j dIt))), (.ssl (pts (iP ((iC y).getD j dIt))) 0 ((iP ((iC y).getD j dIt)).length)), (iv ((iB ((iC y).getD j dIt)).1)), (iv ((iB ((iC y).getD j dIt)).2)), (sv (st (iL ((iC y).getD j dIt)))), (.ssl (ics (iC ((iC y).getD j dIt))) 0 ((iC ((iC y).getD j dIt)).length))])]) (oc (by rw [kcs_len, qwh (by omega)] : ((kcs (bs y j))).length = j * 3) (oc (by omega : (j + 1) * 40 ≤ 140737488355328 ∧ j + 1 ≤ 9223372036854775807) (oc (bs_next (show j < (iC y).length from by omega) : (kcs (bs y j)) ++ [(iv (kd (toB ((iC y).getD j dIt)))), (iv (sh (toB ((iC y).getD j dIt)))), (.ssl (kc (toB ((iC y).getD j dIt))) 0 ((kids (toB ((iC y).getD j dIt))).length))] = (kcs (bs y (j + 1)))) oz))))) ?_
  refine qbg ?_
  refine T_k mixed [] [.k4, .d, .n, .r] [ps 17 (iv (((j : Nat) : Int) + 1))] (oc (by simp only [InK]; omega : InK .i64 (((j : Nat) : Int) + 1)) oz) ?_
  exact qce ⟨j + 1, by show j + 1 ≤ (iC y).length; omega⟩ (Wk.trans (Wk.eq (show _ = [ps 2 (.opt 0 0), ps 3 (.opt 1 0), ps 15 (.ssl (ics (iC y)) 0 ((iC y).length)), ps 16 (nv ((iC y).length)), ps 17 (nv (j + 1)), pb 0 125 [(iv 0), (iv 0), (.av (.slice none 0 0))], pb 1 125 [(iv 1), (iv (iS y)), (.osl 83 0 (j + 1))], pb 83 125 (kcs (bs y (j + 1)))] from by rfl)) (Wk.ren3 [ps 2 (.opt 0 0), ps 3 (.opt 1 0), ps 15 (.ssl (ics (iC y)) 0 ((iC y).length)), ps 16 (nv ((iC y).length)), ps 17 (nv (j + 1)), pb 0 125 [(iv 0), (iv 0), (.av (.slice none 0 0))], pb 1 125 [(iv 1), (iv (iS y)), (.osl 2 0 (j + 1))], pb 2 125 (kcs (bs y (j + 1)))] 0 hc0 [0, 1, 83] [(kb 2, (kcs (bs y (j + 1))))] (oc (qov _) (oz)) (by kernel_rfl) rfl rfl (by kernel_rfl) (by kernel_rfl))) (show (iC y).length - (j + 1) < (iC y).length - j from by show (iC y).length - (j + 1) < (iC y).length - j; omega)
 refine T_el (dtn h3) ?_
 refine qbu rfl rfl ?_
 refine qaa ?_
 refine T_r mixed [] [ps 2 (.opt 0 0), pb 0 125 [(iv 1), (iv (iS y)), (.osl 2 0 j)], pb 2 125 (kcs (bs y j))] (oz) ?_
 obtain rfl : j = (iC y).length := by omega
 refine T_wk (Wk.eq (show _ = [ps 2 (.opt 0 0), pb 0 125 [(iv (kd (toB y))), (iv (sh (toB y))), (.osl 2 0 ((kids (toB y)).length))], pb 2 125 (kc (toB y))] from by rw [kc_kcs, ← bs_all, qwh (Nat.le_refl _), qyo, show kd (toB y) = 1 from by rw [toB_kd, if_pos (by omega)]])) ?_
 refine T_wk (Wk.frz (l' := [ps 2 (.opt 0 0), pb 0 125 [(iv (kd (toB y))), (iv (sh (toB y))), (.ssl (kc (toB y)) 0 ((kids (toB y)).length))], (kb 2, none)]) 2 (T := 125) (cs := (kc (toB y))) (by kernel_rfl) (kc_shd _) (by kernel_rfl)) ?_
 refine T_wk (Wk.less (l' := [ps 2 (.opt 0 0), pb 0 125 [(iv (kd (toB y))), (iv (sh (toB y))), (.ssl (kc (toB y)) 0 ((kids (toB y)).length))]]) 27 (by kernel_rfl) (by kernel_rfl)) ?_
 exact qai fun cx_ a_ hI_ => rt hc0 [ps 2 (.opt 0 0), pb 0 125 [(iv (kd (toB y))), (iv (sh (toB y))), (.ssl (kc (toB y)) 0 ((kids (toB y)).length))]] [0] hI_
theorem beat_step (y : It) (ih : ∀ c : It, SizeOf.sizeOf c < SizeOf.sizeOf y → fitI c → PC Tryz.prog 66 [.agg (gI c)] [] (.agg (gB (toB c))) []) (hfx : fitI y) : PC Tryz.prog 66 [.agg (gI y)] [] (.agg (gB (toB y))) [] := pc_trimS [none] (fun p hp => List.all_eq_true.1 (show (gB (toB y)).all PV.shd = true from rfl) p hp) (fun i => by rcases i with _ | _ | i <;> rfl) (qyc y ih hfx)
theorem qwi : ∀ (m : Nat) (x : It), SizeOf.sizeOf x < m → fitI x → PC Tryz.prog 66 [.agg (gI x)] [] (.agg (gB (toB x))) []
 | 0, _, h, _ => absurd h (Nat.not_lt_zero _)
 | m + 1, x, _, hf => beat_step x (fun c hc => qwi m c (by omega)) hf
theorem beat_pc (x : It) (hf : fitI x) : PC Tryz.prog 66 [.agg (gI x)] [] (.agg (gB (toB x))) [] := qwi _ x (Nat.lt_succ_self _) hf
end Go.Proofs.YtmlnilkbolcknaaGreatDoor.Pm
namespace Go.Proofs.YtmlnilkbolcknaaGreatDoor.Pm
open Go Fr

set_option maxRecDepth 100000 in
set_option maxHeartbeats 4000000 in
theorem look_step (b : Beat) (ih : ∀ b2 : Beat, SizeOf.sizeOf b2 < SizeOf.sizeOf b → ∀ (lv n : Int), 1 ≤ lv → lv ≤ 33 → 0 ≤ n → n ≤ 4096 → PC Tryz.prog 131 [.agg (gB b2), iv lv, .opt 0 0] [some (3, [iv n])] (iv (qbq b2 lv n).1) [some (3, [iv (qbq b2 lv n).2])]) (lv n : Int) (h1 : 1 ≤ lv) (h2 : lv ≤ 33) (h3 : 0 ≤ n) (h4 : n ≤ 4096) : PC Tryz.prog 131 [(.agg [(iv (kd b)), (iv (sh b)), (.ssl (kc b) 0 ((kids b).length))]), (iv lv), (.opt 0 0)] [some (3, [(iv n)])] (iv ((qbq b lv n).1)) [some (3, [(iv ((qbq b lv n).2))])] := by
 refine qas Tryz.func131 rfl (by kernel_rfl) (Nat.le_of_ble_eq_true rfl) (by kernel_rfl) (l0 := [ps 0 (.agg [(iv (kd b)), (iv (sh b)), (.ssl (kc b) 0 ((kids b).length))]), ps 1 (iv lv), ps 2 (.opt 0 0), pb 0 3 [(iv n)]]) rfl (fun c0 Bor hc0 => ?_)
 refine qaa ?_
 refine T_k mixed [] [.d, .k2, .n, .k1, .n] [ps 3 (.opt 1 0), pb 1 125 [(iv (kd b)), (iv (sh b)), (.ssl (kc b) 0 ((kids b).length))]] (oz) ?_
 refine qaa <| qaa ?_
 refine T_k mixed [] [.k3, .n, .r] [ps 11 (bv (decide (32 < lv)))] (oz) ?_
 by_cases h1 : 32 < lv
 ·refine T_th (decide_eq_true h1) ?_
  refine qaa ?_
  refine T_r mixed [] [ps 6 (iv 4), pb 0 3 [(iv n)]] (oz) ?_
  rw [show qbq b lv n = (4, n) from by rw [qcu]; repeat (first | rw [if_pos (by omega)] | rw [if_neg (by omega)])]
  exact qai fun cx_ a_ hI_ => rt hc0 [ps 6 (iv 4), pb 0 3 [(iv n)]] [0] hI_ (hbk := by exact oc rfl (oz))
 refine T_el (decide_eq_false h1) ?_
 refine qag <| qaa <| qaa ?_
 refine T_k mixed [] [.k3, .d, .d, .n, .r] [pb 0 3 [(iv (n + 1))]] (oc (by simp only [InK]; omega : InK .i64 (n + 1)) oz) ?_
 refine qaa ?_
 refine T_k mixed [] [.k3, .n, .r] [ps 20 (bv (decide (4096 < (n + 1))))] (oz) ?_
 by_cases h2 : 4096 < (n + 1)
 ·refine T_th (decide_eq_true h2) ?_
  refine qaa ?_
  refine T_r mixed [] [ps 6 (iv 4), pb 0 3 [(iv (n + 1))]] (oz) ?_
  rw [show qbq b lv n = (4, n + 1) from by rw [qcu]; repeat (first | rw [if_pos (by omega)] | rw [if_neg (by omega)])]
  exact qai fun cx_ a_ hI_ => rt hc0 [ps 6 (iv 4), pb 0 3 [(iv (n + 1))]] [0] hI_ (hbk := by exact oc rfl (oz))
 refine T_el (decide_eq_false h2) ?_
 refine qag <| qaa <| qaa ?_
 by_cases h3 : (sh b) < 1
 ·refine T_k mixed [(4, .gd true .no), (5, .gd true .no), (6, .gd true .no), (7, .yes true)] [.k3, .d, .n, .r] [ps 28 (bv true)] (oc (decide_eq_true h3) (oc (decide_eq_true h3) (oc (decide_eq_true h3) (oc (decide_eq_true h3) oz)))) ?_
  refine qau (b := true) rfl rfl ?_
  refine qaa ?_
  refine T_r mixed [] [ps 6 (iv 3), pb 0 3 [(iv (n + 1))]] (oz) ?_
  rw [show qbq b lv n = (3, n + 1) from by rw [qcu]; repeat (first | rw [if_pos (by omega)] | rw [if_neg (by omega)])]
  exact qai fun cx_ a_ hI_ => rt hc0 [ps 6 (iv 3), pb 0 3 [(iv (n + 1))]] [0] hI_ (hbk := by exact oc rfl (oz))
 refine T_k mixed [(4, .gd false (.no)), (5, .gd false (.no)), (6, .gd false (.no)), (7, .yes false)] [.k3, .d, .n, .r] [ps 28 (bv (decide (65536 < (sh b))))] (oc (decide_eq_false h3) (oc (decide_eq_false h3) (oc (decide_eq_false h3) (oc (decide_eq_false h3) oz)))) ?_
 by_cases h4 : 65536 < (sh b)
 ·refine T_th (decide_eq_true h4) ?_
  refine qaa ?_
  refine T_r mixed [] [ps 6 (iv 3), pb 0 3 [(iv (n + 1))]] (oz) ?_
  rw [show qbq b lv n = (3, n + 1) from by rw [qcu]; repeat (first | rw [if_pos (by omega)] | rw [if_neg (by omega)])]
  exact qai fun cx_ a_ hI_ => rt hc0 [ps 6 (iv 3), pb 0 3 [(iv (n + 1))]] [0] hI_ (hbk := by exact oc rfl (oz))
 refine T_el (decide_eq_false h4) ?_
 refine qag <| qaa <| qaa ?_
 refine T_k mixed [] [.k3, .d, .n, .r] [ps 30 (iv (kd b))] (oz) ?_
 refine qan <| qaa <| qaa ?_
 refine T_k mixed [] [.k4, .n, .r] [ps 31 (bv (decide ((kd b) = 1)))] (oz) ?_
 by_cases h5 : (kd b) = 1
 ·refine T_th (decide_eq_true h5) ?_
  refine qag ?_
  refine T_th (decide_eq_true h5) ?_
  refine qaa <| qaa ?_
  refine T_r mixed [] [ps 38 (bv (decide (0 < (((kids b).length : Nat) : Int)))), pb 0 3 [(iv (n + 1))]] (oz) ?_
  by_cases h6 : 0 < (((kids b).length : Nat) : Int)
  ·refine T_th (decide_eq_true h6) ?_
   refine qaa ?_
   refine T_k mixed [] [.n, .d, .r] [ps 6 (iv 5)] (oz) ?_
   rw [show qbq b lv n = (5, n + 1) from by rw [qcu]; repeat (first | rw [if_pos (by omega)] | rw [if_neg (by omega)])]
   exact qai fun cx_ a_ hI_ => rt hc0 [ps 6 (iv 5), pb 0 3 [(iv (n + 1))]] [0] hI_ (hbk := by exact oc rfl (oz))
  refine T_el (decide_eq_false h6) ?_
  refine qag <| qaa ?_
  refine T_k mixed [] [.n, .d, .r] [ps 6 (iv 0)] (oz) ?_
  rw [show qbq b lv n = (0, n + 1) from by rw [qcu]; repeat (first | rw [if_pos (by omega)] | rw [if_neg (by omega)])]
  exact qai fun cx_ a_ hI_ => rt hc0 [ps 6 (iv 0), pb 0 3 [(iv (n + 1))]] [0] hI_ (hbk := by exact oc rfl (oz))
 refine T_el (decide_eq_false h5) ?_
 refine qaa ?_
 refine T_k mixed [] [.k4, .d, .n, .r] [ps 31 (bv (decide ((kd b) = 2)))] (oz) ?_
 by_cases h7 : (kd b) = 2
 ·refine T_th (decide_eq_true h7) ?_
  refine qag ?_
  refine T_th (decide_eq_true h7) ?_
  refine qaa <| qaa ?_
  refine T_r mixed [] [ps 38 (bv (decide (0 < (((kids b).length : Nat) : Int)))), pb 0 3 [(iv (n + 1))]] (oz) ?_
  by_cases h8 : 0 < (((kids b).length : Nat) : Int)
  ·refine T_th (decide_eq_true h8) ?_
   refine qaa ?_
   refine T_k mixed [] [.n, .d, .r] [ps 6 (iv 5)] (oz) ?_
   rw [show qbq b lv n = (5, n + 1) from by rw [qcu]; repeat (first | rw [if_pos (by omega)] | rw [if_neg (by omega)])]
   exact qai fun cx_ a_ hI_ => rt hc0 [ps 6 (iv 5), pb 0 3 [(iv (n + 1))]] [0] hI_ (hbk := by exact oc rfl (oz))
  refine T_el (decide_eq_false h8) ?_
  refine qag <| qaa ?_
  refine T_k mixed [] [.n, .d, .r] [ps 6 (iv 0)] (oz) ?_
  rw [show qbq b lv n = (0, n + 1) from by rw [qcu]; repeat (first | rw [if_pos (by omega)] | rw [if_neg (by omega)])]
  exact qai fun cx_ a_ hI_ => rt hc0 [ps 6 (iv 0), pb 0 3 [(iv (n + 1))]] [0] hI_ (hbk := by exact oc rfl (oz))
 refine T_el (decide_eq_false h7) ?_
 refine T_k mixed [] [.k4, .d, .n, .r] [ps 31 (bv (decide ((kd b) = 3)))] (oz) ?_
 by_cases h9 : (kd b) = 3
 ·refine T_th (decide_eq_true h9) ?_
  refine qaa <| qaa ?_
  refine T_r mixed [] [ps 38 (bv (decide (0 < (((kids b).length : Nat) : Int)))), pb 0 3 [(iv (n + 1))]] (oz) ?_
  by_cases h10 : 0 < (((kids b).length : Nat) : Int)
  ·refine T_th (decide_eq_true h10) ?_
   refine qaa ?_
   refine T_k mixed [] [.n, .d, .r] [ps 6 (iv 5)] (oz) ?_
   rw [show qbq b lv n = (5, n + 1) from by rw [qcu]; repeat (first | rw [if_pos (by omega)] | rw [if_neg (by omega)])]
   exact qai fun cx_ a_ hI_ => rt hc0 [ps 6 (iv 5), pb 0 3 [(iv (n + 1))]] [0] hI_ (hbk := by exact oc rfl (oz))
  refine T_el (decide_eq_false h10) ?_
  refine qag <| qaa ?_
  refine T_k mixed [] [.n, .d, .r] [ps 6 (iv 0)] (oz) ?_
  rw [show qbq b lv n = (0, n + 1) from by rw [qcu]; repeat (first | rw [if_pos (by omega)] | rw [if_neg (by omega)])]
  exact qai fun cx_ a_ hI_ => rt hc0 [ps 6 (iv 0), pb 0 3 [(iv (n + 1))]] [0] hI_ (hbk := by exact oc rfl (oz))
 refine T_el (decide_eq_false h9) ?_
 refine qaa ?_
 refine T_k mixed [] [.k3, .d, .d, .n, .r] [ps 39 (bv (decide ((kd b) = 4)))] (oz) ?_
 by_cases h11 : (kd b) = 4
 ·refine T_th (decide_eq_true h11) ?_
  refine qaa ?_
  refine T_k mixed [] [.k3, .d, .n, .r] [ps 44 (bv (decide ((((kids b).length : Nat) : Int) = 0)))] (oz) ?_
  by_cases h12 : (((kids b).length : Nat) : Int) = 0
  ·refine T_th (decide_eq_true h12) ?_
   refine qaa ?_
   refine T_r mixed [] [ps 6 (iv 5), pb 0 3 [(iv (n + 1))]] (oz) ?_
   rw [show qbq b lv n = (5, n + 1) from by rw [qcu]; repeat (first | rw [if_pos (by omega)] | rw [if_neg (by omega)])]
   exact qai fun cx_ a_ hI_ => rt hc0 [ps 6 (iv 5), pb 0 3 [(iv (n + 1))]] [0] hI_ (hbk := by exact oc rfl (oz))
  refine T_el (decide_eq_false h12) ?_
  refine qag <| qbg <| qaa <| qaa ?_
  refine T_k mixed [] [.k2, .d, .d, .n, .n, .n, .k1, .d] [ps 46 (.ssl (kc b) 0 ((kids b).length)), ps 47 (nv ((kids b).length)), ps 48 (iv 0)] (oz) ?_
  refine qan ?_
  refine qcm (α := {x : Nat × Int // x.1 ≤ (kids b).length ∧ 0 ≤ x.2 ∧ x.2 ≤ 4096 ∧ ((x.1 : Nat) : Int) ≤ x.2 ∧ qer ((kids b).drop x.1) (lv + 1) x.2 = qer (kids b) (lv + 1) (n + 1)}) (fun x => [ps 1 (iv lv), ps 2 (.opt 0 0), ps 46 (.ssl (kc b) 0 ((kids b).length)), ps 47 (nv ((kids b).length)), ps 48 (nv x.1.1), pb 0 3 [(iv x.1.2)]]) (fun x => (kids b).length - x.1.1) 1 ⟨(0, n + 1), ⟨Nat.zero_le _, by omega, by omega, by omega, rfl⟩⟩ (Wk.ren2 [ps 1 (iv lv), ps 2 (.opt 0 0), ps 46 (.ssl (kc b) 0 ((kids b).length)), ps 47 (nv ((kids b).length)), ps 48 (nv 0), pb 0 3 [(iv (n + 1))]] 1 hc0 [0] rfl rfl (by kernel_rfl) (by kernel_rfl)) ?_
  rintro ⟨⟨i, s⟩, ⟨hi, hs0, hs1, hsi, hL⟩⟩
  dsimp only at hi hs0 hs1 hsi hL
  refine qaa ?_
  refine T_r mixed [] [ps 1 (iv lv), ps 2 (.opt 0 0), ps 46 (.ssl (kc b) 0 ((kids b).length)), ps 47 (nv ((kids b).length)), ps 48 (nv i), ps 49 (bv (decide (((i : Nat) : Int) < (((kids b).length : Nat) : Int)))), pb 0 3 [(iv s)]] (oz) ?_
  refine qaa ?_
  by_cases h13 : ((i : Nat) : Int) < (((kids b).length : Nat) : Int)
  ·refine T_th (decide_eq_true h13) ?_
   refine qag <| qaa <| qan <| qaa ?_
   refine T_k mixed [(0, .nat (i * 3)), (1, .cells [(iv (kd ((kids b).getD i dB))), (iv (sh ((kids b).getD i dB))), (.ssl (kc ((kids b).getD i dB)) 0 ((kids ((kids b).getD i dB)).length))])] [.k2, .n, .k3, .d, .k1, .n] [ps 8 (.opt 25 0), pb 25 125 [(iv (kd ((kids b).getD i dB))), (iv (sh ((kids b).getD i dB))), (.ssl (kc ((kids b).getD i dB)) 0 ((kids ((kids b).getD i dB)).length))]] (oc (by omega : (0 : Int) ≤ ((i : Nat) : Int) ∧ ((i : Nat) : Int) < (((kids b).length : Nat) : Int)) (oc (by omega : 0 + (((i : Nat) : Int) : Int).toNat * 3 = (i * 3)) (oc (kc_at b i 0 3 (by omega) (by decide) : (i * 3) + 3 ≤ ((kc b)).length ∧ (((kc b)).drop (i * 3)).take 3 = [(iv (kd ((kids b).getD i dB))), (iv (sh ((kids b).getD i dB))), (.ssl (kc ((kids b).getD i dB)) 0 ((kids ((kids b).getD i dB)).length))]) oz))) ?_
   refine qaa ?_
   have hok := qsm ((kids b).getD i dB) (lv + 1) s hs0 hs1
   have hcp := cnt_pos ((kids b).getD i dB)
   refine T_k mixed [(4, .call [0] [(.agg [(iv (kd ((kids b).getD i dB))), (iv (sh ((kids b).getD i dB))), (.ssl (kc ((kids b).getD i dB)) 0 ((kids ((kids b).getD i dB)).length))]), (iv (lv + 1)), (.opt 0 0)] [some (3, [(iv s)])] (iv ((qbq ((kids b).getD i dB) (lv + 1) s).1)) [some (3, [(iv ((qbq ((kids b).getD i dB) (lv + 1) s).2))])])] [.k2, .d, .n, .k3, .d, .n, .d] [ps 9 (iv ((qbq ((kids b).getD i dB) (lv + 1) s).1)), pb 0 3 [(iv ((qbq ((kids b).getD i dB) (lv + 1) s).2))]] (oc (by simp only [InK]; omega : InK .i64 (lv + 1)) (oc (ih ((kids b).getD i dB) (kids_lt (by omega)) (lv + 1) s (by omega) (by omega) (by omega) (by omega)) (oc (rfl : [(.agg [(iv (kd ((kids b).getD i dB))), (iv (sh ((kids b).getD i dB))), (.ssl (kc ((kids b).getD i dB)) 0 ((kids ((kids b).getD i dB)).length))]), (iv (lv + 1)), (.opt 0 0)] = renL (sigi [0] 73) [(.agg [(iv (kd ((kids b).getD i dB))), (iv (sh ((kids b).getD i dB))), (.ssl (kc ((kids b).getD i dB)) 0 ((kids ((kids b).getD i dB)).length))]), (iv (lv + 1)), (.opt 0 0)]) (oc (rfl : [(iv s)] = renL (sigi [0] 73) [(iv s)]) oz)))) ?_
   refine qaa ?_
   refine T_k mixed [] [.k6, .n, .r] [ps 58 (bv (!(decide (((qbq ((kids b).getD i dB) (lv + 1) s).1) = 0))))] (oz) ?_
   by_cases h14 : ((qbq ((kids b).getD i dB) (lv + 1) s).1) = 0
   ·refine T_el (bt h14) ?_
    refine qag <| qbg ?_
    refine T_k mixed [] [.k2, .d, .k2, .d, .n, .d, .r] [ps 48 (iv (((i : Nat) : Int) + 1))] (oc (by simp only [InK]; omega : InK .i64 (((i : Nat) : Int) + 1)) oz) ?_
    exact qce ⟨(i + 1, (qbq ((kids b).getD i dB) (lv + 1) s).2), ⟨by omega, by omega, (hok.2.2 h14).1, by have := (hok.2.2 h14).2.1; omega, (qxp (by omega) h14).trans hL⟩⟩ (Wk.ren2 [ps 1 (iv lv), ps 2 (.opt 0 0), ps 46 (.ssl (kc b) 0 ((kids b).length)), ps 47 (nv ((kids b).length)), ps 48 (nv (i + 1)), pb 0 3 [(iv ((qbq ((kids b).getD i dB) (lv + 1) s).2))]] 1 hc0 [0] rfl rfl (by kernel_rfl) (by kernel_rfl)) (show (kids b).length - (i + 1) < (kids b).length - i from by show (kids b).length - (i + 1) < (kids b).length - i; omega)
   refine T_th (bf h14) ?_
   refine qaa ?_
   refine T_k mixed [] [.d, .d, .n, .d, .d, .d, .d, .d, .r] [ps 6 (iv ((qbq ((kids b).getD i dB) (lv + 1) s).1))] (oz) ?_
   rw [qxo (by omega) h14] at hL
   rw [show qbq b lv n = qbq ((kids b).getD i dB) (lv + 1) s from by rw [qcu, hL]; repeat (first | rw [if_pos (by omega)] | rw [if_neg (by omega)])]
   exact qai fun cx_ a_ hI_ => qav (rt hc0 [ps 6 (iv ((qbq ((kids b).getD i dB) (lv + 1) s).1)), pb 0 3 [(iv ((qbq ((kids b).getD i dB) (lv + 1) s).2))]] [0] hI_ (hbk := by exact oc rfl (oz)))
  refine T_el (decide_eq_false h13) ?_
  refine qbu rfl rfl ?_
  refine qaa ?_
  refine T_r mixed [] [ps 6 (iv 0), pb 0 3 [(iv s)]] (oz) ?_
  obtain rfl : i = (kids b).length := by omega
  rw [List.drop_length, qer] at hL
  rw [show qbq b lv n = (0, s) from by rw [qcu, hL]; repeat (first | rw [if_pos (by omega)] | rw [if_neg (by omega)])]
  exact qai fun cx_ a_ hI_ => rt hc0 [ps 6 (iv 0), pb 0 3 [(iv s)]] [0] hI_ (hbk := by exact oc rfl (oz))
 refine T_el (decide_eq_false h11) ?_
 refine qaa ?_
 refine T_r mixed [] [ps 6 (iv 1), pb 0 3 [(iv (n + 1))]] (oz) ?_
 rw [show qbq b lv n = (1, n + 1) from by rw [qcu]; repeat (first | rw [if_pos (by omega)] | rw [if_neg (by omega)])]
 exact qai fun cx_ a_ hI_ => rt hc0 [ps 6 (iv 1), pb 0 3 [(iv (n + 1))]] [0] hI_ (hbk := by exact oc rfl (oz))
theorem qva : ∀ (m : Nat) (b : Beat), SizeOf.sizeOf b < m → ∀ (lv n : Int), 1 ≤ lv → lv ≤ 33 → 0 ≤ n → n ≤ 4096 → PC Tryz.prog 131 [.agg (gB b), iv lv, .opt 0 0] [some (3, [iv n])] (iv (qbq b lv n).1) [some (3, [iv (qbq b lv n).2])]
 | 0, _, h => absurd h (Nat.not_lt_zero _)
 | m + 1, b, h => fun lv n h1 h2 h3 h4 => look_step b (fun b2 hb => qva m b2 (by omega)) lv n h1 h2 h3 h4
theorem look_pc (b : Beat) (lv n : Int) (h1 : 1 ≤ lv) (h2 : lv ≤ 33) (h3 : 0 ≤ n) (h4 : n ≤ 4096) : PC Tryz.prog 131 [.agg (gB b), iv lv, .opt 0 0] [some (3, [iv n])] (iv (qbq b lv n).1) [some (3, [iv (qbq b lv n).2])] := qva _ b (Nat.lt_succ_self _) lv n h1 h2 h3 h4
set_option maxRecDepth 100000 in
set_option maxHeartbeats 4000000 in
theorem wrong_pc (b : Beat) : PC Tryz.prog 100 [(.agg [(iv (kd b)), (iv (sh b)), (.ssl (kc b) 0 ((kids b).length))])] [] (iv (qes b)) [] := by
 refine qas Tryz.func100 rfl (by kernel_rfl) (Nat.le_of_ble_eq_true rfl) (by kernel_rfl) (l0 := [ps 0 (.agg [(iv (kd b)), (iv (sh b)), (.ssl (kc b) 0 ((kids b).length))])]) rfl (fun c0 Bor hc0 => ?_)
 refine qaa ?_
 refine T_r mixed [] [ps 1 (.opt 0 0), pb 0 125 [(iv (kd b)), (iv (sh b)), (.ssl (kc b) 0 ((kids b).length))]] (oz) ?_
 refine qaa ?_
 refine T_k mixed [] [.k1, .n, .k1, .n] [ps 3 (.opt 16 0), pb 16 3 [(iv 0)]] (oz) ?_
 refine qaa ?_
 refine T_r mixed [(1, .call [16] [(.agg [(iv (kd b)), (iv (sh b)), (.ssl (kc b) 0 ((kids b).length))]), (iv 1), (.opt 0 0)] [some (3, [(iv 0)])] (iv ((qbq b (1) 0).1)) [some (3, [(iv ((qbq b (1) 0).2))])])] [ps 2 (iv ((qbq b (1) 0).1))] (oc (look_pc b 1 0 (by decide) (by decide) (by decide) (by decide)) (oc (rfl : [(.agg [(iv (kd b)), (iv (sh b)), (.ssl (kc b) 0 ((kids b).length))]), (iv 1), (.opt 16 0)] = renL (sigi [16] 40) [(.agg [(iv (kd b)), (iv (sh b)), (.ssl (kc b) 0 ((kids b).length))]), (iv 1), (.opt 0 0)]) (oc (rfl : [(iv 0)] = renL (sigi [16] 40) [(iv 0)]) oz))) ?_
 exact qai fun cx_ a_ hI_ => rt hc0 [ps 2 (iv ((qbq b (1) 0).1))] [] hI_
end Go.Proofs.YtmlnilkbolcknaaGreatDoor.Pm
namespace Go.Proofs.YtmlnilkbolcknaaGreatDoor.Pm
open Go Fr Gcd

theorem qfd {α : Type} (f : α → List PV) (s : Nat) (hf : ∀ x, (f x).length = s) (d : α) : ∀ (l : List α) (k j : Nat) (ps : List PV) (v : α), k < l.length → j + ps.length ≤ s → f v = qcj (f (l.getD k d)) j ps →
  k * s + j + ps.length ≤ (l.flatMap f).length ∧ qcj (l.flatMap f) (k * s + j) ps = (l.set k v).flatMap f
 | x :: l, 0, j, ps, v, _, hj, hv => by
  have hx := hf x
  refine ⟨by rw [qcz f s hf, List.length_cons, Nat.succ_mul]; omega, ?_⟩
  rw [List.set_cons_zero, List.flatMap_cons, List.flatMap_cons, hv]
  simp only [List.getD_cons_zero, Nat.zero_mul, Nat.zero_add, qcj]
  rw [List.take_append_of_le_length (by omega), List.drop_append_of_le_length (by omega)]
  simp only [List.append_assoc]
 | x :: l, k + 1, j, ps, v, hk, hj, hv => by
  have hx := hf x
  obtain ⟨h1, h2⟩ := qfd f s hf d l k j ps v (by simpa using hk) hj (by simpa using hv)
  refine ⟨by rw [List.flatMap_cons, List.length_append, hx, Nat.succ_mul]; omega, ?_⟩
  rw [List.set_cons_succ, List.flatMap_cons, List.flatMap_cons, ← h2]
  simp only [qcj]
  rw [show (k + 1) * s + j = (f x).length + (k * s + j) from by rw [Nat.succ_mul]; omega, List.take_length_add_append, Nat.add_assoc (f x).length, List.drop_length_add_append]
  simp only [List.append_assoc]
theorem qoq (L : List Sp) (u d : Int) (h : 0 < L.length) : (L.length - 1) * 5 + 2 + 2 ≤ (spans L).length ∧ qcj (spans L) ((L.length - 1) * 5 + 2) [iv u, iv d] = spans (longer L u d) :=
 qfd spC 5 (fun _ => rfl) dS L (L.length - 1) 2 [iv u, iv d] _ (by omega) (show 2 + 2 ≤ 5 by decide) rfl
theorem qif {u d : Int} (h : rightB u d = true) : I64 u ∧ I64 d := by
 have := rightB_iff.1 h
 unfold Fr.I64
 omega
/-- The spans so far are right. -/
def okSt (L : List Sp) (a b : Int) : Prop := rightB a b = true ∧ ∀ i, i < L.length → rightB (L.getD i dS).2.2.1 (L.getD i dS).2.2.2.1 = true
theorem qqh {a b u d : Int} (h : (plus a b u d).2.2 = 0) : rightB (plus a b u d).1 (plus a b u d).2.1 = true := by
 have := plus_ok (show plus a b u d = ((plus a b u d).1, (plus a b u d).2.1, 0) from by rw [← h])
 exact this.2.2.1
theorem qkl {a b u d : Int} (h : (times a b u d).2.2 = 0) : rightB (times a b u d).1 (times a b u d).2.1 = true := by
 have := times_ok (show times a b u d = ((times a b u d).1, (times a b u d).2.1, 0) from by rw [← h])
 exact this.2.2.1
theorem make_r {u d : Int} (h : (make u d).2.2 = 0) : rightB (make u d).1 (make u d).2.1 = true := by
 have := qsl (show make u d = ((make u d).1, (make u d).2.1, 0) from by rw [← h])
 exact this.2.1
theorem qxq {L : List Sp} {u d : Int} {i : Nat} (h : 0 < L.length) : (longer L u d).getD i dS = if i = L.length - 1 then ((L.getD (L.length - 1) dS).1, (L.getD (L.length - 1) dS).2.1, u, d, (L.getD (L.length - 1) dS).2.2.2.2) else L.getD i dS := by
 unfold longer
 rw [List.getD_eq_getElem?_getD, List.getElem?_set]
 by_cases e : i = L.length - 1
 ·subst e; rw [if_pos rfl, if_pos (by omega), if_pos rfl]; rfl
 ·rw [if_neg (Ne.symm e), if_neg e, List.getD_eq_getElem?_getD]
theorem leaf_st {k u d : Int} {L : List Sp} {a b : Int} (h : okSt L a b) (hr : rightB u d = true) (h0 : (qbm k u d L a b).1 = 0) : okSt (qbm k u d L a b).2.1 (qbm k u d L a b).2.2.1 (qbm k u d L a b).2.2.2 := by
 unfold qbm at h0 ⊢
 by_cases c1 : (plus a b u d).2.2 = 0
 ·rw [if_pos c1] at h0 ⊢
  by_cases c2 : k = 3 ∧ 0 < L.length
  ·rw [if_pos c2] at h0 ⊢
   dsimp only at h0 ⊢
   by_cases c3 : (plus (L.getD (L.length - 1) dS).2.2.1 (L.getD (L.length - 1) dS).2.2.2.1 u d).2.2 = 0
   ·rw [if_pos c3] at h0 ⊢
    refine ⟨qqh c1, fun i hi => ?_⟩
    simp only [qgm] at hi
    rw [qxq c2.2]
    split
    ·exact qqh c3
    ·exact h.2 i hi
   ·rw [if_neg c3] at h0
    exact absurd h0 c3
  ·rw [if_neg c2]
   refine ⟨qqh c1, fun i hi => ?_⟩
   simp only [List.length_append, List.length_cons, List.length_nil] at hi
   by_cases e : i < L.length
   ·rw [List.getD_eq_getElem?_getD, List.getElem?_append_left e, ← List.getD_eq_getElem?_getD]
    exact h.2 i e
   ·rw [List.getD_eq_getElem?_getD, List.getElem?_append_right (by omega), show i - L.length = 0 by omega]
    exact hr
 ·rw [if_neg c1] at h0
  exact absurd h0 c1
mutual
theorem qnz : ∀ (b : Beat) (u d : Int) (st : StS), rightB u d = true → okSt st.1 st.2.1 st.2.2 → (qah b u d st).1 = 0 → okSt (qah b u d st).2.1 (qah b u d st).2.2.1 (qah b u d st).2.2.2
 | .mk k s l, u, d, st, hr, hs, h0 => by
  rw [qah] at h0 ⊢
  by_cases c : k = 4
  ·rw [if_pos c] at h0 ⊢
   exact qpx l (qaf l) u d st hr hs h0
  ·rw [if_neg c] at h0 ⊢
   exact leaf_st hs hr h0
theorem qpx : ∀ (l : List Beat) (all u d : Int) (st : StS), rightB u d = true → okSt st.1 st.2.1 st.2.2 → (qbx l all u d st).1 = 0 → okSt (qbx l all u d st).2.1 (qbx l all u d st).2.2.1 (qbx l all u d st).2.2.2
 | [], _, _, _, st, hr, hs, h0 => by rw [qbx]; exact hs
 | b :: l, all, u, d, st, hr, hs, h0 => by
  rw [qbx] at h0 ⊢
  by_cases c1 : (make (sh b) all).2.2 = 0
  ·rw [if_pos c1] at h0 ⊢
   by_cases c2 : (times (make (sh b) all).1 (make (sh b) all).2.1 u d).2.2 = 0
   ·rw [if_pos c2] at h0 ⊢
    dsimp only at h0 ⊢
    by_cases c3 : (qah b (times (make (sh b) all).1 (make (sh b) all).2.1 u d).1 (times (make (sh b) all).1 (make (sh b) all).2.1 u d).2.1 st).1 = 0
    ·rw [if_pos c3] at h0 ⊢
     exact qpx l all u d _ hr (qnz b _ _ st (qkl c2) hs c3) h0
    ·rw [if_neg c3] at h0
     exact absurd h0 c3
   ·rw [if_neg c2] at h0
    exact absurd h0 c2
  ·rw [if_neg c1] at h0
   exact absurd h0 c1
end
end Go.Proofs.YtmlnilkbolcknaaGreatDoor.Pm
namespace Go.Proofs.YtmlnilkbolcknaaGreatDoor.Pm
open Go Fr

/-- A note: voice, start, length, pitch, lyric. -/
abbrev Nt := Int × (Int × Int) × (Int × Int) × Pt × Txt
def noC (n : Nt) : List PV := [iv n.1, iv n.2.1.1, iv n.2.1.2, iv n.2.2.1.1, iv n.2.2.1.2, iv n.2.2.2.1.1, iv n.2.2.2.1.2.1, iv n.2.2.2.1.2.2, sv (st n.2.2.2.2)]
def nos (l : List Nt) : List PV := l.flatMap noC
abbrev dNt : Nt := (0, (0, 0), (0, 0), (0, 0, 0), [])
theorem qal (l : List Nt) : shds (nos l) := qek noC (fun _ => rfl) l
theorem qlh (l : List Nt) : (nos l).length = l.length * 9 := qcz noC 9 (fun _ => rfl) l
abbrev Iv := Int × Int
abbrev dIv : Iv := (0, 0)
def ivs (l : List Iv) : List PV := l.flatMap fun i => [iv i.1, iv i.2]
/-- A pitch, moved by intervals, the first one first. -/
def mvBy : Pt → List Iv → Pt × Int
 | p, [] => (p, 0)
 | p, i :: l => if (Pi.move p.1 p.2.1 p.2.2 i.1 i.2).2.2.2 = 0
  then mvBy ((Pi.move p.1 p.2.1 p.2.2 i.1 i.2).1, (Pi.move p.1 p.2.1 p.2.2 i.1 i.2).2.1, (Pi.move p.1 p.2.1 p.2.2 i.1 i.2).2.2.1) l
  else (((Pi.move p.1 p.2.1 p.2.2 i.1 i.2).1, (Pi.move p.1 p.2.1 p.2.2 i.1 i.2).2.1, (Pi.move p.1 p.2.1 p.2.2 i.1 i.2).2.2.1), (Pi.move p.1 p.2.1 p.2.2 i.1 i.2).2.2.2)
theorem mvBy_at {p : Pt} {l : List Iv} {i : Nat} (h : i < l.length) : mvBy p (l.drop i) = if (Pi.move p.1 p.2.1 p.2.2 (l.getD i dIv).1 (l.getD i dIv).2).2.2.2 = 0
  then mvBy ((Pi.move p.1 p.2.1 p.2.2 (l.getD i dIv).1 (l.getD i dIv).2).1, (Pi.move p.1 p.2.1 p.2.2 (l.getD i dIv).1 (l.getD i dIv).2).2.1, (Pi.move p.1 p.2.1 p.2.2 (l.getD i dIv).1 (l.getD i dIv).2).2.2.1) (l.drop (i + 1))
  else (((Pi.move p.1 p.2.1 p.2.2 (l.getD i dIv).1 (l.getD i dIv).2).1, (Pi.move p.1 p.2.1 p.2.2 (l.getD i dIv).1 (l.getD i dIv).2).2.1, (Pi.move p.1 p.2.1 p.2.2 (l.getD i dIv).1 (l.getD i dIv).2).2.2.1), (Pi.move p.1 p.2.1 p.2.2 (l.getD i dIv).1 (l.getD i dIv).2).2.2.2) := by
 rw [List.drop_eq_getElem_cons h, List.getD_eq_getElem?_getD, List.getElem?_eq_getElem h, mvBy]; rfl
/-- The pitches of a chord, moved, as notes. -/
def qca (v : Int) (s g : Int × Int) (ly : Txt) (by_ : List Iv) : List Pt → List Nt → List Nt × Int
 | [], N => (N, 0)
 | p :: ps, N => if (mvBy p by_).2 = 0 then qca v s g ly by_ ps (N ++ [(v, s, g, (mvBy p by_).1, ly)]) else (N, (mvBy p by_).2)
theorem qwf {v : Int} {s g : Int × Int} {ly : Txt} {by_ : List Iv} {ps : List Pt} {N : List Nt} {i : Nat} (h : i < ps.length) : qca v s g ly by_ (ps.drop i) N =
  if (mvBy (ps.getD i dPt) by_).2 = 0 then qca v s g ly by_ (ps.drop (i + 1)) (N ++ [(v, s, g, (mvBy (ps.getD i dPt) by_).1, ly)]) else (N, (mvBy (ps.getD i dPt) by_).2) := by
 rw [List.drop_eq_getElem_cons h, List.getD_eq_getElem?_getD, List.getElem?_eq_getElem h, qca]; rfl
def setG (n : Nt) (u d : Int) : Nt := (n.1, n.2.1, (u, d), n.2.2.2)
/-- The last notes, made longer. -/
def tieL (u d : Int) : List Nt → List Nt × Int
 | [] => ([], 0)
 | n :: l => if (plus n.2.2.1.1 n.2.2.1.2 u d).2.2 = 0
  then (setG n (plus n.2.2.1.1 n.2.2.1.2 u d).1 (plus n.2.2.1.1 n.2.2.1.2 u d).2.1 :: (tieL u d l).1, (tieL u d l).2)
  else (setG n (plus n.2.2.1.1 n.2.2.1.2 u d).1 (plus n.2.2.1.1 n.2.2.1.2 u d).2.1 :: l, (plus n.2.2.1.1 n.2.2.1.2 u d).2.2)
/-- From a place on, tied. -/
def tieF (u d : Int) (N : List Nt) (i : Nat) : List Nt × Int := (N.take i ++ (tieL u d (N.drop i)).1, (tieL u d (N.drop i)).2)
theorem qyu {u d : Int} {N : List Nt} {i : Nat} (h : i < N.length) : tieF u d N i =
  if (plus (N.getD i dNt).2.2.1.1 (N.getD i dNt).2.2.1.2 u d).2.2 = 0
  then tieF u d (N.set i (setG (N.getD i dNt) (plus (N.getD i dNt).2.2.1.1 (N.getD i dNt).2.2.1.2 u d).1 (plus (N.getD i dNt).2.2.1.1 (N.getD i dNt).2.2.1.2 u d).2.1)) (i + 1)
  else (N.set i (setG (N.getD i dNt) (plus (N.getD i dNt).2.2.1.1 (N.getD i dNt).2.2.1.2 u d).1 (plus (N.getD i dNt).2.2.1.1 (N.getD i dNt).2.2.1.2 u d).2.1), (plus (N.getD i dNt).2.2.1.1 (N.getD i dNt).2.2.1.2 u d).2.2) := by
 have e : N.getD i dNt = N[i] := by rw [List.getD_eq_getElem?_getD, List.getElem?_eq_getElem h]; rfl
 rw [e]
 unfold tieF
 rw [List.drop_eq_getElem_cons h, tieL]
 split
 ·rw [List.take_succ_eq_append_getElem (by rw [List.length_set]; exact h), List.getElem_set_self, List.take_set_of_le (Nat.le_refl i), List.drop_set_of_lt (Nat.lt_succ_self i)]
  simp
 ·rw [List.set_eq_take_append_cons_drop, if_pos h]
theorem tieF_end {u d : Int} {N : List Nt} {i : Nat} (h : N.length ≤ i) : tieF u d N i = (N, 0) := by
 unfold tieF
 rw [List.drop_eq_nil_of_le h, List.take_of_length_le h, tieL]
 simp
theorem qsn (N : List Nt) (i : Nat) (u d : Int) (h : i < N.length) : i * 9 + 3 + 2 ≤ (nos N).length ∧ qcj (nos N) (i * 9 + 3) [iv u, iv d] = nos (N.set i (setG (N.getD i dNt) u d)) :=
 qfd noC 9 (fun _ => rfl) dNt N i 3 [iv u, iv d] _ h (show 3 + 2 ≤ 9 by decide) rfl
theorem set_far {N : List Nt} {i q : Nat} {n : Nt} (h : i ≠ q) : (N.set i n).getD q dNt = N.getD q dNt := by
 rw [List.getD_eq_getElem?_getD, List.getElem?_set_ne h, List.getD_eq_getElem?_getD]
abbrev TsS := List Nt × Nat × Nat
/-- An item that stands at the next span. -/
def qar (v a b : Int) (S : List Sp) (x : It) (by_ : List Iv) (t : TsS) : Int × TsS :=
 if (plus a b (S.getD t.2.2 dS).1 (S.getD t.2.2 dS).2.1).2.2 = 0 then
  if iK x = 2 then (0, t.1, 0, t.2.2 + 1)
  else if iK x = 3 then ((tieF (S.getD t.2.2 dS).2.2.1 (S.getD t.2.2 dS).2.2.2.1 t.1 (t.1.length - t.2.1)).2, (tieF (S.getD t.2.2 dS).2.2.1 (S.getD t.2.2 dS).2.2.2.1 t.1 (t.1.length - t.2.1)).1, t.2.1, t.2.2 + 1)
  else
   let c := qca v ((plus a b (S.getD t.2.2 dS).1 (S.getD t.2.2 dS).2.1).1, (plus a b (S.getD t.2.2 dS).1 (S.getD t.2.2 dS).2.1).2.1) ((S.getD t.2.2 dS).2.2.1, (S.getD t.2.2 dS).2.2.2.1) (iL x) by_ (iP x) t.1
   (c.2, c.1, if c.2 = 0 then (iP x).length else t.2.1, t.2.2 + 1)
 else ((plus a b (S.getD t.2.2 dS).1 (S.getD t.2.2 dS).2.1).2.2, t.1, t.2.1, t.2.2 + 1)
end Go.Proofs.YtmlnilkbolcknaaGreatDoor.Pm
namespace Go.Proofs.YtmlnilkbolcknaaGreatDoor.Pm
open Go Go.Proofs.YtmlnilkbolcknaaGreatDoor.Pi

abbrev M4P (r : Int × Int × Int × Int) : PV := .tup [.agg [iv r.1, iv r.2.1, iv r.2.2.1], iv r.2.2.2]
theorem zaa (l a o : Int) (h : rightB l a o = true) : PC Tryz.prog 154 [pitP l a o] [] (iv (Pi.steps l o)) [] :=
 qcc (qdo Tryz.func154 (by kernel_rfl) (by kernel_rfl)) rfl rfl fun w => qyw l a o w h
theorem qne (l a o : Int) (ha : -1000000 ≤ a ∧ a ≤ 1000000) (ho : -1000000 ≤ o ∧ o ≤ 1000000) : PC Tryz.prog 155 [pitP l a o] [] (iv (Pi.halves l a o)) [] :=
 qcc (qdo Tryz.func155 (by kernel_rfl) (by kernel_rfl)) rfl rfl fun w => qxu l a o w ha ho
theorem qob (l a o : Int) (h : rightB l a o = true) : PC Tryz.prog 52 [pitP l a o] [] (iv (Pi.steps l o)) [] :=
 qcc (qdo Tryz.func52 (by kernel_rfl) (by kernel_rfl)) rfl rfl fun w => qhw l a o w h
theorem qmm (l a o : Int) (h : rightB l a o = true) : PC Tryz.prog 53 [pitP l a o] [] (iv (Pi.halves l a o)) [] :=
 qcc (qdo Tryz.func53 (by kernel_rfl) (by kernel_rfl)) rfl rfl fun w => qmn l a o w h
theorem qxe (s h : Int) (h0 : -1000 ≤ s ∧ s ≤ 1000) (h1 : -100000 ≤ h ∧ h ≤ 100000) : PC Tryz.prog 51 [iv s, iv h] [] (.tup [.agg [iv (s % 7), iv (h - qcp s), iv (s / 7)], bv (rightB (s % 7) (h - qcp s) (s / 7))]) [] :=
 qcc (qdo Tryz.func51 (by kernel_rfl) (by kernel_rfl)) rfl rfl fun w => qxf s h w h0 h1
end Go.Proofs.YtmlnilkbolcknaaGreatDoor.Pm
namespace Go.Proofs.YtmlnilkbolcknaaGreatDoor.Pm
open Go Go.Proofs.YtmlnilkbolcknaaGreatDoor.Pi

set_option maxRecDepth 100000 in
set_option maxHeartbeats 4000000 in
theorem move_pc0 (l a o s h : Int) (is : Pi.I64 s) (ih : Pi.I64 h) : PC Tryz.prog 134 [(.agg [(iv l), (iv a), (iv o)]), (.agg [(iv s), (iv h)])] [] (M4P (Pi.move l a o s h)) [none] := by
 refine qas Tryz.func134 rfl (by kernel_rfl) (Nat.le_of_ble_eq_true rfl) (by kernel_rfl) (l0 := [ps 0 (.agg [(iv l), (iv a), (iv o)]), ps 1 (.agg [(iv s), (iv h)])]) rfl (fun c0 Bor hc0 => ?_)
 refine qaa ?_
 refine T_r mixed [] [ps 2 (.opt 0 0), ps 3 (.opt 8 0), ps 4 (.opt 16 0), pb 0 52 [(iv l), (iv a), (iv o)], pb 8 41 [(iv s), (iv h)], pb 16 52 [(iv 0), (iv 0), (iv 0)]] (oz) ?_
 refine qaa <| qaa ?_
 refine T_r mixed [(1, .call [] [(.agg [(iv l), (iv a), (iv o)])] [] (bv (rightB l a o)) [])] [ps 2 (.opt 0 0), ps 3 (.opt 8 0), ps 4 (.opt 16 0), ps 9 (bv (!(rightB l a o))), pb 0 52 [(iv l), (iv a), (iv o)], pb 8 41 [(iv s), (iv h)], pb 16 52 [(iv 0), (iv 0), (iv 0)]] (oc (qgc l a o) (oc (rfl : Ren0 40 [(.agg [(iv l), (iv a), (iv o)])]) oz)) ?_
 by_cases h1 : (rightB l a o) = true
 ·refine T_el (congrArg Bool.not h1) ?_
  refine qag <| qaa <| qaa ?_
  refine T_r mixed [(1, .call [] [(.agg [(iv s), (iv h)])] [] (bv (withinB s h)) [])] [ps 2 (.opt 0 0), ps 3 (.opt 8 0), ps 4 (.opt 16 0), ps 13 (bv (!(withinB s h))), pb 0 52 [(iv l), (iv a), (iv o)], pb 8 41 [(iv s), (iv h)], pb 16 52 [(iv 0), (iv 0), (iv 0)]] (oc (qnb s h is ih) (oc (rfl : Ren0 64 [(.agg [(iv s), (iv h)])]) oz)) ?_
  by_cases h2 : (withinB s h) = true
  ·refine T_el (congrArg Bool.not h2) ?_
   refine qag <| qaa ?_
   have hb := bounds h1
   have hr := rightB_iff.1 h1
   have hw := withinB_iff.1 h2
   have hq := halves_bd (Pi.steps l o + s) (by omega)
   refine T_r mixed [] [ps 2 (.opt 0 0), ps 3 (.opt 8 0), ps 4 (.opt 16 0), ps 6 (.opt 80 0), pb 0 52 [(iv l), (iv a), (iv o)], pb 8 41 [(iv s), (iv h)], pb 16 52 [(iv 0), (iv 0), (iv 0)], pb 80 52 [(iv 0), (iv 0), (iv 0)]] (oz) ?_
   refine qaa ?_
   refine T_rd mixed [(1, .call [] [(.agg [(iv l), (iv a), (iv o)])] [] (iv (Pi.steps l o)) []), (5, .call [] [(iv ((Pi.steps l o) + s)), (iv 7)] [] (.tup [(iv (((Pi.steps l o) + s) / 7)), (iv (((Pi.steps l o) + s) % 7))]) [])] [[], [0], [], [2], [0, 1, 2, 3], [0, 1, 2, 3, 4], [0, 1, 2, 3, 4, 5], [0, 1, 2, 3, 4, 5, 6], [0, 1, 2, 3, 4, 5, 6], [0, 1, 2, 3, 4, 5, 6, 7], [0, 1, 2, 3, 4, 5, 6, 7, 9], [0, 1, 2, 3, 4, 5, 6, 7, 8, 9, 10], [0, 1, 2, 3, 4, 5, 6, 7, 8, 9, 10, 11]] [([32], [1, 4]), ([34], [32]), ([36], [6]), ([38], [17, 36]), ([40], [34, 38]), ([42], [40]), ([30], [42]), ([44], [30]), ([46], [30]), ([48], [12]), ([161], [44, 48, 161]), ([50], [12]), ([161], [46, 50, 161])] [ps 2 (.opt 0 0), ps 3 (.opt 8 0), ps 4 (.opt 16 0), ps 6 (.opt 80 0), pb 0 52 [(iv l), (iv a), (iv o)], pb 8 41 [(iv s), (iv h)], pb 16 52 [(iv 0), (iv 0), (iv 0)], pb 80 52 [(iv (((Pi.steps l o) + s) % 7)), (iv 0), (iv (((Pi.steps l o) + s) / 7))]] (oc (zaa l a o h1) (oc (rfl : Ren0 96 [(.agg [(iv l), (iv a), (iv o)])]) (oc (by simp only [InK]; omega : InK .i64 ((Pi.steps l o) + s)) (oc (qgd ((Pi.steps l o) + s) (by omega) (by omega)) (oc (rfl : Ren0 128 [(iv ((Pi.steps l o) + s)), (iv 7)]) oz))))) ?_
   refine qaa ?_
   refine T_rd mixed [(1, .call [] [(.agg [(iv l), (iv a), (iv o)])] [] (iv (Pi.halves l a o)) []), (6, .call [] [(.agg [(iv (((Pi.steps l o) + s) % 7)), (iv 0), (iv (((Pi.steps l o) + s) / 7))])] [] (iv (Pi.halves (((Pi.steps l o) + s) % 7) 0 (((Pi.steps l o) + s) / 7))) [])] [[], [0], [], [2], [0, 1, 2, 3], [], [0, 1, 5], [0, 1, 2, 3, 4, 5, 6], [0, 1, 2, 3, 4, 5, 6, 7], [0, 1, 2, 3, 4, 5, 6, 7, 8]] [([52], [1, 4]), ([54], [52]), ([56], [6]), ([58], [17, 56]), ([60], [54, 58]), ([62], [12, 161]), ([64], [62]), ([66], [60, 64]), ([68], [12]), ([161], [66, 68, 161])] [ps 4 (.opt 16 0), ps 6 (.opt 80 0), pb 16 52 [(iv 0), (iv 0), (iv 0)], pb 80 52 [(iv (((Pi.steps l o) + s) % 7)), (iv (((Pi.halves l a o) + h) - (Pi.halves (((Pi.steps l o) + s) % 7) 0 (((Pi.steps l o) + s) / 7)))), (iv (((Pi.steps l o) + s) / 7))]] (oc (qne l a o (by omega) (by omega)) (oc (rfl : Ren0 200 [(.agg [(iv l), (iv a), (iv o)])]) (oc (by simp only [InK]; omega : InK .i64 ((Pi.halves l a o) + h)) (oc (qne (((Pi.steps l o) + s) % 7) 0 (((Pi.steps l o) + s) / 7) (by omega) (by omega)) (oc (rfl : Ren0 240 [(.agg [(iv (((Pi.steps l o) + s) % 7)), (iv 0), (iv (((Pi.steps l o) + s) / 7))])]) (oc (by simp only [InK]; omega : InK .i64 (((Pi.halves l a o) + h) - (Pi.halves (((Pi.steps l o) + s) % 7) 0 (((Pi.steps l o) + s) / 7)))) oz)))))) ?_
   refine qaa <| qaa ?_
   refine T_r mixed [(1, .call [] [(.agg [(iv (((Pi.steps l o) + s) % 7)), (iv (((Pi.halves l a o) + h) - (Pi.halves (((Pi.steps l o) + s) % 7) 0 (((Pi.steps l o) + s) / 7)))), (iv (((Pi.steps l o) + s) / 7))])] [] (bv (rightB (((Pi.steps l o) + s) % 7) (((Pi.halves l a o) + h) - (Pi.halves (((Pi.steps l o) + s) % 7) 0 (((Pi.steps l o) + s) / 7))) (((Pi.steps l o) + s) / 7))) [])] [ps 4 (.opt 16 0), ps 6 (.opt 80 0), ps 37 (bv (!(rightB (((Pi.steps l o) + s) % 7) (((Pi.halves l a o) + h) - (Pi.halves (((Pi.steps l o) + s) % 7) 0 (((Pi.steps l o) + s) / 7))) (((Pi.steps l o) + s) / 7)))), pb 16 52 [(iv 0), (iv 0), (iv 0)], pb 80 52 [(iv (((Pi.steps l o) + s) % 7)), (iv (((Pi.halves l a o) + h) - (Pi.halves (((Pi.steps l o) + s) % 7) 0 (((Pi.steps l o) + s) / 7)))), (iv (((Pi.steps l o) + s) / 7))]] (oc (qgc (((Pi.steps l o) + s) % 7) (((Pi.halves l a o) + h) - (Pi.halves (((Pi.steps l o) + s) % 7) 0 (((Pi.steps l o) + s) / 7))) (((Pi.steps l o) + s) / 7)) (oc (rfl : Ren0 280 [(.agg [(iv (((Pi.steps l o) + s) % 7)), (iv (((Pi.halves l a o) + h) - (Pi.halves (((Pi.steps l o) + s) % 7) 0 (((Pi.steps l o) + s) / 7)))), (iv (((Pi.steps l o) + s) / 7))])]) oz)) ?_
   by_cases h3 : (rightB (((Pi.steps l o) + s) % 7) (((Pi.halves l a o) + h) - (Pi.halves (((Pi.steps l o) + s) % 7) 0 (((Pi.steps l o) + s) / 7))) (((Pi.steps l o) + s) / 7)) = true
   ·refine T_el (congrArg Bool.not h3) ?_
    refine qag <| qaa ?_
    refine T_r mixed [] [ps 4 (.opt 16 0), ps 5 (iv 0), pb 16 52 [(iv (((Pi.steps l o) + s) % 7)), (iv (((Pi.halves l a o) + h) - (Pi.halves (((Pi.steps l o) + s) % 7) 0 (((Pi.steps l o) + s) / 7)))), (iv (((Pi.steps l o) + s) / 7))]] (oz) ?_
    rw [qoo h1 h2, at_yes h3]
    exact qai fun cx_ a_ hI_ => rt hc0 [ps 4 (.opt 0 0), ps 5 (iv 0), pb 0 52 [(iv (((Pi.steps l o) + s) % 7)), (iv (((Pi.halves l a o) + h) - (Pi.halves (((Pi.steps l o) + s) % 7) 0 (((Pi.steps l o) + s) / 7)))), (iv (((Pi.steps l o) + s) / 7))]] [16] hI_
   refine T_th (congrArg Bool.not (Bool.eq_false_iff.2 h3)) ?_
   refine qaa ?_
   refine T_r mixed [] [ps 4 (.opt 16 0), ps 5 (iv 3), pb 16 52 [(iv 0), (iv 0), (iv 0)]] (oz) ?_
   rw [qoo h1 h2, at_no (Bool.eq_false_iff.2 h3)]
   exact qai fun cx_ a_ hI_ => rt hc0 [ps 4 (.opt 0 0), ps 5 (iv 3), pb 0 52 [(iv 0), (iv 0), (iv 0)]] [16] hI_
  refine T_th (congrArg Bool.not (Bool.eq_false_iff.2 h2)) ?_
  refine qaa ?_
  refine T_r mixed [] [ps 4 (.opt 16 0), ps 5 (iv 3), pb 16 52 [(iv 0), (iv 0), (iv 0)]] (oz) ?_
  rw [quu h1 (Bool.eq_false_iff.2 h2)]
  exact qai fun cx_ a_ hI_ => rt hc0 [ps 4 (.opt 0 0), ps 5 (iv 3), pb 0 52 [(iv 0), (iv 0), (iv 0)]] [16] hI_
 refine T_th (congrArg Bool.not (Bool.eq_false_iff.2 h1)) ?_
 refine qaa ?_
 refine T_r mixed [] [ps 4 (.opt 16 0), ps 5 (iv 2), pb 16 52 [(iv 0), (iv 0), (iv 0)]] (oz) ?_
 rw [quv (Bool.eq_false_iff.2 h1)]
 exact qai fun cx_ a_ hI_ => rt hc0 [ps 4 (.opt 0 0), ps 5 (iv 2), pb 0 52 [(iv 0), (iv 0), (iv 0)]] [16] hI_
theorem move_pc (l a o s h : Int) (is : Pi.I64 s) (ih : Pi.I64 h) : PC Tryz.prog 134 [(.agg [(iv l), (iv a), (iv o)]), (.agg [(iv s), (iv h)])] [] (M4P (Pi.move l a o s h)) [] := qoj [none] rfl (fun i => by cases i <;> rfl) (move_pc0 l a o s h is ih)
set_option maxRecDepth 100000 in
set_option maxHeartbeats 4000000 in
theorem qqb (l a o s h : Int) (ha : Pi.I64 a) : PC Tryz.prog 19 [(.agg [(iv l), (iv a), (iv o)]), (.agg [(iv s), (iv h)])] [] (M4P (Pi.move l a o s h)) [none] := by
 refine qas Tryz.func19 rfl (by kernel_rfl) (Nat.le_of_ble_eq_true rfl) (by kernel_rfl) (l0 := [ps 0 (.agg [(iv l), (iv a), (iv o)]), ps 1 (.agg [(iv s), (iv h)])]) rfl (fun c0 Bor hc0 => ?_)
 refine qaa ?_
 refine T_r mixed [] [ps 2 (.opt 0 0), ps 3 (.opt 8 0), ps 4 (.opt 16 0), pb 0 52 [(iv l), (iv a), (iv o)], pb 8 41 [(iv s), (iv h)], pb 16 52 [(iv 0), (iv 0), (iv 0)]] (oz) ?_
 refine qaa <| qaa ?_
 refine T_r mixed [(1, .call [] [(.agg [(iv l), (iv a), (iv o)])] [] (bv (rightB l a o)) [])] [ps 2 (.opt 0 0), ps 3 (.opt 8 0), ps 4 (.opt 16 0), ps 10 (bv (!(rightB l a o))), pb 0 52 [(iv l), (iv a), (iv o)], pb 8 41 [(iv s), (iv h)], pb 16 52 [(iv 0), (iv 0), (iv 0)]] (oc (qoc l a o ha) (oc (rfl : Ren0 40 [(.agg [(iv l), (iv a), (iv o)])]) oz)) ?_
 by_cases h1 : (rightB l a o) = true
 ·refine T_el (congrArg Bool.not h1) ?_
  refine qag <| qaa <| qaa ?_
  refine T_r mixed [(1, .call [] [(.agg [(iv s), (iv h)])] [] (bv (withinB s h)) [])] [ps 2 (.opt 0 0), ps 3 (.opt 8 0), ps 4 (.opt 16 0), ps 14 (bv (!(withinB s h))), pb 0 52 [(iv l), (iv a), (iv o)], pb 8 41 [(iv s), (iv h)], pb 16 52 [(iv 0), (iv 0), (iv 0)]] (oc (qml s h) (oc (rfl : Ren0 64 [(.agg [(iv s), (iv h)])]) oz)) ?_
  by_cases h2 : (withinB s h) = true
  ·refine T_el (congrArg Bool.not h2) ?_
   refine qag <| qaa ?_
   have hb := bounds h1
   have hw := withinB_iff.1 h2
   refine T_rd mixed [(1, .call [] [(.agg [(iv l), (iv a), (iv o)])] [] (iv (Pi.steps l o)) []), (6, .call [] [(.agg [(iv l), (iv a), (iv o)])] [] (iv (Pi.halves l a o)) []), (10, .call [] [(iv ((Pi.steps l o) + s)), (iv ((Pi.halves l a o) + h))] [] (.tup [(.agg [(iv (((Pi.steps l o) + s) % 7)), (iv (((Pi.halves l a o) + h) - qcp ((Pi.steps l o) + s))), (iv (((Pi.steps l o) + s) / 7))]), (bv (rightB (((Pi.steps l o) + s) % 7) (((Pi.halves l a o) + h) - qcp ((Pi.steps l o) + s)) (((Pi.steps l o) + s) / 7)))]) [])] [[], [0], [], [2], [0, 1, 2, 3], [], [0, 1, 5], [], [7], [0, 1, 5, 6, 7, 8], [0, 1, 2, 3, 4, 5, 6, 7, 8, 9], [0, 1, 2, 3, 4, 5, 6, 7, 8, 9, 10], [0, 1, 2, 3, 4, 5, 6, 7, 8, 9, 10, 11], [0, 1, 2, 3, 4, 5, 6, 7, 8, 9, 10, 11], [], [0, 1, 2, 3, 4, 5, 6, 7, 8, 9, 10, 11, 12, 14], [0, 1, 2, 3, 4, 5, 6, 7, 8, 9, 10, 11, 12, 13, 14, 15]] [([34], [1, 4]), ([36], [34]), ([38], [6]), ([40], [17, 38]), ([42], [36, 40]), ([44], [1, 4]), ([46], [44]), ([48], [6]), ([50], [17, 48]), ([52], [46, 50]), ([54], [42, 52]), ([32], [54]), ([56], [32]), ([58], [32]), ([12, 385], []), ([385], [12, 56, 385]), ([14], [58])] [ps 4 (.opt 16 0), ps 6 (.opt 192 0), ps 7 (bv (rightB (((Pi.steps l o) + s) % 7) (((Pi.halves l a o) + h) - qcp ((Pi.steps l o) + s)) (((Pi.steps l o) + s) / 7))), pb 16 52 [(iv 0), (iv 0), (iv 0)], pb 192 52 [(iv (((Pi.steps l o) + s) % 7)), (iv (((Pi.halves l a o) + h) - qcp ((Pi.steps l o) + s))), (iv (((Pi.steps l o) + s) / 7))]] (oc (qob l a o h1) (oc (rfl : Ren0 88 [(.agg [(iv l), (iv a), (iv o)])]) (oc (by simp only [InK]; omega : InK .i64 ((Pi.steps l o) + s)) (oc (qmm l a o h1) (oc (rfl : Ren0 128 [(.agg [(iv l), (iv a), (iv o)])]) (oc (by simp only [InK]; omega : InK .i64 ((Pi.halves l a o) + h)) (oc (qxe ((Pi.steps l o) + s) ((Pi.halves l a o) + h) (by omega) (by omega)) (oc (rfl : Ren0 160 [(iv ((Pi.steps l o) + s)), (iv ((Pi.halves l a o) + h))]) oz)))))))) ?_
   refine qaa <| qaa ?_
   refine T_r mixed [] [ps 4 (.opt 16 0), ps 6 (.opt 192 0), ps 31 (bv (!(rightB (((Pi.steps l o) + s) % 7) (((Pi.halves l a o) + h) - qcp ((Pi.steps l o) + s)) (((Pi.steps l o) + s) / 7)))), pb 16 52 [(iv 0), (iv 0), (iv 0)], pb 192 52 [(iv (((Pi.steps l o) + s) % 7)), (iv (((Pi.halves l a o) + h) - qcp ((Pi.steps l o) + s))), (iv (((Pi.steps l o) + s) / 7))]] (oz) ?_
   by_cases h3 : (rightB (((Pi.steps l o) + s) % 7) (((Pi.halves l a o) + h) - qcp ((Pi.steps l o) + s)) (((Pi.steps l o) + s) / 7)) = true
   ·refine T_el (congrArg Bool.not h3) ?_
    refine qag <| qaa ?_
    refine T_r mixed [] [ps 4 (.opt 16 0), ps 5 (iv 0), pb 16 52 [(iv (((Pi.steps l o) + s) % 7)), (iv (((Pi.halves l a o) + h) - qcp ((Pi.steps l o) + s))), (iv (((Pi.steps l o) + s) / 7))]] (oz) ?_
    rw [qoo h1 h2, qwm, if_pos h3]
    exact qai fun cx_ a_ hI_ => rt hc0 [ps 4 (.opt 0 0), ps 5 (iv 0), pb 0 52 [(iv (((Pi.steps l o) + s) % 7)), (iv (((Pi.halves l a o) + h) - qcp ((Pi.steps l o) + s))), (iv (((Pi.steps l o) + s) / 7))]] [16] hI_
   refine T_th (congrArg Bool.not (Bool.eq_false_iff.2 h3)) ?_
   refine qaa ?_
   refine T_r mixed [] [ps 4 (.opt 16 0), ps 5 (iv 3), pb 16 52 [(iv 0), (iv 0), (iv 0)]] (oz) ?_
   rw [qoo h1 h2, qwm, if_neg h3]
   exact qai fun cx_ a_ hI_ => rt hc0 [ps 4 (.opt 0 0), ps 5 (iv 3), pb 0 52 [(iv 0), (iv 0), (iv 0)]] [16] hI_
  refine T_th (congrArg Bool.not (Bool.eq_false_iff.2 h2)) ?_
  refine qaa ?_
  refine T_r mixed [] [ps 4 (.opt 16 0), ps 5 (iv 3), pb 16 52 [(iv 0), (iv 0), (iv 0)]] (oz) ?_
  rw [quu h1 (Bool.eq_false_iff.2 h2)]
  exact qai fun cx_ a_ hI_ => rt hc0 [ps 4 (.opt 0 0), ps 5 (iv 3), pb 0 52 [(iv 0), (iv 0), (iv 0)]] [16] hI_
 refine T_th (congrArg Bool.not (Bool.eq_false_iff.2 h1)) ?_
 refine qaa ?_
 refine T_r mixed [] [ps 4 (.opt 16 0), ps 5 (iv 2), pb 16 52 [(iv 0), (iv 0), (iv 0)]] (oz) ?_
 rw [quv (Bool.eq_false_iff.2 h1)]
 exact qai fun cx_ a_ hI_ => rt hc0 [ps 4 (.opt 0 0), ps 5 (iv 2), pb 0 52 [(iv 0), (iv 0), (iv 0)]] [16] hI_
theorem qkv (l a o s h : Int) (ha : Pi.I64 a) : PC Tryz.prog 19 [(.agg [(iv l), (iv a), (iv o)]), (.agg [(iv s), (iv h)])] [] (M4P (Pi.move l a o s h)) [] := qoj [none] rfl (fun i => by cases i <;> rfl) (qqb l a o s h ha)
end Go.Proofs.YtmlnilkbolcknaaGreatDoor.Pm
namespace Go.Proofs.YtmlnilkbolcknaaGreatDoor.Pm
open Go Fr

theorem qty {α : Type} (L : List α) (x : α) : (L ++ [x]).length = L.length + 1 := by simp
set_option maxRecDepth 100000 in
set_option maxHeartbeats 4000000 in
theorem leaf_pc (k u d : Int) (L : List Sp) (a b : Int) (hr : rightB u d = true) (hs : okSt L a b) (hl : L.length ≤ 100000) : PC Tryz.prog 132 [(.opt 0 0), (iv k), (.agg [(iv u), (iv d)])] [some (159, [(.osl 1 0 L.length), (iv a), (iv b)]), some (187, (spans L))] (iv ((qbm k u d L a b).1)) [some (159, [(.osl 2 0 ((qbm k u d L a b).2.1.length)), (iv ((qbm k u d L a b).2.2.1)), (iv ((qbm k u d L a b).2.2.2))]), none, some (187, (spans ((qbm k u d L a b).2.1)))] := by
 obtain ⟨hu, hd⟩ := qif hr
 obtain ⟨ha, hb⟩ := qif hs.1
 refine qas Tryz.func132 rfl (by kernel_rfl) (Nat.le_of_ble_eq_true rfl) (by kernel_rfl) (l0 := [ps 0 (.opt 0 0), ps 1 (iv k), ps 2 (.agg [(iv u), (iv d)]), pb 0 159 [(.osl 1 0 L.length), (iv a), (iv b)], pb 1 187 (spans L)]) rfl (fun c0 Bor hc0 => ?_)
 refine qaa ?_
 refine T_k mixed [] [.k2, .d, .n, .k2, .n] [ps 5 (.opt 2 0), pb 2 56 [(iv u), (iv d)]] (oz) ?_
 refine qaa ?_
 refine T_kd mixed [(5, .call [] [(.agg [(iv a), (iv b)]), (.agg [(iv u), (iv d)])] [] (.tup [(.agg [(iv ((Fr.plus a b u d).1)), (iv ((Fr.plus a b u d).2.1))]), (iv ((Fr.plus a b u d).2.2))]) [])] [[], [0], [0, 1], [0, 1, 2], [], [0, 1, 2, 3, 4], [0, 1, 2, 3, 4, 5], [0, 1, 2, 3, 4, 5, 6], [0, 1, 2, 3, 4, 5, 6], [], [0, 1, 2, 3, 4, 5, 6, 7, 9], [0, 1, 2, 3, 4, 5, 6, 7, 8, 9, 10]] [([24], [0]), ([26], [24]), ([28], [26]), ([30], [1, 28]), ([32], [5, 10]), ([34], [30, 32]), ([22], [34]), ([36], [22]), ([38], [22]), ([14, 181], []), ([181], [14, 36, 181]), ([16], [38])] [.k3, .n, .n, .k3, .n] [ps 7 (.opt 90 0), ps 8 (iv ((Fr.plus a b u d).2.2)), pb 90 56 [(iv ((Fr.plus a b u d).1)), (iv ((Fr.plus a b u d).2.1))]] (oc (qiz a b u d (by assumption) (by assumption) (by assumption) (by assumption)) (oc (rfl : Ren0 58 [(.agg [(iv a), (iv b)]), (.agg [(iv u), (iv d)])]) oz)) ?_
 refine qaa <| qaa ?_
 refine T_k mixed [] [.k5, .n, .r] [ps 21 (bv (!(decide (((Fr.plus a b u d).2.2) = 0))))] (oz) ?_
 by_cases h1 : ((Fr.plus a b u d).2.2) = 0
 ·refine T_el (bt h1) ?_
  refine qag <| qaa <| qaa ?_
  refine T_k mixed [] [.k4, .d, .n, .d, .r] [ps 9 (nv L.length)] (oz) ?_
  refine qaa ?_
  by_cases h2 : k = 3
  ·refine T_k mixed [(3, .gd true (.no)), (4, .gd true (.no)), (5, .yes true)] [.k5, .n, .r] [ps 33 (bv (decide (0 < ((L.length : Nat) : Int))))] (oc (decide_eq_true h2) (oc (decide_eq_true h2) (oc (decide_eq_true h2) oz))) ?_
   by_cases h3 : 0 < ((L.length : Nat) : Int)
   ·refine T_th (decide_eq_true h3) ?_
    refine qaa ?_
    refine T_k mixed [(6, .nat ((L.length - 1) * 5))] [.k1, .d, .k2, .d, .n, .d, .r] [ps 10 (.opt 1 ((L.length - 1) * 5))] (oc (by simp only [InK]; omega : InK .i64 (((L.length : Nat) : Int) - 1)) (oc (by omega : (0 : Int) ≤ (((L.length : Nat) : Int) - 1) ∧ (((L.length : Nat) : Int) - 1) < ((L.length : Nat) : Int)) (oc (by omega : 0 + ((((L.length : Nat) : Int) - 1) : Int).toNat * 5 = ((L.length - 1) * 5)) oz))) ?_
    refine qaa ?_
    have hx := qif (hs.2 (L.length - 1) (by omega))
    obtain ⟨hx1, hx2⟩ := hx
    refine T_kd mixed [(4, .cells [(iv ((L.getD (L.length - 1) dS).2.2.1)), (iv ((L.getD (L.length - 1) dS).2.2.2.1))]), (6, .call [] [(.agg [(iv ((L.getD (L.length - 1) dS).2.2.1)), (iv ((L.getD (L.length - 1) dS).2.2.2.1))]), (.agg [(iv u), (iv d)])] [] (.tup [(.agg [(iv ((Fr.plus ((L.getD (L.length - 1) dS).2.2.1) ((L.getD (L.length - 1) dS).2.2.2.1) u d).1)), (iv ((Fr.plus ((L.getD (L.length - 1) dS).2.2.1) ((L.getD (L.length - 1) dS).2.2.2.1) u d).2.1))]), (iv ((Fr.plus ((L.getD (L.length - 1) dS).2.2.1) ((L.getD (L.length - 1) dS).2.2.2.1) u d).2.2))]) []), (12, .cells (spans (longer L (Fr.plus (L.getD (L.length - 1) dS).2.2.1 (L.getD (L.length - 1) dS).2.2.2.1 u d).1 (Fr.plus (L.getD (L.length - 1) dS).2.2.1 (L.getD (L.length - 1) dS).2.2.2.1 u d).2.1)))] [[], [], [1], [1, 2], [1, 2, 3], [], [1, 2, 3, 4, 5], [1, 2, 3, 4, 5, 6], [1, 2, 3, 4, 5, 6, 7], [1, 2, 3, 4, 5, 6, 7], [0, 1, 2, 3, 4, 5, 6, 7, 8], [0, 1, 2, 3, 4, 5, 6, 7, 8, 10], [0, 1, 2, 3, 4, 5, 6, 7, 8, 10, 11], [0, 1, 2, 3, 4, 5, 6, 7, 8, 9, 10, 11, 12]] [([84], [20]), ([86], [20]), ([88], [86]), ([90], [88]), ([92], [3, 90]), ([94], [5, 10]), ([96], [92, 94]), ([82], [96]), ([98], [82]), ([100], [82]), ([102], [84]), ([104], [102]), ([3], [3, 98, 104]), ([16], [100])] [.k1, .d, .k1, .n, .d, .k1, .d, .n, .d, .r] [ps 8 (iv ((Fr.plus ((L.getD (L.length - 1) dS).2.2.1) ((L.getD (L.length - 1) dS).2.2.2.1) u d).2.2)), pb 1 187 (spans (longer L (Fr.plus (L.getD (L.length - 1) dS).2.2.1 (L.getD (L.length - 1) dS).2.2.2.1 u d).1 (Fr.plus (L.getD (L.length - 1) dS).2.2.1 (L.getD (L.length - 1) dS).2.2.2.1 u d).2.1))] (oc (qch spC 5 (fun _ => rfl) dS L (L.length - 1) 2 2 (by omega) (by decide) : ((L.length - 1) * 5 + 2) + 2 ≤ ((spans L)).length ∧ (((spans L)).drop ((L.length - 1) * 5 + 2)).take 2 = [(iv ((L.getD (L.length - 1) dS).2.2.1)), (iv ((L.getD (L.length - 1) dS).2.2.2.1))]) (oc (qiz ((L.getD (L.length - 1) dS).2.2.1) ((L.getD (L.length - 1) dS).2.2.2.1) u d (by assumption) (by assumption) (by assumption) (by assumption)) (oc (rfl : Ren0 338 [(.agg [(iv ((L.getD (L.length - 1) dS).2.2.1)), (iv ((L.getD (L.length - 1) dS).2.2.2.1))]), (.agg [(iv u), (iv d)])]) (oc (qoq L _ _ (by omega) : ((L.length - 1) * 5 + 2) + 2 ≤ ((spans L)).length ∧ qcj (spans L) ((L.length - 1) * 5 + 2) [(iv ((Fr.plus ((L.getD (L.length - 1) dS).2.2.1) ((L.getD (L.length - 1) dS).2.2.2.1) u d).1)), (iv ((Fr.plus ((L.getD (L.length - 1) dS).2.2.1) ((L.getD (L.length - 1) dS).2.2.2.1) u d).2.1))] = (spans (longer L (Fr.plus (L.getD (L.length - 1) dS).2.2.1 (L.getD (L.length - 1) dS).2.2.2.1 u d).1 (Fr.plus (L.getD (L.length - 1) dS).2.2.1 (L.getD (L.length - 1) dS).2.2.2.1 u d).2.1))) oz)))) ?_
    refine qaa ?_
    refine T_k mixed [] [.k3, .n, .r] [ps 54 (bv (!(decide (((Fr.plus ((L.getD (L.length - 1) dS).2.2.1) ((L.getD (L.length - 1) dS).2.2.2.1) u d).2.2) = 0))))] (oz) ?_
    by_cases h4 : ((Fr.plus ((L.getD (L.length - 1) dS).2.2.1) ((L.getD (L.length - 1) dS).2.2.2.1) u d).2.2) = 0
    ·refine T_el (bt h4) ?_
     refine qag <| qaa ?_
     refine T_k mixed [] [.d, .d, .d, .d, .d, .n, .k1, .d] [pb 0 159 [(.osl 1 0 L.length), (iv ((Fr.plus a b u d).1)), (iv ((Fr.plus a b u d).2.1))]] (oz) ?_
     refine qaa ?_
     refine T_k mixed [] [.n, .r] [ps 6 (iv 0)] (oz) ?_
     rw [show qbm k u d L a b = (0, longer L (Fr.plus (L.getD (L.length - 1) dS).2.2.1 (L.getD (L.length - 1) dS).2.2.2.1 u d).1 (Fr.plus (L.getD (L.length - 1) dS).2.2.1 (L.getD (L.length - 1) dS).2.2.2.1 u d).2.1, (Fr.plus a b u d).1, (Fr.plus a b u d).2.1) from by unfold qbm; repeat (first | rw [if_pos (by assumption)] | rw [if_neg (by assumption)] | rw [if_pos (by omega)] | rw [if_neg (by omega)])]
     refine T_wk (Wk.eq (show _ = [ps 6 (iv 0), pb 0 159 [(.osl 1 0 ((longer L (Fr.plus (L.getD (L.length - 1) dS).2.2.1 (L.getD (L.length - 1) dS).2.2.2.1 u d).1 (Fr.plus (L.getD (L.length - 1) dS).2.2.1 (L.getD (L.length - 1) dS).2.2.2.1 u d).2.1).length)), (iv ((Fr.plus a b u d).1)), (iv ((Fr.plus a b u d).2.1))], pb 1 187 (spans (longer L (Fr.plus (L.getD (L.length - 1) dS).2.2.1 (L.getD (L.length - 1) dS).2.2.2.1 u d).1 (Fr.plus (L.getD (L.length - 1) dS).2.2.1 (L.getD (L.length - 1) dS).2.2.2.1 u d).2.1))] from by rw [qgm])) ?_
     exact qai fun cx_ a_ hI_ => qby (H' := [some (159, [(.osl 2 0 ((longer L (Fr.plus (L.getD (L.length - 1) dS).2.2.1 (L.getD (L.length - 1) dS).2.2.2.1 u d).1 (Fr.plus (L.getD (L.length - 1) dS).2.2.1 (L.getD (L.length - 1) dS).2.2.2.1 u d).2.1).length)), (iv ((Fr.plus a b u d).1)), (iv ((Fr.plus a b u d).2.1))]), none, some (187, (spans (longer L (Fr.plus (L.getD (L.length - 1) dS).2.2.1 (L.getD (L.length - 1) dS).2.2.2.1 u d).1 (Fr.plus (L.getD (L.length - 1) dS).2.2.1 (L.getD (L.length - 1) dS).2.2.2.1 u d).2.1)))]) (.inr rfl) (Wk.ren3D [ps 6 (iv 0), pb 0 159 [(.osl 2 0 ((longer L (Fr.plus (L.getD (L.length - 1) dS).2.2.1 (L.getD (L.length - 1) dS).2.2.2.1 u d).1 (Fr.plus (L.getD (L.length - 1) dS).2.2.1 (L.getD (L.length - 1) dS).2.2.2.1 u d).2.1).length)), (iv ((Fr.plus a b u d).1)), (iv ((Fr.plus a b u d).2.1))], pb 2 187 (spans (longer L (Fr.plus (L.getD (L.length - 1) dS).2.2.1 (L.getD (L.length - 1) dS).2.2.2.1 u d).1 (Fr.plus (L.getD (L.length - 1) dS).2.2.1 (L.getD (L.length - 1) dS).2.2.2.1 u d).2.1))] 2 hc0 [0, 1, 1] [(kb 2, (spans (longer L (Fr.plus (L.getD (L.length - 1) dS).2.2.1 (L.getD (L.length - 1) dS).2.2.2.1 u d).1 (Fr.plus (L.getD (L.length - 1) dS).2.2.1 (L.getD (L.length - 1) dS).2.2.2.1 u d).2.1)))] (oc (qbh _) (oz)) (by kernel_rfl) rfl (by kernel_rfl) (by kernel_rfl) (by kernel_rfl)) rfl (oc rfl (oc rfl (oz))) (fun cx_ a_ hI_ => qbc (l' := [ps 6 (iv 0), pb 0 159 [(.osl 2 0 ((longer L (Fr.plus (L.getD (L.length - 1) dS).2.2.1 (L.getD (L.length - 1) dS).2.2.2.1 u d).1 (Fr.plus (L.getD (L.length - 1) dS).2.2.1 (L.getD (L.length - 1) dS).2.2.2.1 u d).2.1).length)), (iv ((Fr.plus a b u d).1)), (iv ((Fr.plus a b u d).2.1))], pb 2 187 (spans (longer L (Fr.plus (L.getD (L.length - 1) dS).2.2.1 (L.getD (L.length - 1) dS).2.2.2.1 u d).1 (Fr.plus (L.getD (L.length - 1) dS).2.2.1 (L.getD (L.length - 1) dS).2.2.2.1 u d).2.1))]) (by kernel_rfl) cx_ a_ hI_) hI_
    refine T_th (bf h4) ?_
    refine qaa ?_
    refine T_k mixed [] [.d, .n, .d, .d, .d, .k2, .d] [ps 6 (iv ((Fr.plus ((L.getD (L.length - 1) dS).2.2.1) ((L.getD (L.length - 1) dS).2.2.2.1) u d).2.2))] (oz) ?_
    rw [show qbm k u d L a b = ((Fr.plus ((L.getD (L.length - 1) dS).2.2.1) ((L.getD (L.length - 1) dS).2.2.2.1) u d).2.2, longer L (Fr.plus (L.getD (L.length - 1) dS).2.2.1 (L.getD (L.length - 1) dS).2.2.2.1 u d).1 (Fr.plus (L.getD (L.length - 1) dS).2.2.1 (L.getD (L.length - 1) dS).2.2.2.1 u d).2.1, a, b) from by unfold qbm; repeat (first | rw [if_pos (by assumption)] | rw [if_neg (by assumption)] | rw [if_pos (by omega)] | rw [if_neg (by omega)])]
    refine T_wk (Wk.eq (show _ = [ps 6 (iv ((Fr.plus ((L.getD (L.length - 1) dS).2.2.1) ((L.getD (L.length - 1) dS).2.2.2.1) u d).2.2)), pb 0 159 [(.osl 1 0 ((longer L (Fr.plus (L.getD (L.length - 1) dS).2.2.1 (L.getD (L.length - 1) dS).2.2.2.1 u d).1 (Fr.plus (L.getD (L.length - 1) dS).2.2.1 (L.getD (L.length - 1) dS).2.2.2.1 u d).2.1).length)), (iv a), (iv b)], pb 1 187 (spans (longer L (Fr.plus (L.getD (L.length - 1) dS).2.2.1 (L.getD (L.length - 1) dS).2.2.2.1 u d).1 (Fr.plus (L.getD (L.length - 1) dS).2.2.1 (L.getD (L.length - 1) dS).2.2.2.1 u d).2.1))] from by rw [qgm])) ?_
    exact qai fun cx_ a_ hI_ => qby (H' := [some (159, [(.osl 2 0 ((longer L (Fr.plus (L.getD (L.length - 1) dS).2.2.1 (L.getD (L.length - 1) dS).2.2.2.1 u d).1 (Fr.plus (L.getD (L.length - 1) dS).2.2.1 (L.getD (L.length - 1) dS).2.2.2.1 u d).2.1).length)), (iv a), (iv b)]), none, some (187, (spans (longer L (Fr.plus (L.getD (L.length - 1) dS).2.2.1 (L.getD (L.length - 1) dS).2.2.2.1 u d).1 (Fr.plus (L.getD (L.length - 1) dS).2.2.1 (L.getD (L.length - 1) dS).2.2.2.1 u d).2.1)))]) (.inr rfl) (Wk.ren3D [ps 6 (iv ((Fr.plus ((L.getD (L.length - 1) dS).2.2.1) ((L.getD (L.length - 1) dS).2.2.2.1) u d).2.2)), pb 0 159 [(.osl 2 0 ((longer L (Fr.plus (L.getD (L.length - 1) dS).2.2.1 (L.getD (L.length - 1) dS).2.2.2.1 u d).1 (Fr.plus (L.getD (L.length - 1) dS).2.2.1 (L.getD (L.length - 1) dS).2.2.2.1 u d).2.1).length)), (iv a), (iv b)], pb 2 187 (spans (longer L (Fr.plus (L.getD (L.length - 1) dS).2.2.1 (L.getD (L.length - 1) dS).2.2.2.1 u d).1 (Fr.plus (L.getD (L.length - 1) dS).2.2.1 (L.getD (L.length - 1) dS).2.2.2.1 u d).2.1))] 2 hc0 [0, 1, 1] [(kb 2, (spans (longer L (Fr.plus (L.getD (L.length - 1) dS).2.2.1 (L.getD (L.length - 1) dS).2.2.2.1 u d).1 (Fr.plus (L.getD (L.length - 1) dS).2.2.1 (L.getD (L.length - 1) dS).2.2.2.1 u d).2.1)))] (oc (qbh _) (oz)) (by kernel_rfl) rfl (by kernel_rfl) (by kernel_rfl) (by kernel_rfl)) rfl (oc rfl (oc rfl (oz))) (fun cx_ a_ hI_ => qbc (l' := [ps 6 (iv ((Fr.plus ((L.getD (L.length - 1) dS).2.2.1) ((L.getD (L.length - 1) dS).2.2.2.1) u d).2.2)), pb 0 159 [(.osl 2 0 ((longer L (Fr.plus (L.getD (L.length - 1) dS).2.2.1 (L.getD (L.length - 1) dS).2.2.2.1 u d).1 (Fr.plus (L.getD (L.length - 1) dS).2.2.1 (L.getD (L.length - 1) dS).2.2.2.1 u d).2.1).length)), (iv a), (iv b)], pb 2 187 (spans (longer L (Fr.plus (L.getD (L.length - 1) dS).2.2.1 (L.getD (L.length - 1) dS).2.2.2.1 u d).1 (Fr.plus (L.getD (L.length - 1) dS).2.2.1 (L.getD (L.length - 1) dS).2.2.2.1 u d).2.1))]) (by kernel_rfl) cx_ a_ hI_) hI_
   refine T_el (decide_eq_false h3) ?_
   refine T_kd mixed [(14, .app none (some (spans (L ++ [(a, b, u, d, (decide (k = 1)))]))))] [[], [], [1], [1, 2], [1, 2, 3], [], [5], [5, 6], [5, 6, 7], [], [], [10], [5, 6, 7, 8, 9, 10, 11], [5, 6, 7, 8, 9, 10, 11, 12], [1, 2, 3, 4, 5, 6, 7, 8, 9, 10, 11, 12, 13], [0, 1, 2, 3, 4, 5, 6, 7, 8, 9, 10, 11, 12, 13, 14], [0, 1, 2, 3, 4, 5, 6, 7, 8, 9, 10, 11, 12, 13, 14, 15], [0, 1, 2, 3, 4, 5, 6, 7, 8, 9, 10, 11, 12, 13, 14, 15, 16]] [([112], [0]), ([114], [0]), ([116], [114]), ([118], [116]), ([120], [1, 118]), ([122], [0]), ([124], [122]), ([126], [124]), ([128], [1, 126]), ([130], [5, 10]), ([132], [2]), ([134], [132]), ([136], [128, 130, 134]), ([138, 661], [136]), ([140, 3, 677], [3, 120, 138, 661]), ([142], [112]), ([144], [142]), ([1], [1, 140, 144])] [.k1, .d, .d, .k1, .d, .d, .d, .n, .d, .d, .k1, .n] [pb 0 159 [(.osl 338 0 (L.length + 1)), (iv a), (iv b)], pb 338 187 (spans (L ++ [(a, b, u, d, (decide (k = 1)))]))] (oc (qpt _ : ((spans L)).length = L.length * 5) (oc (by omega : (L.length + 1) * 40 ≤ 140737488355328 ∧ L.length + 1 ≤ 9223372036854775807) (oc ((qih spC L [(a, b, u, d, (decide (k = 1)))]).symm : (spans L) ++ [(iv a), (iv b), (iv u), (iv d), (bv (decide (k = 1)))] = (spans (L ++ [(a, b, u, d, (decide (k = 1)))]))) oz))) ?_
   refine qaa ?_
   refine T_k mixed [] [.d, .d, .d, .n, .d, .r] [pb 0 159 [(.osl 338 0 (L.length + 1)), (iv ((Fr.plus a b u d).1)), (iv ((Fr.plus a b u d).2.1))]] (oz) ?_
   refine qaa ?_
   refine T_k mixed [] [.n, .r] [ps 6 (iv 0)] (oz) ?_
   rw [show qbm k u d L a b = (0, L ++ [(a, b, u, d, (decide (k = 1)))], (Fr.plus a b u d).1, (Fr.plus a b u d).2.1) from by unfold qbm; repeat (first | rw [if_pos (by assumption)] | rw [if_neg (by assumption)] | rw [if_pos (by omega)] | rw [if_neg (by omega)])]
   refine T_wk (Wk.eq (show _ = [ps 6 (iv 0), pb 0 159 [(.osl 338 0 ((L ++ [(a, b, u, d, (decide (k = 1)))]).length)), (iv ((Fr.plus a b u d).1)), (iv ((Fr.plus a b u d).2.1))], pb 338 187 (spans (L ++ [(a, b, u, d, (decide (k = 1)))]))] from by rw [qty])) ?_
   exact qai fun cx_ a_ hI_ => qby (H' := [some (159, [(.osl 2 0 ((L ++ [(a, b, u, d, (decide (k = 1)))]).length)), (iv ((Fr.plus a b u d).1)), (iv ((Fr.plus a b u d).2.1))]), none, some (187, (spans (L ++ [(a, b, u, d, (decide (k = 1)))])))]) (.inr rfl) (Wk.ren3 [ps 6 (iv 0), pb 0 159 [(.osl 2 0 ((L ++ [(a, b, u, d, (decide (k = 1)))]).length)), (iv ((Fr.plus a b u d).1)), (iv ((Fr.plus a b u d).2.1))], pb 2 187 (spans (L ++ [(a, b, u, d, (decide (k = 1)))]))] 2 hc0 [0, 1, 338] [(kb 2, (spans (L ++ [(a, b, u, d, (decide (k = 1)))])))] (oc (qbh _) (oz)) (by kernel_rfl) rfl rfl (by kernel_rfl) (by kernel_rfl)) rfl (oc rfl (oc rfl (oz))) (fun cx_ a_ hI_ => qbc (l' := [ps 6 (iv 0), pb 0 159 [(.osl 2 0 ((L ++ [(a, b, u, d, (decide (k = 1)))]).length)), (iv ((Fr.plus a b u d).1)), (iv ((Fr.plus a b u d).2.1))], pb 2 187 (spans (L ++ [(a, b, u, d, (decide (k = 1)))]))]) (by kernel_rfl) cx_ a_ hI_) hI_
  refine T_k mixed [(3, .gd false .no), (4, .gd false .no), (5, .yes false)] [.k5, .n, .r] [ps 33 (bv false)] (oc (decide_eq_false h2) (oc (decide_eq_false h2) (oc (decide_eq_false h2) oz))) ?_
  refine qbf (b := false) rfl rfl ?_
  refine T_kd mixed [(14, .app none (some (spans (L ++ [(a, b, u, d, (decide (k = 1)))]))))] [[], [], [1], [1, 2], [1, 2, 3], [], [5], [5, 6], [5, 6, 7], [], [], [10], [5, 6, 7, 8, 9, 10, 11], [5, 6, 7, 8, 9, 10, 11, 12], [1, 2, 3, 4, 5, 6, 7, 8, 9, 10, 11, 12, 13], [0, 1, 2, 3, 4, 5, 6, 7, 8, 9, 10, 11, 12, 13, 14], [0, 1, 2, 3, 4, 5, 6, 7, 8, 9, 10, 11, 12, 13, 14, 15], [0, 1, 2, 3, 4, 5, 6, 7, 8, 9, 10, 11, 12, 13, 14, 15, 16]] [([112], [0]), ([114], [0]), ([116], [114]), ([118], [116]), ([120], [1, 118]), ([122], [0]), ([124], [122]), ([126], [124]), ([128], [1, 126]), ([130], [5, 10]), ([132], [2]), ([134], [132]), ([136], [128, 130, 134]), ([138, 661], [136]), ([140, 3, 677], [3, 120, 138, 661]), ([142], [112]), ([144], [142]), ([1], [1, 140, 144])] [.k1, .d, .d, .k1, .d, .d, .d, .n, .d, .d, .k1, .n] [pb 0 159 [(.osl 338 0 (L.length + 1)), (iv a), (iv b)], pb 338 187 (spans (L ++ [(a, b, u, d, (decide (k = 1)))]))] (oc (qpt _ : ((spans L)).length = L.length * 5) (oc (by omega : (L.length + 1) * 40 ≤ 140737488355328 ∧ L.length + 1 ≤ 9223372036854775807) (oc ((qih spC L [(a, b, u, d, (decide (k = 1)))]).symm : (spans L) ++ [(iv a), (iv b), (iv u), (iv d), (bv (decide (k = 1)))] = (spans (L ++ [(a, b, u, d, (decide (k = 1)))]))) oz))) ?_
  refine qaa ?_
  refine T_k mixed [] [.d, .d, .d, .n, .d, .r] [pb 0 159 [(.osl 338 0 (L.length + 1)), (iv ((Fr.plus a b u d).1)), (iv ((Fr.plus a b u d).2.1))]] (oz) ?_
  refine qaa ?_
  refine T_k mixed [] [.n, .r] [ps 6 (iv 0)] (oz) ?_
  rw [show qbm k u d L a b = (0, L ++ [(a, b, u, d, (decide (k = 1)))], (Fr.plus a b u d).1, (Fr.plus a b u d).2.1) from by unfold qbm; repeat (first | rw [if_pos (by assumption)] | rw [if_neg (by assumption)] | rw [if_pos (by omega)] | rw [if_neg (by omega)])]
  refine T_wk (Wk.eq (show _ = [ps 6 (iv 0), pb 0 159 [(.osl 338 0 ((L ++ [(a, b, u, d, (decide (k = 1)))]).length)), (iv ((Fr.plus a b u d).1)), (iv ((Fr.plus a b u d).2.1))], pb 338 187 (spans (L ++ [(a, b, u, d, (decide (k = 1)))]))] from by rw [qty])) ?_
  exact qai fun cx_ a_ hI_ => qby (H' := [some (159, [(.osl 2 0 ((L ++ [(a, b, u, d, (decide (k = 1)))]).length)), (iv ((Fr.plus a b u d).1)), (iv ((Fr.plus a b u d).2.1))]), none, some (187, (spans (L ++ [(a, b, u, d, (decide (k = 1)))])))]) (.inr rfl) (Wk.ren3 [ps 6 (iv 0), pb 0 159 [(.osl 2 0 ((L ++ [(a, b, u, d, (decide (k = 1)))]).length)), (iv ((Fr.plus a b u d).1)), (iv ((Fr.plus a b u d).2.1))], pb 2 187 (spans (L ++ [(a, b, u, d, (decide (k = 1)))]))] 2 hc0 [0, 1, 338] [(kb 2, (spans (L ++ [(a, b, u, d, (decide (k = 1)))])))] (oc (qbh _) (oz)) (by kernel_rfl) rfl rfl (by kernel_rfl) (by kernel_rfl)) rfl (oc rfl (oc rfl (oz))) (fun cx_ a_ hI_ => qbc (l' := [ps 6 (iv 0), pb 0 159 [(.osl 2 0 ((L ++ [(a, b, u, d, (decide (k = 1)))]).length)), (iv ((Fr.plus a b u d).1)), (iv ((Fr.plus a b u d).2.1))], pb 2 187 (spans (L ++ [(a, b, u, d, (decide (k = 1)))]))]) (by kernel_rfl) cx_ a_ hI_) hI_
 refine T_th (bf h1) ?_
 refine qaa ?_
 refine T_k mixed [] [.d, .d, .d, .n, .d, .d, .d, .k2, .d, .d] [ps 6 (iv ((Fr.plus a b u d).2.2))] (oz) ?_
 rw [show qbm k u d L a b = ((Fr.plus a b u d).2.2, L, a, b) from by unfold qbm; repeat (first | rw [if_pos (by assumption)] | rw [if_neg (by assumption)] | rw [if_pos (by omega)] | rw [if_neg (by omega)])]
 exact qai fun cx_ a_ hI_ => qby (H' := [some (159, [(.osl 2 0 ((L).length)), (iv a), (iv b)]), none, some (187, (spans L))]) (.inr rfl) (Wk.ren3D [ps 6 (iv ((Fr.plus a b u d).2.2)), pb 0 159 [(.osl 2 0 L.length), (iv a), (iv b)], pb 2 187 (spans L)] 2 hc0 [0, 1, 1] [(kb 2, (spans L))] (oc (qbh _) (oz)) (by kernel_rfl) rfl (by kernel_rfl) (by kernel_rfl) (by kernel_rfl)) rfl (oc rfl (oc rfl (oz))) (fun cx_ a_ hI_ => qbc (l' := [ps 6 (iv ((Fr.plus a b u d).2.2)), pb 0 159 [(.osl 2 0 L.length), (iv a), (iv b)], pb 2 187 (spans L)]) (by kernel_rfl) cx_ a_ hI_) hI_
end Go.Proofs.YtmlnilkbolcknaaGreatDoor.Pm
