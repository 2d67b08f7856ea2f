/-
  PITCHES AS TEXTS: signs, numbers: walks. (Printed by wip/pm.) | PITCHES AS TEXTS: printed, read: walks. (Printed by wip/pm.) | INTERVALS AS TEXTS: what is written, what is read. No program in sight. | INTERVALS AS TEXTS: written: walks. (Printed by wip/pm.)
-/
import Derived.Test.YtlngkiipgkociaaGreatDoorJLawPTexts2
import Derived.Shelf.Strings.Prefix
namespace Go.Proofs.YtlngkiipgkociaaGreatDoor.Pm
open Go Go.Proofs.YtlngkiipgkociaaGreatDoor.Pi

set_option maxRecDepth 100000 in
set_option maxHeartbeats 4000000 in
theorem sign_pc (r : Int) : PC Tryz.prog 30 [(.av (.int .i32 r))] [] (.tup [(iv ((signB r).1)), (bv ((signB r).2))]) [] := by
  refine pc_intro Tryz.func30 rfl (by kernel_rfl) (Nat.le_of_ble_eq_true rfl) (by kernel_rfl) (l0 := [ps 0 (.av (.int .i32 r))]) rfl (fun c0 Bor hc0 => ?_)
  refine T_seq ?_
  refine T_r mixed [] [ps 0 (.av (.int .i32 r))] (obs_nil) ?_
  refine T_seq <| T_seq ?_
  refine T_r mixed [] [ps 4 (.av (.int .i32 r))] (obs_nil) ?_
  refine T_block <| T_seq <| T_seq ?_
  refine T_r mixed [] [ps 4 (.av (.int .i32 r)), ps 5 (bv (decide (r = 9839)))] (obs_nil) ?_
  by_cases h1 : r = 9839
  · refine T_th (decide_eq_true h1) ?_
    refine T_skip ?_
    refine T_th (decide_eq_true h1) ?_
    refine T_seq ?_
    refine T_r mixed [] [ps 2 (iv 1), ps 3 (bv true)] (obs_nil) ?_
    rw [show signB r = (1, true) from by unfold signB; simp [*]]
    exact T_ret fun cx_ a_ hI_ => rt hc0 [ps 2 (iv 1), ps 3 (bv true)] [] hI_
  refine T_el (decide_eq_false h1) ?_
  refine T_r mixed [] [ps 4 (.av (.int .i32 r)), ps 5 (bv (decide (r = 35)))] (obs_nil) ?_
  by_cases h2 : r = 35
  · refine T_th (decide_eq_true h2) ?_
    refine T_seq ?_
    refine T_r mixed [] [ps 2 (iv 1), ps 3 (bv true)] (obs_nil) ?_
    rw [show signB r = (1, true) from by unfold signB; simp [*]]
    exact T_ret fun cx_ a_ hI_ => rt hc0 [ps 2 (iv 1), ps 3 (bv true)] [] hI_
  refine T_el (decide_eq_false h2) ?_
  refine T_seq <| T_seq ?_
  refine T_r mixed [] [ps 4 (.av (.int .i32 r)), ps 8 (bv (decide (r = 119082)))] (obs_nil) ?_
  by_cases h3 : r = 119082
  · refine T_th (decide_eq_true h3) ?_
    refine T_skip ?_
    refine T_th (decide_eq_true h3) ?_
    refine T_seq ?_
    refine T_r mixed [] [ps 2 (iv 2), ps 3 (bv true)] (obs_nil) ?_
    rw [show signB r = (2, true) from by unfold signB; simp [*]]
    exact T_ret fun cx_ a_ hI_ => rt hc0 [ps 2 (iv 2), ps 3 (bv true)] [] hI_
  refine T_el (decide_eq_false h3) ?_
  refine T_r mixed [] [ps 4 (.av (.int .i32 r)), ps 8 (bv (decide (r = 120)))] (obs_nil) ?_
  by_cases h4 : r = 120
  · refine T_th (decide_eq_true h4) ?_
    refine T_seq ?_
    refine T_r mixed [] [ps 2 (iv 2), ps 3 (bv true)] (obs_nil) ?_
    rw [show signB r = (2, true) from by unfold signB; simp [*]]
    exact T_ret fun cx_ a_ hI_ => rt hc0 [ps 2 (iv 2), ps 3 (bv true)] [] hI_
  refine T_el (decide_eq_false h4) ?_
  refine T_seq <| T_seq ?_
  refine T_r mixed [] [ps 4 (.av (.int .i32 r)), ps 11 (bv (decide (r = 9837)))] (obs_nil) ?_
  by_cases h5 : r = 9837
  · refine T_th (decide_eq_true h5) ?_
    refine T_skip ?_
    refine T_th (decide_eq_true h5) ?_
    refine T_seq ?_
    refine T_r mixed [] [ps 2 (iv (-1)), ps 3 (bv true)] (obs_nil) ?_
    rw [show signB r = (-1, true) from by unfold signB; simp [*]]
    exact T_ret fun cx_ a_ hI_ => rt hc0 [ps 2 (iv (-1)), ps 3 (bv true)] [] hI_
  refine T_el (decide_eq_false h5) ?_
  refine T_r mixed [] [ps 4 (.av (.int .i32 r)), ps 11 (bv (decide (r = 98)))] (obs_nil) ?_
  by_cases h6 : r = 98
  · refine T_th (decide_eq_true h6) ?_
    refine T_seq ?_
    refine T_r mixed [] [ps 2 (iv (-1)), ps 3 (bv true)] (obs_nil) ?_
    rw [show signB r = (-1, true) from by unfold signB; simp [*]]
    exact T_ret fun cx_ a_ hI_ => rt hc0 [ps 2 (iv (-1)), ps 3 (bv true)] [] hI_
  refine T_el (decide_eq_false h6) ?_
  refine T_seq ?_
  refine T_r mixed [] [ps 14 (bv (decide (r = 119083)))] (obs_nil) ?_
  by_cases h7 : r = 119083
  · refine T_th (decide_eq_true h7) ?_
    refine T_seq ?_
    refine T_r mixed [] [ps 2 (iv (-2)), ps 3 (bv true)] (obs_nil) ?_
    rw [show signB r = (-2, true) from by unfold signB; simp [*]]
    exact T_ret fun cx_ a_ hI_ => rt hc0 [ps 2 (iv (-2)), ps 3 (bv true)] [] hI_
  refine T_el (decide_eq_false h7) ?_
  refine T_skip <| T_blk <| T_seq ?_
  refine T_r mixed [] [ps 2 (iv 0), ps 3 (bv false)] (obs_nil) ?_
  rw [show signB r = (0, false) from by unfold signB; simp [*]]
  exact T_ret fun cx_ a_ hI_ => rt hc0 [ps 2 (iv 0), ps 3 (bv false)] [] hI_
set_option maxRecDepth 100000 in
set_option maxHeartbeats 4000000 in
theorem number_pc (s : List UInt8) (hs : s.length ≤ 9223372036854775807) : PC Tryz.prog 31 [(sv (st s))] [] (.tup [(iv ((numS s).1)), (bv ((numS s).2))]) [] := by
  refine pc_intro Tryz.func31 rfl (by kernel_rfl) (Nat.le_of_ble_eq_true rfl) (by kernel_rfl) (l0 := [ps 0 (sv (st s))]) rfl (fun c0 Bor hc0 => ?_)
  refine T_seq ?_
  refine T_r mixed [] [ps 0 (sv (st s))] (obs_nil) ?_
  refine T_seq ?_
  refine T_r mixed [(1, .call [] [(sv (st s)), (sv (st ([45] : List UInt8)))] [] (bv (Lib.hasPrefix s ([45] : List UInt8))) [])] [ps 0 (sv (st s)), ps 4 (bv (Lib.hasPrefix s ([45] : List UInt8)))] (obs_cons (hasPrefix_pc s ([45] : List UInt8)) (obs_cons (rfl : Ren0 24 [(sv (st s)), (sv (st ([45] : List UInt8)))]) obs_nil)) ?_
  refine T_seq <| T_seq ?_
  refine T_r mixed [] [ps 0 (sv (st s)), ps 4 (bv (Lib.hasPrefix s ([45] : List UInt8))), ps 9 (bv (Lib.hasPrefix s ([45] : List UInt8)))] (obs_nil) ?_
  by_cases h1 : (Lib.hasPrefix s ([45] : List UInt8)) = true
  · refine T_then (b := (Lib.hasPrefix s ([45] : List UInt8))) rfl h1 ?_
    have hp1 := pre_len h1
    refine T_r mixed [(1, .val (.av (.string (st (s.drop 1)))))] [ps 0 (sv (st (s.drop 1))), ps 4 (bv (Lib.hasPrefix s ([45] : List UInt8)))] (obs_cons (by first | omega | (simp only [List.length_cons, List.length_nil, List.length_drop, List.length_append, List.length_take]; omega) : (0 : Int) ≤ (1 : Int) ∧ (1 : Int) ≤ ((s.length : Nat) : Int) ∧ ((s.length : Nat) : Int) ≤ ((s.length : Nat) : Int)) (obs_cons (st_from _ _ _ rfl : (st s).extract ((1 : Int) : Int).toNat (((s.length : Nat) : Int) : Int).toNat = st (s.drop 1)) obs_nil)) ?_
    refine T_seq <| T_seq ?_
    by_cases h2 : (s.drop 1) = ([] : List UInt8)
    · refine T_r mixed [(1, .val (.av (.bool (decide ((s.drop 1) = ([] : List UInt8)))))), (3, .gd true .no), (4, .gd true .no), (5, .gd true .no), (6, .yes true), (8, .gd true .no), (9, .gd true .no), (10, .gd true .no), (11, .gd true .no), (18, .gd true .no), (21, .gd true .no), (22, .gd true .no), (23, .gd true .no)] [ps 0 (sv (st (s.drop 1))), ps 4 (bv (Lib.hasPrefix s ([45] : List UInt8))), ps 36 (bv true)] (obs_cons (st_eq _ _ : ((st (s.drop 1)).toList == (st ([] : List UInt8)).toList) = decide ((s.drop 1) = ([] : List UInt8))) (obs_cons (decide_eq_true h2) (obs_cons (decide_eq_true h2) (obs_cons (decide_eq_true h2) (obs_cons (decide_eq_true h2) (obs_cons (rfl : true = true) (obs_cons (rfl : true = true) (obs_cons (rfl : true = true) (obs_cons (rfl : true = true) (obs_cons (rfl : true = true) (obs_cons (rfl : true = true) (obs_cons (rfl : true = true) (obs_cons (rfl : true = true) obs_nil))))))))))))) ?_
      refine T_then (b := true) rfl rfl ?_
      refine T_seq ?_
      refine T_r mixed [] [ps 2 (iv 0), ps 3 (bv false)] (obs_nil) ?_
      rw [numS_no (s := s) (by rw [body_min h1]; exact .inl h2)]
      exact T_ret fun cx_ a_ hI_ => rt hc0 [ps 2 (iv 0), ps 3 (bv false)] [] hI_
    by_cases h3 : 4 < (((s.drop 1).length : Nat) : Int)
    · refine T_r mixed [(1, .val (.av (.bool (decide ((s.drop 1) = ([] : List UInt8)))))), (3, .gd false (.no)), (4, .gd false (.no)), (5, .gd false (.no)), (6, .yes false), (8, .gd true .no), (9, .gd true .no), (10, .gd true .no), (11, .gd true .no), (18, .gd true .no), (19, .yes true), (21, .gd true .no), (22, .gd true .no), (23, .gd true .no)] [ps 0 (sv (st (s.drop 1))), ps 4 (bv (Lib.hasPrefix s ([45] : List UInt8))), ps 36 (bv true)] (obs_cons (st_eq _ _ : ((st (s.drop 1)).toList == (st ([] : List UInt8)).toList) = decide ((s.drop 1) = ([] : List UInt8))) (obs_cons (decide_eq_false h2) (obs_cons (decide_eq_false h2) (obs_cons (decide_eq_false h2) (obs_cons (decide_eq_false h2) (obs_cons (decide_eq_true h3) (obs_cons (decide_eq_true h3) (obs_cons (decide_eq_true h3) (obs_cons (decide_eq_true h3) (obs_cons (decide_eq_true h3) (obs_cons (decide_eq_true h3) (obs_cons (rfl : true = true) (obs_cons (rfl : true = true) (obs_cons (rfl : true = true) obs_nil)))))))))))))) ?_
      refine T_then (b := true) rfl rfl ?_
      refine T_seq ?_
      refine T_r mixed [] [ps 2 (iv 0), ps 3 (bv false)] (obs_nil) ?_
      rw [numS_no (s := s) (by rw [body_min h1]; exact .inr (.inl (by omega)))]
      exact T_ret fun cx_ a_ hI_ => rt hc0 [ps 2 (iv 0), ps 3 (bv false)] [] hI_
    by_cases h4 : ((((s.drop 1).getD 0 0).toNat : Nat) : Int) = 48
    · by_cases h5 : 1 < (((s.drop 1).length : Nat) : Int)
      · refine T_r mixed [(1, .val (.av (.bool (decide ((s.drop 1) = ([] : List UInt8)))))), (3, .gd false (.no)), (4, .gd false (.no)), (5, .gd false (.no)), (6, .yes false), (8, .gd false (.no)), (9, .gd false (.no)), (10, .gd false (.no)), (11, .gd false (.no)), (12, .gd true (.no)), (13, .gd true (.no)), (14, .gd true (.no)), (15, .gd true (.no)), (16, .gd true .no), (17, .gd true (.yes true)), (18, .gd false (.yes true)), (19, .yes false), (21, .gd true .no), (22, .gd true .no), (23, .gd true .no)] [ps 0 (sv (st (s.drop 1))), ps 4 (bv (Lib.hasPrefix s ([45] : List UInt8))), ps 36 (bv true)] (obs_cons (st_eq _ _ : ((st (s.drop 1)).toList == (st ([] : List UInt8)).toList) = decide ((s.drop 1) = ([] : List UInt8))) (obs_cons (decide_eq_false h2) (obs_cons (decide_eq_false h2) (obs_cons (decide_eq_false h2) (obs_cons (decide_eq_false h2) (obs_cons (decide_eq_false h3) (obs_cons (decide_eq_false h3) (obs_cons (by have := List.length_pos_iff.2 h2; omega : (0 : Int) ≤ 0 ∧ 0 < (((s.drop 1).length : Nat) : Int)) (obs_cons (decide_eq_false h3) (obs_cons (decide_eq_false h3) (obs_cons (decide_eq_true h4) (obs_cons (decide_eq_true h4) (obs_cons (decide_eq_true h4) (obs_cons (decide_eq_true h4) (obs_cons (decide_eq_true h5) (obs_cons (decide_eq_true h4) (obs_cons (decide_eq_true h5) (obs_cons (decide_eq_false h3) (obs_cons (decide_eq_true h4) (obs_cons (decide_eq_false h3) (obs_cons (rfl : true = true) (obs_cons (rfl : true = true) (obs_cons (rfl : true = true) obs_nil))))))))))))))))))))))) ?_
        refine T_then (b := true) rfl rfl ?_
        refine T_seq ?_
        refine T_r mixed [] [ps 2 (iv 0), ps 3 (bv false)] (obs_nil) ?_
        rw [numS_no (s := s) (by rw [body_min h1]; exact .inr (.inr (.inl ⟨by omega, .inl (by omega)⟩)))]
        exact T_ret fun cx_ a_ hI_ => rt hc0 [ps 2 (iv 0), ps 3 (bv false)] [] hI_
      refine T_r mixed [(1, .val (.av (.bool (decide ((s.drop 1) = ([] : List UInt8)))))), (3, .gd false (.no)), (4, .gd false (.no)), (5, .gd false (.no)), (6, .yes false), (8, .gd false (.no)), (9, .gd false (.no)), (10, .gd false (.no)), (11, .gd false (.no)), (12, .gd true (.no)), (13, .gd true (.no)), (14, .gd true (.no)), (15, .gd true (.no)), (16, .gd false (.no)), (17, .gd true (.yes false)), (18, .gd false (.yes true)), (19, .yes false), (21, .gd true .no), (22, .gd true .no), (23, .gd true .no), (24, .yes true)] [ps 0 (sv (st (s.drop 1))), ps 4 (bv (Lib.hasPrefix s ([45] : List UInt8))), ps 36 (bv true)] (obs_cons (st_eq _ _ : ((st (s.drop 1)).toList == (st ([] : List UInt8)).toList) = decide ((s.drop 1) = ([] : List UInt8))) (obs_cons (decide_eq_false h2) (obs_cons (decide_eq_false h2) (obs_cons (decide_eq_false h2) (obs_cons (decide_eq_false h2) (obs_cons (decide_eq_false h3) (obs_cons (decide_eq_false h3) (obs_cons (by have := List.length_pos_iff.2 h2; omega : (0 : Int) ≤ 0 ∧ 0 < (((s.drop 1).length : Nat) : Int)) (obs_cons (decide_eq_false h3) (obs_cons (decide_eq_false h3) (obs_cons (decide_eq_true h4) (obs_cons (decide_eq_true h4) (obs_cons (decide_eq_true h4) (obs_cons (decide_eq_true h4) (obs_cons (decide_eq_false h5) (obs_cons (decide_eq_true h4) (obs_cons (decide_eq_false h5) (obs_cons (decide_eq_false h3) (obs_cons (decide_eq_true h4) (obs_cons (decide_eq_false h3) (obs_cons (h1 : (Lib.hasPrefix s ([45] : List UInt8)) = true) (obs_cons (h1 : (Lib.hasPrefix s ([45] : List UInt8)) = true) (obs_cons (h1 : (Lib.hasPrefix s ([45] : List UInt8)) = true) (obs_cons (h1 : (Lib.hasPrefix s ([45] : List UInt8)) = true) obs_nil)))))))))))))))))))))))) ?_
      refine T_then (b := true) rfl rfl ?_
      refine T_seq ?_
      refine T_r mixed [] [ps 2 (iv 0), ps 3 (bv false)] (obs_nil) ?_
      rw [numS_no (s := s) (by rw [body_min h1]; exact .inr (.inr (.inl ⟨by omega, .inr h1⟩)))]
      exact T_ret fun cx_ a_ hI_ => rt hc0 [ps 2 (iv 0), ps 3 (bv false)] [] hI_
    refine T_r mixed [(1, .val (.av (.bool (decide ((s.drop 1) = ([] : List UInt8)))))), (3, .gd false (.no)), (4, .gd false (.no)), (5, .gd false (.no)), (6, .yes false), (8, .gd false (.no)), (9, .gd false (.no)), (10, .gd false (.no)), (11, .gd false (.no)), (12, .gd false .no), (13, .gd false .no), (14, .gd false .no), (15, .gd false .no), (17, .gd false .no), (18, .gd false (.yes false)), (19, .yes false), (21, .gd false (.no)), (22, .gd false (.call [] [(sv (st (s.drop 1))), (sv (st digs))] [] (sv (st (Lib.trimS (s.drop 1) digs))) [])), (23, .gd false (.val (.av (.bool (!decide ((Lib.trimS (s.drop 1) digs) = ([] : List UInt8)))))))] [ps 0 (sv (st (s.drop 1))), ps 4 (bv (Lib.hasPrefix s ([45] : List UInt8))), ps 36 (bv (!(decide ((Lib.trimS (s.drop 1) digs) = ([] : List UInt8)))))] (obs_cons (st_eq _ _ : ((st (s.drop 1)).toList == (st ([] : List UInt8)).toList) = decide ((s.drop 1) = ([] : List UInt8))) (obs_cons (decide_eq_false h2) (obs_cons (decide_eq_false h2) (obs_cons (decide_eq_false h2) (obs_cons (decide_eq_false h2) (obs_cons (decide_eq_false h3) (obs_cons (decide_eq_false h3) (obs_cons (by have := List.length_pos_iff.2 h2; omega : (0 : Int) ≤ 0 ∧ 0 < (((s.drop 1).length : Nat) : Int)) (obs_cons (decide_eq_false h3) (obs_cons (decide_eq_false h3) (obs_cons (decide_eq_false h4) (obs_cons (decide_eq_false h4) (obs_cons (decide_eq_false h4) (obs_cons (decide_eq_false h4) (obs_cons (decide_eq_false h4) (obs_cons (decide_eq_false h3) (obs_cons (decide_eq_false h4) (obs_cons (decide_eq_false h3) (obs_cons (rfl : false = false) (obs_cons (rfl : false = false) (obs_cons (trim_pc (s.drop 1) digs (by rw [List.length_drop]; omega) (by decide) digs_ascii) (obs_cons (rfl : [(sv (st (s.drop 1))), (sv (st ([48, 49, 50, 51, 52, 53, 54, 55, 56, 57] : List UInt8)))] = renL (sigi [] 248) [(sv (st (s.drop 1))), (sv (st digs))]) (obs_cons (rfl : false = false) (obs_cons (st_ne _ _ : (!((st (Lib.trimS (s.drop 1) digs)).toList == (st ([] : List UInt8)).toList)) = !decide ((Lib.trimS (s.drop 1) digs) = ([] : List UInt8))) obs_nil)))))))))))))))))))))))) ?_
    by_cases h6 : (Lib.trimS (s.drop 1) digs) = ([] : List UInt8)
    · refine T_el (bt h6) ?_
      refine T_skip <| T_seq ?_
      have hv := num_val (noNum_not (m := Lib.hasPrefix s [45]) (t := (s.drop 1)) h2 h3 (.inl h4) h6)
      refine T_r mixed [(1, .call [] [(sv (st (s.drop 1)))] [] (.tup [(iv (atoiN (s.drop 1))), (.av .nilIface)]) [])] [ps 4 (bv (Lib.hasPrefix s ([45] : List UInt8))), ps 5 (iv (atoiN (s.drop 1)))] (obs_cons (atoi_pc (s.drop 1) _ (by omega) hv.1 : PC Tryz.prog 48 [(sv (st (s.drop 1)))] [] (.tup [(iv (atoiN (s.drop 1))), (.av .nilIface)]) []) (obs_cons (rfl : Ren0 280 [(sv (st (s.drop 1)))]) obs_nil)) ?_
      refine T_seq <| T_seq ?_
      refine T_r mixed [] [ps 5 (iv (atoiN (s.drop 1))), ps 42 (bv (Lib.hasPrefix s ([45] : List UInt8)))] (obs_nil) ?_
      refine T_then (b := (Lib.hasPrefix s ([45] : List UInt8))) rfl h1 ?_
      refine T_r mixed [] [ps 5 (iv (0 - (atoiN (s.drop 1))))] (obs_cons (by simp only [InK]; omega : InK .i64 (0 - (atoiN (s.drop 1)))) obs_nil) ?_
      refine T_seq ?_
      refine T_r mixed [] [ps 2 (iv (0 - (atoiN (s.drop 1)))), ps 3 (bv true)] (obs_nil) ?_
      rw [numS_neg (s := s) (noNum_not (m := Lib.hasPrefix s [45]) (t := (s.drop 1)) h2 h3 (.inl h4) h6) h1]
      exact T_ret fun cx_ a_ hI_ => rt hc0 [ps 2 (iv (0 - (atoiN (s.drop 1)))), ps 3 (bv true)] [] hI_
    refine T_th (bf h6) ?_
    refine T_seq ?_
    refine T_r mixed [] [ps 2 (iv 0), ps 3 (bv false)] (obs_nil) ?_
    rw [numS_no (s := s) (by rw [body_min h1]; exact .inr (.inr (.inr h6)))]
    exact T_ret fun cx_ a_ hI_ => rt hc0 [ps 2 (iv 0), ps 3 (bv false)] [] hI_
  refine T_else (b := (Lib.hasPrefix s ([45] : List UInt8))) rfl (Bool.eq_false_iff.2 h1) ?_
  refine T_skip <| T_seq <| T_seq ?_
  by_cases h7 : s = ([] : List UInt8)
  · refine T_r mixed [(1, .val (.av (.bool (decide (s = ([] : List UInt8)))))), (3, .gd true .no), (4, .gd true .no), (5, .gd true .no), (6, .yes true), (8, .gd true .no), (9, .gd true .no), (10, .gd true .no), (11, .gd true .no), (18, .gd true .no), (21, .gd true .no), (22, .gd true .no), (23, .gd true .no)] [ps 0 (sv (st s)), ps 4 (bv (Lib.hasPrefix s ([45] : List UInt8))), ps 36 (bv true)] (obs_cons (st_eq _ _ : ((st s).toList == (st ([] : List UInt8)).toList) = decide (s = ([] : List UInt8))) (obs_cons (decide_eq_true h7) (obs_cons (decide_eq_true h7) (obs_cons (decide_eq_true h7) (obs_cons (decide_eq_true h7) (obs_cons (rfl : true = true) (obs_cons (rfl : true = true) (obs_cons (rfl : true = true) (obs_cons (rfl : true = true) (obs_cons (rfl : true = true) (obs_cons (rfl : true = true) (obs_cons (rfl : true = true) (obs_cons (rfl : true = true) obs_nil))))))))))))) ?_
    refine T_then (b := true) rfl rfl ?_
    refine T_seq ?_
    refine T_r mixed [] [ps 2 (iv 0), ps 3 (bv false)] (obs_nil) ?_
    rw [numS_no (s := s) (by rw [body_plain h1]; exact .inl h7)]
    exact T_ret fun cx_ a_ hI_ => rt hc0 [ps 2 (iv 0), ps 3 (bv false)] [] hI_
  by_cases h8 : 4 < ((s.length : Nat) : Int)
  · refine T_r mixed [(1, .val (.av (.bool (decide (s = ([] : List UInt8)))))), (3, .gd false (.no)), (4, .gd false (.no)), (5, .gd false (.no)), (6, .yes false), (8, .gd true .no), (9, .gd true .no), (10, .gd true .no), (11, .gd true .no), (18, .gd true .no), (19, .yes true), (21, .gd true .no), (22, .gd true .no), (23, .gd true .no)] [ps 0 (sv (st s)), ps 4 (bv (Lib.hasPrefix s ([45] : List UInt8))), ps 36 (bv true)] (obs_cons (st_eq _ _ : ((st s).toList == (st ([] : List UInt8)).toList) = decide (s = ([] : List UInt8))) (obs_cons (decide_eq_false h7) (obs_cons (decide_eq_false h7) (obs_cons (decide_eq_false h7) (obs_cons (decide_eq_false h7) (obs_cons (decide_eq_true h8) (obs_cons (decide_eq_true h8) (obs_cons (decide_eq_true h8) (obs_cons (decide_eq_true h8) (obs_cons (decide_eq_true h8) (obs_cons (decide_eq_true h8) (obs_cons (rfl : true = true) (obs_cons (rfl : true = true) (obs_cons (rfl : true = true) obs_nil)))))))))))))) ?_
    refine T_then (b := true) rfl rfl ?_
    refine T_seq ?_
    refine T_r mixed [] [ps 2 (iv 0), ps 3 (bv false)] (obs_nil) ?_
    rw [numS_no (s := s) (by rw [body_plain h1]; exact .inr (.inl (by omega)))]
    exact T_ret fun cx_ a_ hI_ => rt hc0 [ps 2 (iv 0), ps 3 (bv false)] [] hI_
  by_cases h9 : (((s.getD 0 0).toNat : Nat) : Int) = 48
  · by_cases h10 : 1 < ((s.length : Nat) : Int)
    · refine T_r mixed [(1, .val (.av (.bool (decide (s = ([] : List UInt8)))))), (3, .gd false (.no)), (4, .gd false (.no)), (5, .gd false (.no)), (6, .yes false), (8, .gd false (.no)), (9, .gd false (.no)), (10, .gd false (.no)), (11, .gd false (.no)), (12, .gd true (.no)), (13, .gd true (.no)), (14, .gd true (.no)), (15, .gd true (.no)), (16, .gd true .no), (17, .gd true (.yes true)), (18, .gd false (.yes true)), (19, .yes false), (21, .gd true .no), (22, .gd true .no), (23, .gd true .no)] [ps 0 (sv (st s)), ps 4 (bv (Lib.hasPrefix s ([45] : List UInt8))), ps 36 (bv true)] (obs_cons (st_eq _ _ : ((st s).toList == (st ([] : List UInt8)).toList) = decide (s = ([] : List UInt8))) (obs_cons (decide_eq_false h7) (obs_cons (decide_eq_false h7) (obs_cons (decide_eq_false h7) (obs_cons (decide_eq_false h7) (obs_cons (decide_eq_false h8) (obs_cons (decide_eq_false h8) (obs_cons (by have := List.length_pos_iff.2 h7; omega : (0 : Int) ≤ 0 ∧ 0 < ((s.length : Nat) : Int)) (obs_cons (decide_eq_false h8) (obs_cons (decide_eq_false h8) (obs_cons (decide_eq_true h9) (obs_cons (decide_eq_true h9) (obs_cons (decide_eq_true h9) (obs_cons (decide_eq_true h9) (obs_cons (decide_eq_true h10) (obs_cons (decide_eq_true h9) (obs_cons (decide_eq_true h10) (obs_cons (decide_eq_false h8) (obs_cons (decide_eq_true h9) (obs_cons (decide_eq_false h8) (obs_cons (rfl : true = true) (obs_cons (rfl : true = true) (obs_cons (rfl : true = true) obs_nil))))))))))))))))))))))) ?_
      refine T_then (b := true) rfl rfl ?_
      refine T_seq ?_
      refine T_r mixed [] [ps 2 (iv 0), ps 3 (bv false)] (obs_nil) ?_
      rw [numS_no (s := s) (by rw [body_plain h1]; exact .inr (.inr (.inl ⟨by omega, .inl (by omega)⟩)))]
      exact T_ret fun cx_ a_ hI_ => rt hc0 [ps 2 (iv 0), ps 3 (bv false)] [] hI_
    refine T_r mixed [(1, .val (.av (.bool (decide (s = ([] : List UInt8)))))), (3, .gd false (.no)), (4, .gd false (.no)), (5, .gd false (.no)), (6, .yes false), (8, .gd false (.no)), (9, .gd false (.no)), (10, .gd false (.no)), (11, .gd false (.no)), (12, .gd true (.no)), (13, .gd true (.no)), (14, .gd true (.no)), (15, .gd true (.no)), (16, .gd false (.no)), (17, .gd true (.yes false)), (18, .gd false (.yes true)), (19, .yes false), (21, .gd false (.no)), (22, .gd false (.call [] [(sv (st s)), (sv (st digs))] [] (sv (st (Lib.trimS s digs))) [])), (23, .gd false (.val (.av (.bool (!decide ((Lib.trimS s digs) = ([] : List UInt8))))))), (24, .yes false)] [ps 0 (sv (st s)), ps 4 (bv (Lib.hasPrefix s ([45] : List UInt8))), ps 36 (bv (!(decide ((Lib.trimS s digs) = ([] : List UInt8)))))] (obs_cons (st_eq _ _ : ((st s).toList == (st ([] : List UInt8)).toList) = decide (s = ([] : List UInt8))) (obs_cons (decide_eq_false h7) (obs_cons (decide_eq_false h7) (obs_cons (decide_eq_false h7) (obs_cons (decide_eq_false h7) (obs_cons (decide_eq_false h8) (obs_cons (decide_eq_false h8) (obs_cons (by have := List.length_pos_iff.2 h7; omega : (0 : Int) ≤ 0 ∧ 0 < ((s.length : Nat) : Int)) (obs_cons (decide_eq_false h8) (obs_cons (decide_eq_false h8) (obs_cons (decide_eq_true h9) (obs_cons (decide_eq_true h9) (obs_cons (decide_eq_true h9) (obs_cons (decide_eq_true h9) (obs_cons (decide_eq_false h10) (obs_cons (decide_eq_true h9) (obs_cons (decide_eq_false h10) (obs_cons (decide_eq_false h8) (obs_cons (decide_eq_true h9) (obs_cons (decide_eq_false h8) (obs_cons (Bool.eq_false_iff.2 h1 : (Lib.hasPrefix s ([45] : List UInt8)) = false) (obs_cons (Bool.eq_false_iff.2 h1 : (Lib.hasPrefix s ([45] : List UInt8)) = false) (obs_cons (trim_pc s digs hs (by decide) digs_ascii) (obs_cons (rfl : [(sv (st s)), (sv (st ([48, 49, 50, 51, 52, 53, 54, 55, 56, 57] : List UInt8)))] = renL (sigi [] 224) [(sv (st s)), (sv (st digs))]) (obs_cons (Bool.eq_false_iff.2 h1 : (Lib.hasPrefix s ([45] : List UInt8)) = false) (obs_cons (st_ne _ _ : (!((st (Lib.trimS s digs)).toList == (st ([] : List UInt8)).toList)) = !decide ((Lib.trimS s digs) = ([] : List UInt8))) (obs_cons (Bool.eq_false_iff.2 h1 : (Lib.hasPrefix s ([45] : List UInt8)) = false) obs_nil))))))))))))))))))))))))))) ?_
    by_cases h11 : (Lib.trimS s digs) = ([] : List UInt8)
    · refine T_el (bt h11) ?_
      refine T_skip <| T_seq ?_
      have hv := num_val (noNum_not (m := Lib.hasPrefix s [45]) (t := s) h7 h8 (.inr ⟨h10, h1⟩) h11)
      refine T_r mixed [(1, .call [] [(sv (st s))] [] (.tup [(iv (atoiN s)), (.av .nilIface)]) [])] [ps 4 (bv (Lib.hasPrefix s ([45] : List UInt8))), ps 5 (iv (atoiN s))] (obs_cons (atoi_pc s _ (by omega) hv.1 : PC Tryz.prog 48 [(sv (st s))] [] (.tup [(iv (atoiN s)), (.av .nilIface)]) []) (obs_cons (rfl : Ren0 256 [(sv (st s))]) obs_nil)) ?_
      refine T_seq <| T_seq ?_
      refine T_r mixed [] [ps 5 (iv (atoiN s)), ps 42 (bv (Lib.hasPrefix s ([45] : List UInt8)))] (obs_nil) ?_
      refine T_else (b := (Lib.hasPrefix s ([45] : List UInt8))) rfl (Bool.eq_false_iff.2 h1) ?_
      refine T_skip <| T_seq ?_
      refine T_r mixed [] [ps 2 (iv (atoiN s)), ps 3 (bv true)] (obs_nil) ?_
      rw [numS_pos (s := s) (noNum_not (m := Lib.hasPrefix s [45]) (t := s) h7 h8 (.inr ⟨h10, h1⟩) h11) h1]
      exact T_ret fun cx_ a_ hI_ => rt hc0 [ps 2 (iv (atoiN s)), ps 3 (bv true)] [] hI_
    refine T_th (bf h11) ?_
    refine T_seq ?_
    refine T_r mixed [] [ps 2 (iv 0), ps 3 (bv false)] (obs_nil) ?_
    rw [numS_no (s := s) (by rw [body_plain h1]; exact .inr (.inr (.inr h11)))]
    exact T_ret fun cx_ a_ hI_ => rt hc0 [ps 2 (iv 0), ps 3 (bv false)] [] hI_
  refine T_r mixed [(1, .val (.av (.bool (decide (s = ([] : List UInt8)))))), (3, .gd false (.no)), (4, .gd false (.no)), (5, .gd false (.no)), (6, .yes false), (8, .gd false (.no)), (9, .gd false (.no)), (10, .gd false (.no)), (11, .gd false (.no)), (12, .gd false .no), (13, .gd false .no), (14, .gd false .no), (15, .gd false .no), (17, .gd false .no), (18, .gd false (.yes false)), (19, .yes false), (21, .gd false (.no)), (22, .gd false (.call [] [(sv (st s)), (sv (st digs))] [] (sv (st (Lib.trimS s digs))) [])), (23, .gd false (.val (.av (.bool (!decide ((Lib.trimS s digs) = ([] : List UInt8)))))))] [ps 0 (sv (st s)), ps 4 (bv (Lib.hasPrefix s ([45] : List UInt8))), ps 36 (bv (!(decide ((Lib.trimS s digs) = ([] : List UInt8)))))] (obs_cons (st_eq _ _ : ((st s).toList == (st ([] : List UInt8)).toList) = decide (s = ([] : List UInt8))) (obs_cons (decide_eq_false h7) (obs_cons (decide_eq_false h7) (obs_cons (decide_eq_false h7) (obs_cons (decide_eq_false h7) (obs_cons (decide_eq_false h8) (obs_cons (decide_eq_false h8) (obs_cons (by have := List.length_pos_iff.2 h7; omega : (0 : Int) ≤ 0 ∧ 0 < ((s.length : Nat) : Int)) (obs_cons (decide_eq_false h8) (obs_cons (decide_eq_false h8) (obs_cons (decide_eq_false h9) (obs_cons (decide_eq_false h9) (obs_cons (decide_eq_false h9) (obs_cons (decide_eq_false h9) (obs_cons (decide_eq_false h9) (obs_cons (decide_eq_false h8) (obs_cons (decide_eq_false h9) (obs_cons (decide_eq_false h8) (obs_cons (rfl : false = false) (obs_cons (rfl : false = false) (obs_cons (trim_pc s digs hs (by decide) digs_ascii) (obs_cons (rfl : [(sv (st s)), (sv (st ([48, 49, 50, 51, 52, 53, 54, 55, 56, 57] : List UInt8)))] = renL (sigi [] 224) [(sv (st s)), (sv (st digs))]) (obs_cons (rfl : false = false) (obs_cons (st_ne _ _ : (!((st (Lib.trimS s digs)).toList == (st ([] : List UInt8)).toList)) = !decide ((Lib.trimS s digs) = ([] : List UInt8))) obs_nil)))))))))))))))))))))))) ?_
  by_cases h12 : (Lib.trimS s digs) = ([] : List UInt8)
  · refine T_el (bt h12) ?_
    refine T_skip <| T_seq ?_
    have hv := num_val (noNum_not (m := Lib.hasPrefix s [45]) (t := s) h7 h8 (.inl h9) h12)
    refine T_r mixed [(1, .call [] [(sv (st s))] [] (.tup [(iv (atoiN s)), (.av .nilIface)]) [])] [ps 4 (bv (Lib.hasPrefix s ([45] : List UInt8))), ps 5 (iv (atoiN s))] (obs_cons (atoi_pc s _ (by omega) hv.1 : PC Tryz.prog 48 [(sv (st s))] [] (.tup [(iv (atoiN s)), (.av .nilIface)]) []) (obs_cons (rfl : Ren0 256 [(sv (st s))]) obs_nil)) ?_
    refine T_seq <| T_seq ?_
    refine T_r mixed [] [ps 5 (iv (atoiN s)), ps 42 (bv (Lib.hasPrefix s ([45] : List UInt8)))] (obs_nil) ?_
    refine T_else (b := (Lib.hasPrefix s ([45] : List UInt8))) rfl (Bool.eq_false_iff.2 h1) ?_
    refine T_skip <| T_seq ?_
    refine T_r mixed [] [ps 2 (iv (atoiN s)), ps 3 (bv true)] (obs_nil) ?_
    rw [numS_pos (s := s) (noNum_not (m := Lib.hasPrefix s [45]) (t := s) h7 h8 (.inl h9) h12) h1]
    exact T_ret fun cx_ a_ hI_ => rt hc0 [ps 2 (iv (atoiN s)), ps 3 (bv true)] [] hI_
  refine T_th (bf h12) ?_
  refine T_seq ?_
  refine T_r mixed [] [ps 2 (iv 0), ps 3 (bv false)] (obs_nil) ?_
  rw [numS_no (s := s) (by rw [body_plain h1]; exact .inr (.inr (.inr h12)))]
  exact T_ret fun cx_ a_ hI_ => rt hc0 [ps 2 (iv 0), ps 3 (bv false)] [] hI_
end Go.Proofs.YtlngkiipgkociaaGreatDoor.Pm
namespace Go.Proofs.YtlngkiipgkociaaGreatDoor.Pm
open Go Go.Proofs.YtlngkiipgkociaaGreatDoor.Pi

set_option maxRecDepth 100000 in
set_option maxHeartbeats 4000000 in
theorem print_pc (l a o : Int) : PC Tryz.prog 4 [(.agg [(iv l), (iv a), (iv o)])] [] (.tup [(sv (st ((printS l a o).1))), (iv ((printS l a o).2))]) [] := by
  refine pc_intro Tryz.func4 rfl (by kernel_rfl) (Nat.le_of_ble_eq_true rfl) (by kernel_rfl) (l0 := [ps 0 (.agg [(iv l), (iv a), (iv o)])]) rfl (fun c0 Bor hc0 => ?_)
  refine T_seq ?_
  refine T_r mixed [] [ps 1 (.opt 0 0), pb 0 23 [(iv l), (iv a), (iv o)]] (obs_nil) ?_
  refine T_seq <| T_seq ?_
  refine T_r mixed [(1, .call [] [(.agg [(iv l), (iv a), (iv o)])] [] (bv (Pi.rightB l a o)) [])] [ps 1 (.opt 0 0), ps 7 (bv (!(Pi.rightB l a o))), pb 0 23 [(iv l), (iv a), (iv o)]] (obs_cons (pright_pc l a o) (obs_cons (rfl : Ren0 32 [(.agg [(iv l), (iv a), (iv o)])]) obs_nil)) ?_
  by_cases h1 : (Pi.rightB l a o) = true
  · refine T_el (congrArg Bool.not h1) ?_
    refine T_skip <| T_seq ?_
    have hr := Pi.rightB_iff.1 h1
    have hl1 := letter_len l
    have hl2 := itoa_len (o := o) (by omega) (by omega)
    refine T_r mixed [] [ps 1 (.opt 0 0), ps 4 (sv (st ([] : List UInt8))), pb 0 23 [(iv l), (iv a), (iv o)]] (obs_nil) ?_
    refine T_seq <| T_seq ?_
    refine T_r mixed [] [ps 1 (.opt 0 0), ps 4 (sv (st ([] : List UInt8))), ps 9 (iv a), pb 0 23 [(iv l), (iv a), (iv o)]] (obs_nil) ?_
    refine T_block <| T_seq ?_
    refine T_r mixed [] [ps 1 (.opt 0 0), ps 4 (sv (st ([] : List UInt8))), ps 9 (iv a), ps 10 (bv (decide (a = 1))), pb 0 23 [(iv l), (iv a), (iv o)]] (obs_nil) ?_
    by_cases h2 : a = 1
    · refine T_th (decide_eq_true h2) ?_
      refine T_r mixed [] [ps 1 (.opt 0 0), ps 4 (sv (st ([226, 153, 175] : List UInt8))), pb 0 23 [(iv l), (iv a), (iv o)]] (obs_nil) ?_
      refine T_blk <| T_seq ?_
      refine T_rd mixed [(5, .val (.av (.string (st ((letB.drop l.toNat).take 1))))), (7, .val (.av (.string (st (((letB.drop l.toNat).take 1) ++ ([226, 153, 175] : List UInt8)))))), (10, .call [] [(iv o)] [] (sv (st (Lib.itoa o))) []), (11, .val (.av (.string (st ((((letB.drop l.toNat).take 1) ++ ([226, 153, 175] : List UInt8)) ++ (Lib.itoa o))))))] [[], [0], [], [2], [2, 3], [0, 1, 2, 3, 4], [], [0, 1, 2, 3, 4, 5, 6], [], [8], [8, 9], [0, 1, 2, 3, 4, 5, 6, 7, 8, 9, 10], [0, 1, 2, 3, 4, 5, 6, 7, 8, 9, 10, 11], [0, 1, 2, 3, 4, 5, 6, 7, 8, 9, 10, 11, 12]] [([44], [2]), ([46], [1, 44]), ([48], [2]), ([50], [1, 48]), ([52], [50]), ([54], [46, 52]), ([56], [8]), ([58], [54, 56]), ([60], [2]), ([62], [1, 60]), ([64], [62]), ([66], [58, 64]), ([4], [66]), ([6], [])] [ps 2 (sv (st ((((letB.drop l.toNat).take 1) ++ ([226, 153, 175] : List UInt8)) ++ (Lib.itoa o)))), ps 3 (iv 0)] (obs_cons (by simp only [InK]; omega : InK .i64 (l + 1)) (obs_cons (by first | omega | (simp only [List.length_cons, List.length_nil, List.length_drop, List.length_append, List.length_take]; omega) : (0 : Int) ≤ l ∧ l ≤ (l + 1) ∧ (l + 1) ≤ ((([67, 68, 69, 70, 71, 65, 66] : List UInt8).length : Nat) : Int)) (obs_cons (letter_cut (by omega) : (st ([67, 68, 69, 70, 71, 65, 66] : List UInt8)).extract (l : Int).toNat ((l + 1) : Int).toNat = st ((letB.drop l.toNat).take 1)) (obs_cons (by first | omega | (simp only [List.length_append, List.length_cons, List.length_nil]; omega) : ((((letB.drop l.toNat).take 1).length + ([226, 153, 175] : List UInt8).length : Nat) : Int) ≤ 9223372036854775807) (obs_cons (st_app _ _ : st ((letB.drop l.toNat).take 1) ++ st ([226, 153, 175] : List UInt8) = st (((letB.drop l.toNat).take 1) ++ ([226, 153, 175] : List UInt8))) (obs_cons (itoa_pc o (by omega) (by omega)) (obs_cons (rfl : Ren0 176 [(iv o)]) (obs_cons (by first | omega | (simp only [List.length_append, List.length_cons, List.length_nil]; omega) : (((((letB.drop l.toNat).take 1) ++ ([226, 153, 175] : List UInt8)).length + (Lib.itoa o).length : Nat) : Int) ≤ 9223372036854775807) (obs_cons (st_app _ _ : st (((letB.drop l.toNat).take 1) ++ ([226, 153, 175] : List UInt8)) ++ st (Lib.itoa o) = st ((((letB.drop l.toNat).take 1) ++ ([226, 153, 175] : List UInt8)) ++ (Lib.itoa o))) obs_nil))))))))) ?_
      rw [printS_at (l := l) (a := a) (o := o) (S := ([226, 153, 175] : List UInt8)) h1 (by unfold signL; simp [*])]
      exact T_ret fun cx_ a_ hI_ => rt hc0 [ps 2 (sv (st ((((letB.drop l.toNat).take 1) ++ ([226, 153, 175] : List UInt8)) ++ (Lib.itoa o)))), ps 3 (iv 0)] [] hI_
    refine T_el (decide_eq_false h2) ?_
    refine T_seq ?_
    refine T_r mixed [] [ps 1 (.opt 0 0), ps 4 (sv (st ([] : List UInt8))), ps 9 (iv a), ps 12 (bv (decide (a = 2))), pb 0 23 [(iv l), (iv a), (iv o)]] (obs_nil) ?_
    by_cases h3 : a = 2
    · refine T_th (decide_eq_true h3) ?_
      refine T_r mixed [] [ps 1 (.opt 0 0), ps 4 (sv (st ([240, 157, 132, 170] : List UInt8))), pb 0 23 [(iv l), (iv a), (iv o)]] (obs_nil) ?_
      refine T_blk <| T_seq ?_
      refine T_rd mixed [(5, .val (.av (.string (st ((letB.drop l.toNat).take 1))))), (7, .val (.av (.string (st (((letB.drop l.toNat).take 1) ++ ([240, 157, 132, 170] : List UInt8)))))), (10, .call [] [(iv o)] [] (sv (st (Lib.itoa o))) []), (11, .val (.av (.string (st ((((letB.drop l.toNat).take 1) ++ ([240, 157, 132, 170] : List UInt8)) ++ (Lib.itoa o))))))] [[], [0], [], [2], [2, 3], [0, 1, 2, 3, 4], [], [0, 1, 2, 3, 4, 5, 6], [], [8], [8, 9], [0, 1, 2, 3, 4, 5, 6, 7, 8, 9, 10], [0, 1, 2, 3, 4, 5, 6, 7, 8, 9, 10, 11], [0, 1, 2, 3, 4, 5, 6, 7, 8, 9, 10, 11, 12]] [([44], [2]), ([46], [1, 44]), ([48], [2]), ([50], [1, 48]), ([52], [50]), ([54], [46, 52]), ([56], [8]), ([58], [54, 56]), ([60], [2]), ([62], [1, 60]), ([64], [62]), ([66], [58, 64]), ([4], [66]), ([6], [])] [ps 2 (sv (st ((((letB.drop l.toNat).take 1) ++ ([240, 157, 132, 170] : List UInt8)) ++ (Lib.itoa o)))), ps 3 (iv 0)] (obs_cons (by simp only [InK]; omega : InK .i64 (l + 1)) (obs_cons (by first | omega | (simp only [List.length_cons, List.length_nil, List.length_drop, List.length_append, List.length_take]; omega) : (0 : Int) ≤ l ∧ l ≤ (l + 1) ∧ (l + 1) ≤ ((([67, 68, 69, 70, 71, 65, 66] : List UInt8).length : Nat) : Int)) (obs_cons (letter_cut (by omega) : (st ([67, 68, 69, 70, 71, 65, 66] : List UInt8)).extract (l : Int).toNat ((l + 1) : Int).toNat = st ((letB.drop l.toNat).take 1)) (obs_cons (by first | omega | (simp only [List.length_append, List.length_cons, List.length_nil]; omega) : ((((letB.drop l.toNat).take 1).length + ([240, 157, 132, 170] : List UInt8).length : Nat) : Int) ≤ 9223372036854775807) (obs_cons (st_app _ _ : st ((letB.drop l.toNat).take 1) ++ st ([240, 157, 132, 170] : List UInt8) = st (((letB.drop l.toNat).take 1) ++ ([240, 157, 132, 170] : List UInt8))) (obs_cons (itoa_pc o (by omega) (by omega)) (obs_cons (rfl : Ren0 192 [(iv o)]) (obs_cons (by first | omega | (simp only [List.length_append, List.length_cons, List.length_nil]; omega) : (((((letB.drop l.toNat).take 1) ++ ([240, 157, 132, 170] : List UInt8)).length + (Lib.itoa o).length : Nat) : Int) ≤ 9223372036854775807) (obs_cons (st_app _ _ : st (((letB.drop l.toNat).take 1) ++ ([240, 157, 132, 170] : List UInt8)) ++ st (Lib.itoa o) = st ((((letB.drop l.toNat).take 1) ++ ([240, 157, 132, 170] : List UInt8)) ++ (Lib.itoa o))) obs_nil))))))))) ?_
      rw [printS_at (l := l) (a := a) (o := o) (S := ([240, 157, 132, 170] : List UInt8)) h1 (by unfold signL; simp [*])]
      exact T_ret fun cx_ a_ hI_ => rt hc0 [ps 2 (sv (st ((((letB.drop l.toNat).take 1) ++ ([240, 157, 132, 170] : List UInt8)) ++ (Lib.itoa o)))), ps 3 (iv 0)] [] hI_
    refine T_el (decide_eq_false h3) ?_
    refine T_seq ?_
    refine T_r mixed [] [ps 1 (.opt 0 0), ps 4 (sv (st ([] : List UInt8))), ps 9 (iv a), ps 14 (bv (decide (a = 3))), pb 0 23 [(iv l), (iv a), (iv o)]] (obs_nil) ?_
    by_cases h4 : a = 3
    · refine T_th (decide_eq_true h4) ?_
      refine T_r mixed [] [ps 1 (.opt 0 0), ps 4 (sv (st ([240, 157, 132, 170, 226, 153, 175] : List UInt8))), pb 0 23 [(iv l), (iv a), (iv o)]] (obs_nil) ?_
      refine T_blk <| T_seq ?_
      refine T_rd mixed [(5, .val (.av (.string (st ((letB.drop l.toNat).take 1))))), (7, .val (.av (.string (st (((letB.drop l.toNat).take 1) ++ ([240, 157, 132, 170, 226, 153, 175] : List UInt8)))))), (10, .call [] [(iv o)] [] (sv (st (Lib.itoa o))) []), (11, .val (.av (.string (st ((((letB.drop l.toNat).take 1) ++ ([240, 157, 132, 170, 226, 153, 175] : List UInt8)) ++ (Lib.itoa o))))))] [[], [0], [], [2], [2, 3], [0, 1, 2, 3, 4], [], [0, 1, 2, 3, 4, 5, 6], [], [8], [8, 9], [0, 1, 2, 3, 4, 5, 6, 7, 8, 9, 10], [0, 1, 2, 3, 4, 5, 6, 7, 8, 9, 10, 11], [0, 1, 2, 3, 4, 5, 6, 7, 8, 9, 10, 11, 12]] [([44], [2]), ([46], [1, 44]), ([48], [2]), ([50], [1, 48]), ([52], [50]), ([54], [46, 52]), ([56], [8]), ([58], [54, 56]), ([60], [2]), ([62], [1, 60]), ([64], [62]), ([66], [58, 64]), ([4], [66]), ([6], [])] [ps 2 (sv (st ((((letB.drop l.toNat).take 1) ++ ([240, 157, 132, 170, 226, 153, 175] : List UInt8)) ++ (Lib.itoa o)))), ps 3 (iv 0)] (obs_cons (by simp only [InK]; omega : InK .i64 (l + 1)) (obs_cons (by first | omega | (simp only [List.length_cons, List.length_nil, List.length_drop, List.length_append, List.length_take]; omega) : (0 : Int) ≤ l ∧ l ≤ (l + 1) ∧ (l + 1) ≤ ((([67, 68, 69, 70, 71, 65, 66] : List UInt8).length : Nat) : Int)) (obs_cons (letter_cut (by omega) : (st ([67, 68, 69, 70, 71, 65, 66] : List UInt8)).extract (l : Int).toNat ((l + 1) : Int).toNat = st ((letB.drop l.toNat).take 1)) (obs_cons (by first | omega | (simp only [List.length_append, List.length_cons, List.length_nil]; omega) : ((((letB.drop l.toNat).take 1).length + ([240, 157, 132, 170, 226, 153, 175] : List UInt8).length : Nat) : Int) ≤ 9223372036854775807) (obs_cons (st_app _ _ : st ((letB.drop l.toNat).take 1) ++ st ([240, 157, 132, 170, 226, 153, 175] : List UInt8) = st (((letB.drop l.toNat).take 1) ++ ([240, 157, 132, 170, 226, 153, 175] : List UInt8))) (obs_cons (itoa_pc o (by omega) (by omega)) (obs_cons (rfl : Ren0 208 [(iv o)]) (obs_cons (by first | omega | (simp only [List.length_append, List.length_cons, List.length_nil]; omega) : (((((letB.drop l.toNat).take 1) ++ ([240, 157, 132, 170, 226, 153, 175] : List UInt8)).length + (Lib.itoa o).length : Nat) : Int) ≤ 9223372036854775807) (obs_cons (st_app _ _ : st (((letB.drop l.toNat).take 1) ++ ([240, 157, 132, 170, 226, 153, 175] : List UInt8)) ++ st (Lib.itoa o) = st ((((letB.drop l.toNat).take 1) ++ ([240, 157, 132, 170, 226, 153, 175] : List UInt8)) ++ (Lib.itoa o))) obs_nil))))))))) ?_
      rw [printS_at (l := l) (a := a) (o := o) (S := ([240, 157, 132, 170, 226, 153, 175] : List UInt8)) h1 (by unfold signL; simp [*])]
      exact T_ret fun cx_ a_ hI_ => rt hc0 [ps 2 (sv (st ((((letB.drop l.toNat).take 1) ++ ([240, 157, 132, 170, 226, 153, 175] : List UInt8)) ++ (Lib.itoa o)))), ps 3 (iv 0)] [] hI_
    refine T_el (decide_eq_false h4) ?_
    refine T_seq ?_
    refine T_r mixed [] [ps 1 (.opt 0 0), ps 4 (sv (st ([] : List UInt8))), ps 9 (iv a), ps 16 (bv (decide (a = (-1)))), pb 0 23 [(iv l), (iv a), (iv o)]] (obs_nil) ?_
    by_cases h5 : a = (-1)
    · refine T_th (decide_eq_true h5) ?_
      refine T_r mixed [] [ps 1 (.opt 0 0), ps 4 (sv (st ([226, 153, 173] : List UInt8))), pb 0 23 [(iv l), (iv a), (iv o)]] (obs_nil) ?_
      refine T_blk <| T_seq ?_
      refine T_rd mixed [(5, .val (.av (.string (st ((letB.drop l.toNat).take 1))))), (7, .val (.av (.string (st (((letB.drop l.toNat).take 1) ++ ([226, 153, 173] : List UInt8)))))), (10, .call [] [(iv o)] [] (sv (st (Lib.itoa o))) []), (11, .val (.av (.string (st ((((letB.drop l.toNat).take 1) ++ ([226, 153, 173] : List UInt8)) ++ (Lib.itoa o))))))] [[], [0], [], [2], [2, 3], [0, 1, 2, 3, 4], [], [0, 1, 2, 3, 4, 5, 6], [], [8], [8, 9], [0, 1, 2, 3, 4, 5, 6, 7, 8, 9, 10], [0, 1, 2, 3, 4, 5, 6, 7, 8, 9, 10, 11], [0, 1, 2, 3, 4, 5, 6, 7, 8, 9, 10, 11, 12]] [([44], [2]), ([46], [1, 44]), ([48], [2]), ([50], [1, 48]), ([52], [50]), ([54], [46, 52]), ([56], [8]), ([58], [54, 56]), ([60], [2]), ([62], [1, 60]), ([64], [62]), ([66], [58, 64]), ([4], [66]), ([6], [])] [ps 2 (sv (st ((((letB.drop l.toNat).take 1) ++ ([226, 153, 173] : List UInt8)) ++ (Lib.itoa o)))), ps 3 (iv 0)] (obs_cons (by simp only [InK]; omega : InK .i64 (l + 1)) (obs_cons (by first | omega | (simp only [List.length_cons, List.length_nil, List.length_drop, List.length_append, List.length_take]; omega) : (0 : Int) ≤ l ∧ l ≤ (l + 1) ∧ (l + 1) ≤ ((([67, 68, 69, 70, 71, 65, 66] : List UInt8).length : Nat) : Int)) (obs_cons (letter_cut (by omega) : (st ([67, 68, 69, 70, 71, 65, 66] : List UInt8)).extract (l : Int).toNat ((l + 1) : Int).toNat = st ((letB.drop l.toNat).take 1)) (obs_cons (by first | omega | (simp only [List.length_append, List.length_cons, List.length_nil]; omega) : ((((letB.drop l.toNat).take 1).length + ([226, 153, 173] : List UInt8).length : Nat) : Int) ≤ 9223372036854775807) (obs_cons (st_app _ _ : st ((letB.drop l.toNat).take 1) ++ st ([226, 153, 173] : List UInt8) = st (((letB.drop l.toNat).take 1) ++ ([226, 153, 173] : List UInt8))) (obs_cons (itoa_pc o (by omega) (by omega)) (obs_cons (rfl : Ren0 224 [(iv o)]) (obs_cons (by first | omega | (simp only [List.length_append, List.length_cons, List.length_nil]; omega) : (((((letB.drop l.toNat).take 1) ++ ([226, 153, 173] : List UInt8)).length + (Lib.itoa o).length : Nat) : Int) ≤ 9223372036854775807) (obs_cons (st_app _ _ : st (((letB.drop l.toNat).take 1) ++ ([226, 153, 173] : List UInt8)) ++ st (Lib.itoa o) = st ((((letB.drop l.toNat).take 1) ++ ([226, 153, 173] : List UInt8)) ++ (Lib.itoa o))) obs_nil))))))))) ?_
      rw [printS_at (l := l) (a := a) (o := o) (S := ([226, 153, 173] : List UInt8)) h1 (by unfold signL; simp [*])]
      exact T_ret fun cx_ a_ hI_ => rt hc0 [ps 2 (sv (st ((((letB.drop l.toNat).take 1) ++ ([226, 153, 173] : List UInt8)) ++ (Lib.itoa o)))), ps 3 (iv 0)] [] hI_
    refine T_el (decide_eq_false h5) ?_
    refine T_seq ?_
    refine T_r mixed [] [ps 1 (.opt 0 0), ps 4 (sv (st ([] : List UInt8))), ps 9 (iv a), ps 18 (bv (decide (a = (-2)))), pb 0 23 [(iv l), (iv a), (iv o)]] (obs_nil) ?_
    by_cases h6 : a = (-2)
    · refine T_th (decide_eq_true h6) ?_
      refine T_r mixed [] [ps 1 (.opt 0 0), ps 4 (sv (st ([240, 157, 132, 171] : List UInt8))), pb 0 23 [(iv l), (iv a), (iv o)]] (obs_nil) ?_
      refine T_blk <| T_seq ?_
      refine T_rd mixed [(5, .val (.av (.string (st ((letB.drop l.toNat).take 1))))), (7, .val (.av (.string (st (((letB.drop l.toNat).take 1) ++ ([240, 157, 132, 171] : List UInt8)))))), (10, .call [] [(iv o)] [] (sv (st (Lib.itoa o))) []), (11, .val (.av (.string (st ((((letB.drop l.toNat).take 1) ++ ([240, 157, 132, 171] : List UInt8)) ++ (Lib.itoa o))))))] [[], [0], [], [2], [2, 3], [0, 1, 2, 3, 4], [], [0, 1, 2, 3, 4, 5, 6], [], [8], [8, 9], [0, 1, 2, 3, 4, 5, 6, 7, 8, 9, 10], [0, 1, 2, 3, 4, 5, 6, 7, 8, 9, 10, 11], [0, 1, 2, 3, 4, 5, 6, 7, 8, 9, 10, 11, 12]] [([44], [2]), ([46], [1, 44]), ([48], [2]), ([50], [1, 48]), ([52], [50]), ([54], [46, 52]), ([56], [8]), ([58], [54, 56]), ([60], [2]), ([62], [1, 60]), ([64], [62]), ([66], [58, 64]), ([4], [66]), ([6], [])] [ps 2 (sv (st ((((letB.drop l.toNat).take 1) ++ ([240, 157, 132, 171] : List UInt8)) ++ (Lib.itoa o)))), ps 3 (iv 0)] (obs_cons (by simp only [InK]; omega : InK .i64 (l + 1)) (obs_cons (by first | omega | (simp only [List.length_cons, List.length_nil, List.length_drop, List.length_append, List.length_take]; omega) : (0 : Int) ≤ l ∧ l ≤ (l + 1) ∧ (l + 1) ≤ ((([67, 68, 69, 70, 71, 65, 66] : List UInt8).length : Nat) : Int)) (obs_cons (letter_cut (by omega) : (st ([67, 68, 69, 70, 71, 65, 66] : List UInt8)).extract (l : Int).toNat ((l + 1) : Int).toNat = st ((letB.drop l.toNat).take 1)) (obs_cons (by first | omega | (simp only [List.length_append, List.length_cons, List.length_nil]; omega) : ((((letB.drop l.toNat).take 1).length + ([240, 157, 132, 171] : List UInt8).length : Nat) : Int) ≤ 9223372036854775807) (obs_cons (st_app _ _ : st ((letB.drop l.toNat).take 1) ++ st ([240, 157, 132, 171] : List UInt8) = st (((letB.drop l.toNat).take 1) ++ ([240, 157, 132, 171] : List UInt8))) (obs_cons (itoa_pc o (by omega) (by omega)) (obs_cons (rfl : Ren0 240 [(iv o)]) (obs_cons (by first | omega | (simp only [List.length_append, List.length_cons, List.length_nil]; omega) : (((((letB.drop l.toNat).take 1) ++ ([240, 157, 132, 171] : List UInt8)).length + (Lib.itoa o).length : Nat) : Int) ≤ 9223372036854775807) (obs_cons (st_app _ _ : st (((letB.drop l.toNat).take 1) ++ ([240, 157, 132, 171] : List UInt8)) ++ st (Lib.itoa o) = st ((((letB.drop l.toNat).take 1) ++ ([240, 157, 132, 171] : List UInt8)) ++ (Lib.itoa o))) obs_nil))))))))) ?_
      rw [printS_at (l := l) (a := a) (o := o) (S := ([240, 157, 132, 171] : List UInt8)) h1 (by unfold signL; simp [*])]
      exact T_ret fun cx_ a_ hI_ => rt hc0 [ps 2 (sv (st ((((letB.drop l.toNat).take 1) ++ ([240, 157, 132, 171] : List UInt8)) ++ (Lib.itoa o)))), ps 3 (iv 0)] [] hI_
    refine T_el (decide_eq_false h6) ?_
    refine T_seq ?_
    refine T_r mixed [] [ps 1 (.opt 0 0), ps 4 (sv (st ([] : List UInt8))), ps 20 (bv (decide (a = (-3)))), pb 0 23 [(iv l), (iv a), (iv o)]] (obs_nil) ?_
    by_cases h7 : a = (-3)
    · refine T_th (decide_eq_true h7) ?_
      refine T_r mixed [] [ps 1 (.opt 0 0), ps 4 (sv (st ([240, 157, 132, 171, 226, 153, 173] : List UInt8))), pb 0 23 [(iv l), (iv a), (iv o)]] (obs_nil) ?_
      refine T_blk <| T_seq ?_
      refine T_rd mixed [(5, .val (.av (.string (st ((letB.drop l.toNat).take 1))))), (7, .val (.av (.string (st (((letB.drop l.toNat).take 1) ++ ([240, 157, 132, 171, 226, 153, 173] : List UInt8)))))), (10, .call [] [(iv o)] [] (sv (st (Lib.itoa o))) []), (11, .val (.av (.string (st ((((letB.drop l.toNat).take 1) ++ ([240, 157, 132, 171, 226, 153, 173] : List UInt8)) ++ (Lib.itoa o))))))] [[], [0], [], [2], [2, 3], [0, 1, 2, 3, 4], [], [0, 1, 2, 3, 4, 5, 6], [], [8], [8, 9], [0, 1, 2, 3, 4, 5, 6, 7, 8, 9, 10], [0, 1, 2, 3, 4, 5, 6, 7, 8, 9, 10, 11], [0, 1, 2, 3, 4, 5, 6, 7, 8, 9, 10, 11, 12]] [([44], [2]), ([46], [1, 44]), ([48], [2]), ([50], [1, 48]), ([52], [50]), ([54], [46, 52]), ([56], [8]), ([58], [54, 56]), ([60], [2]), ([62], [1, 60]), ([64], [62]), ([66], [58, 64]), ([4], [66]), ([6], [])] [ps 2 (sv (st ((((letB.drop l.toNat).take 1) ++ ([240, 157, 132, 171, 226, 153, 173] : List UInt8)) ++ (Lib.itoa o)))), ps 3 (iv 0)] (obs_cons (by simp only [InK]; omega : InK .i64 (l + 1)) (obs_cons (by first | omega | (simp only [List.length_cons, List.length_nil, List.length_drop, List.length_append, List.length_take]; omega) : (0 : Int) ≤ l ∧ l ≤ (l + 1) ∧ (l + 1) ≤ ((([67, 68, 69, 70, 71, 65, 66] : List UInt8).length : Nat) : Int)) (obs_cons (letter_cut (by omega) : (st ([67, 68, 69, 70, 71, 65, 66] : List UInt8)).extract (l : Int).toNat ((l + 1) : Int).toNat = st ((letB.drop l.toNat).take 1)) (obs_cons (by first | omega | (simp only [List.length_append, List.length_cons, List.length_nil]; omega) : ((((letB.drop l.toNat).take 1).length + ([240, 157, 132, 171, 226, 153, 173] : List UInt8).length : Nat) : Int) ≤ 9223372036854775807) (obs_cons (st_app _ _ : st ((letB.drop l.toNat).take 1) ++ st ([240, 157, 132, 171, 226, 153, 173] : List UInt8) = st (((letB.drop l.toNat).take 1) ++ ([240, 157, 132, 171, 226, 153, 173] : List UInt8))) (obs_cons (itoa_pc o (by omega) (by omega)) (obs_cons (rfl : Ren0 256 [(iv o)]) (obs_cons (by first | omega | (simp only [List.length_append, List.length_cons, List.length_nil]; omega) : (((((letB.drop l.toNat).take 1) ++ ([240, 157, 132, 171, 226, 153, 173] : List UInt8)).length + (Lib.itoa o).length : Nat) : Int) ≤ 9223372036854775807) (obs_cons (st_app _ _ : st (((letB.drop l.toNat).take 1) ++ ([240, 157, 132, 171, 226, 153, 173] : List UInt8)) ++ st (Lib.itoa o) = st ((((letB.drop l.toNat).take 1) ++ ([240, 157, 132, 171, 226, 153, 173] : List UInt8)) ++ (Lib.itoa o))) obs_nil))))))))) ?_
      rw [printS_at (l := l) (a := a) (o := o) (S := ([240, 157, 132, 171, 226, 153, 173] : List UInt8)) h1 (by unfold signL; simp [*])]
      exact T_ret fun cx_ a_ hI_ => rt hc0 [ps 2 (sv (st ((((letB.drop l.toNat).take 1) ++ ([240, 157, 132, 171, 226, 153, 173] : List UInt8)) ++ (Lib.itoa o)))), ps 3 (iv 0)] [] hI_
    refine T_el (decide_eq_false h7) ?_
    refine T_skip <| T_blk <| T_seq ?_
    refine T_rd mixed [(5, .val (.av (.string (st ((letB.drop l.toNat).take 1))))), (7, .val (.av (.string (st (((letB.drop l.toNat).take 1) ++ ([] : List UInt8)))))), (10, .call [] [(iv o)] [] (sv (st (Lib.itoa o))) []), (11, .val (.av (.string (st ((((letB.drop l.toNat).take 1) ++ ([] : List UInt8)) ++ (Lib.itoa o))))))] [[], [0], [], [2], [2, 3], [0, 1, 2, 3, 4], [], [0, 1, 2, 3, 4, 5, 6], [], [8], [8, 9], [0, 1, 2, 3, 4, 5, 6, 7, 8, 9, 10], [0, 1, 2, 3, 4, 5, 6, 7, 8, 9, 10, 11], [0, 1, 2, 3, 4, 5, 6, 7, 8, 9, 10, 11, 12]] [([44], [2]), ([46], [1, 44]), ([48], [2]), ([50], [1, 48]), ([52], [50]), ([54], [46, 52]), ([56], [8]), ([58], [54, 56]), ([60], [2]), ([62], [1, 60]), ([64], [62]), ([66], [58, 64]), ([4], [66]), ([6], [])] [ps 2 (sv (st ((((letB.drop l.toNat).take 1) ++ ([] : List UInt8)) ++ (Lib.itoa o)))), ps 3 (iv 0)] (obs_cons (by simp only [InK]; omega : InK .i64 (l + 1)) (obs_cons (by first | omega | (simp only [List.length_cons, List.length_nil, List.length_drop, List.length_append, List.length_take]; omega) : (0 : Int) ≤ l ∧ l ≤ (l + 1) ∧ (l + 1) ≤ ((([67, 68, 69, 70, 71, 65, 66] : List UInt8).length : Nat) : Int)) (obs_cons (letter_cut (by omega) : (st ([67, 68, 69, 70, 71, 65, 66] : List UInt8)).extract (l : Int).toNat ((l + 1) : Int).toNat = st ((letB.drop l.toNat).take 1)) (obs_cons (by first | omega | (simp only [List.length_append, List.length_cons, List.length_nil]; omega) : ((((letB.drop l.toNat).take 1).length + ([] : List UInt8).length : Nat) : Int) ≤ 9223372036854775807) (obs_cons (st_app _ _ : st ((letB.drop l.toNat).take 1) ++ st ([] : List UInt8) = st (((letB.drop l.toNat).take 1) ++ ([] : List UInt8))) (obs_cons (itoa_pc o (by omega) (by omega)) (obs_cons (rfl : Ren0 248 [(iv o)]) (obs_cons (by first | omega | (simp only [List.length_append, List.length_cons, List.length_nil]; omega) : (((((letB.drop l.toNat).take 1) ++ ([] : List UInt8)).length + (Lib.itoa o).length : Nat) : Int) ≤ 9223372036854775807) (obs_cons (st_app _ _ : st (((letB.drop l.toNat).take 1) ++ ([] : List UInt8)) ++ st (Lib.itoa o) = st ((((letB.drop l.toNat).take 1) ++ ([] : List UInt8)) ++ (Lib.itoa o))) obs_nil))))))))) ?_
    rw [printS_at (l := l) (a := a) (o := o) (S := ([] : List UInt8)) h1 (by unfold signL; simp [*])]
    exact T_ret fun cx_ a_ hI_ => rt hc0 [ps 2 (sv (st ((((letB.drop l.toNat).take 1) ++ ([] : List UInt8)) ++ (Lib.itoa o)))), ps 3 (iv 0)] [] hI_
  refine T_th (congrArg Bool.not (Bool.eq_false_iff.2 h1)) ?_
  refine T_seq ?_
  refine T_r mixed [] [ps 2 (sv (st ([] : List UInt8))), ps 3 (iv 2)] (obs_nil) ?_
  rw [printS_no (l := l) (a := a) (o := o) h1]
  exact T_ret fun cx_ a_ hI_ => rt hc0 [ps 2 (sv (st ([] : List UInt8))), ps 3 (iv 2)] [] hI_
set_option maxRecDepth 100000 in
set_option maxHeartbeats 4000000 in
theorem bad_pc0 (e n : Int) : PC Tryz.prog 25 [(iv e), (iv n)] [] (.tup [(.agg [(iv 0), (iv 0), (iv 0)]), (.agg [(iv e), (iv n)])]) [none, none] := by
  refine pc_intro Tryz.func25 rfl (by kernel_rfl) (Nat.le_of_ble_eq_true rfl) (by kernel_rfl) (l0 := [ps 0 (iv e), ps 1 (iv n)]) rfl (fun c0 Bor hc0 => ?_)
  refine T_seq ?_
  refine T_r mixed [] [ps 0 (iv e), ps 1 (iv n), ps 4 (.opt 0 0), ps 5 (.opt 8 0), pb 0 23 [(iv 0), (iv 0), (iv 0)], pb 8 31 [(iv 0), (iv 0)]] (obs_nil) ?_
  refine T_seq ?_
  refine T_r mixed [] [ps 4 (.opt 0 0), ps 5 (.opt 8 0), pb 0 23 [(iv 0), (iv 0), (iv 0)], pb 8 31 [(iv e), (iv n)]] (obs_nil) ?_
  exact T_ret fun cx_ a_ hI_ => rt hc0 [ps 4 (.opt 0 0), ps 5 (.opt 1 0), pb 0 23 [(iv 0), (iv 0), (iv 0)], pb 1 31 [(iv e), (iv n)]] [0, 8] hI_
theorem bad_pc (e n : Int) : PC Tryz.prog 25 [(iv e), (iv n)] [] ((.tup [(.agg [(iv 0), (iv 0), (iv 0)]), (.agg [(iv e), (iv n)])])) [] := pc_trim [none, none] rfl (fun i => by rcases i with _ | _ | i <;> rfl) (bad_pc0 e n)
set_option maxRecDepth 100000 in
set_option maxHeartbeats 4000000 in
theorem read_pc0 (s : List UInt8) (hs : s.length ≤ 9223372036854775807) : PC Tryz.prog 8 [(sv (st s))] [] (.tup [(.agg [(iv ((readS s).1.1)), (iv ((readS s).1.2.1)), (iv ((readS s).1.2.2))]), (.agg [(iv ((readS s).2.1)), (iv ((readS s).2.2))])]) [none, none] := by
  refine pc_intro Tryz.func8 rfl (by kernel_rfl) (Nat.le_of_ble_eq_true rfl) (by kernel_rfl) (l0 := [ps 0 (sv (st s))]) rfl (fun c0 Bor hc0 => ?_)
  refine T_seq ?_
  refine T_r mixed [] [ps 0 (sv (st s)), ps 2 (.opt 0 0), ps 3 (.opt 8 0), pb 0 23 [(iv 0), (iv 0), (iv 0)], pb 8 31 [(iv 0), (iv 0)]] (obs_nil) ?_
  refine T_seq ?_
  refine T_r mixed [] [ps 0 (sv (st s)), ps 2 (.opt 0 0), ps 3 (.opt 8 0), ps 4 (fv 25), pb 0 23 [(iv 0), (iv 0), (iv 0)], pb 8 31 [(iv 0), (iv 0)]] (obs_nil) ?_
  refine T_seq <| T_seq ?_
  by_cases h1 : s = ([] : List UInt8)
  · refine T_r mixed [(1, .val (.av (.bool (decide (s = ([] : List UInt8)))))), (3, .gd true .no), (4, .gd true .no), (5, .gd true .no), (6, .gd true .no), (7, .yes true)] [ps 0 (sv (st s)), ps 2 (.opt 0 0), ps 3 (.opt 8 0), ps 4 (fv 25), ps 21 (bv true), pb 0 23 [(iv 0), (iv 0), (iv 0)], pb 8 31 [(iv 0), (iv 0)]] (obs_cons (st_eq _ _ : ((st s).toList == (st ([] : List UInt8)).toList) = decide (s = ([] : List UInt8))) (obs_cons (decide_eq_true h1) (obs_cons (decide_eq_true h1) (obs_cons (decide_eq_true h1) (obs_cons (decide_eq_true h1) (obs_cons (decide_eq_true h1) obs_nil)))))) ?_
    refine T_then (b := true) rfl rfl ?_
    refine T_seq ?_
    refine T_r mixed [(1, .call [] [(iv 2), (iv 0)] [] (.tup [(.agg [(iv 0), (iv 0), (iv 0)]), (.agg [(iv 2), (iv 0)])]) [])] [ps 2 (.opt 0 0), ps 3 (.opt 8 0), pb 0 23 [(iv 0), (iv 0), (iv 0)], pb 8 31 [(iv 2), (iv 0)]] (obs_cons (bad_pc (2 : Int) (0 : Int)) (obs_cons (rfl : Ren0 96 [(iv 2), (iv 0)]) obs_nil)) ?_
    rw [readS_no0 (s := s) (.inl h1)]
    exact T_ret fun cx_ a_ hI_ => rt hc0 [ps 2 (.opt 0 0), ps 3 (.opt 1 0), pb 0 23 [(iv 0), (iv 0), (iv 0)], pb 1 31 [(iv 2), (iv 0)]] [0, 8] hI_
  refine T_r mixed [(1, .val (.av (.bool (decide (s = ([] : List UInt8)))))), (3, .gd false (.no)), (4, .gd false (.val (.av (.string (st [s.getD 0 0]))))), (5, .gd false (.call [] [(sv (st letB)), (sv (st [s.getD 0 0]))] [] (bv (decide (0 ≤ Lib.indexByte letB (s.getD 0 0)))) [])), (6, .gd false (.no)), (7, .yes false)] [ps 0 (sv (st s)), ps 2 (.opt 0 0), ps 3 (.opt 8 0), ps 4 (fv 25), ps 21 (bv (!(decide (0 ≤ Lib.indexByte letB (s.getD 0 0))))), pb 0 23 [(iv 0), (iv 0), (iv 0)], pb 8 31 [(iv 0), (iv 0)]] (obs_cons (st_eq _ _ : ((st s).toList == (st ([] : List UInt8)).toList) = decide (s = ([] : List UInt8))) (obs_cons (decide_eq_false h1) (obs_cons (decide_eq_false h1) (obs_cons (by have := len_pos h1; omega : (0 : Int) ≤ (0 : Int) ∧ (0 : Int) ≤ (1 : Int) ∧ (1 : Int) ≤ ((s.length : Nat) : Int)) (obs_cons (first_cut h1 : (st s).extract ((0 : Int) : Int).toNat ((1 : Int) : Int).toNat = st [s.getD 0 0]) (obs_cons (decide_eq_false h1) (obs_cons (contains_pc letB (s.getD 0 0)) (obs_cons (rfl : [(sv (st ([67, 68, 69, 70, 71, 65, 66] : List UInt8))), (sv (st [s.getD 0 0]))] = renL (sigi [] 64) [(sv (st letB)), (sv (st [s.getD 0 0]))]) (obs_cons (decide_eq_false h1) (obs_cons (decide_eq_false h1) obs_nil)))))))))) ?_
  by_cases h2 : 0 ≤ Lib.indexByte letB (s.getD 0 0)
  · refine T_el (bt h2) ?_
    refine T_skip <| T_seq ?_
    have hp1 := len_pos h1
    have hbd : ∀ r, -2 ≤ (signB r).1 ∧ (signB r).1 ≤ 2 := signB_bd
    refine T_r mixed [(1, .val (.av (.string (st [s.getD 0 0])))), (2, .call [] [(sv (st letB)), (sv (st [s.getD 0 0]))] [] (iv (Lib.indexByte letB (s.getD 0 0))) [])] [ps 0 (sv (st s)), ps 2 (.opt 0 0), ps 3 (.opt 8 0), ps 4 (fv 25), ps 5 (.opt 120 0), pb 0 23 [(iv 0), (iv 0), (iv 0)], pb 8 31 [(iv 0), (iv 0)], pb 120 23 [(iv (Lib.indexByte letB (s.getD 0 0))), (iv 0), (iv 0)]] (obs_cons (by first | omega | (simp only [List.length_cons, List.length_nil, List.length_drop, List.length_append, List.length_take]; omega) : (0 : Int) ≤ (0 : Int) ∧ (0 : Int) ≤ (1 : Int) ∧ (1 : Int) ≤ ((s.length : Nat) : Int)) (obs_cons (first_cut h1 : (st s).extract ((0 : Int) : Int).toNat ((1 : Int) : Int).toNat = st [s.getD 0 0]) (obs_cons (index_pc letB (s.getD 0 0)) (obs_cons (rfl : [(sv (st ([67, 68, 69, 70, 71, 65, 66] : List UInt8))), (sv (st [s.getD 0 0]))] = renL (sigi [] 104) [(sv (st letB)), (sv (st [s.getD 0 0]))]) obs_nil)))) ?_
    refine T_seq ?_
    refine T_r mixed [] [ps 0 (sv (st s)), ps 2 (.opt 0 0), ps 3 (.opt 8 0), ps 4 (fv 25), ps 5 (.opt 120 0), ps 6 (iv 1), pb 0 23 [(iv 0), (iv 0), (iv 0)], pb 8 31 [(iv 0), (iv 0)], pb 120 23 [(iv (Lib.indexByte letB (s.getD 0 0))), (iv 0), (iv 0)]] (obs_nil) ?_
    refine T_seq <| T_seq ?_
    refine T_r mixed [(2, .val (.av (.string (st (s.drop 1))))), (3, .call [] [(sv (st (s.drop 1))), (sv (st ([226, 153, 174] : List UInt8)))] [] (bv (Lib.hasPrefix (s.drop 1) ([226, 153, 174] : List UInt8))) [])] [ps 0 (sv (st s)), ps 2 (.opt 0 0), ps 3 (.opt 8 0), ps 4 (fv 25), ps 5 (.opt 120 0), ps 6 (iv 1), ps 33 (bv (Lib.hasPrefix (s.drop 1) ([226, 153, 174] : List UInt8))), pb 0 23 [(iv 0), (iv 0), (iv 0)], pb 8 31 [(iv 0), (iv 0)], pb 120 23 [(iv (Lib.indexByte letB (s.getD 0 0))), (iv 0), (iv 0)]] (obs_cons (by first | omega | (simp only [List.length_cons, List.length_nil, List.length_drop, List.length_append, List.length_take]; omega) : (0 : Int) ≤ (1 : Int) ∧ (1 : Int) ≤ ((s.length : Nat) : Int) ∧ ((s.length : Nat) : Int) ≤ ((s.length : Nat) : Int)) (obs_cons (st_from _ _ _ rfl : (st s).extract ((1 : Int) : Int).toNat (((s.length : Nat) : Int) : Int).toNat = st (s.drop 1)) (obs_cons (hasPrefix_pc (s.drop 1) ([226, 153, 174] : List UInt8)) (obs_cons (rfl : Ren0 168 [(sv (st (s.drop 1))), (sv (st ([226, 153, 174] : List UInt8)))]) obs_nil)))) ?_
    by_cases h3 : (Lib.hasPrefix (s.drop 1) ([226, 153, 174] : List UInt8)) = true
    · refine T_then (b := (Lib.hasPrefix (s.drop 1) ([226, 153, 174] : List UInt8))) rfl h3 ?_
      have hp3 := pre3_len h3
      rw [List.length_drop] at hp3
      refine T_r mixed [] [ps 0 (sv (st s)), ps 2 (.opt 0 0), ps 3 (.opt 8 0), ps 4 (fv 25), ps 5 (.opt 120 0), ps 6 (iv 4), pb 0 23 [(iv 0), (iv 0), (iv 0)], pb 8 31 [(iv 0), (iv 0)], pb 120 23 [(iv (Lib.indexByte letB (s.getD 0 0))), (iv 0), (iv 0)]] (obs_cons (by simp [InK] : InK .i64 4) obs_nil) ?_
      refine T_seq ?_
      refine T_r mixed [(2, .val (.av (.string (st (s.drop 4))))), (3, .call [] [(sv (st (s.drop 4)))] [] (.tup [(iv ((numS (s.drop 4)).1)), (bv ((numS (s.drop 4)).2))]) [])] [ps 2 (.opt 0 0), ps 3 (.opt 8 0), ps 4 (fv 25), ps 5 (.opt 120 0), ps 6 (iv 4), ps 12 (iv ((numS (s.drop 4)).1)), ps 13 (bv ((numS (s.drop 4)).2)), pb 0 23 [(iv 0), (iv 0), (iv 0)], pb 8 31 [(iv 0), (iv 0)], pb 120 23 [(iv (Lib.indexByte letB (s.getD 0 0))), (iv 0), (iv 0)]] (obs_cons (by first | omega | (simp only [List.length_cons, List.length_nil, List.length_drop, List.length_append, List.length_take]; omega) : (0 : Int) ≤ (4 : Int) ∧ (4 : Int) ≤ ((s.length : Nat) : Int) ∧ ((s.length : Nat) : Int) ≤ ((s.length : Nat) : Int)) (obs_cons (st_from _ _ _ rfl : (st s).extract ((4 : Int) : Int).toNat (((s.length : Nat) : Int) : Int).toNat = st (s.drop 4)) (obs_cons (number_pc (s.drop 4) (by rw [List.length_drop]; omega)) (obs_cons (rfl : Ren0 224 [(sv (st (s.drop 4)))]) obs_nil)))) ?_
      refine T_seq <| T_seq ?_
      refine T_r mixed [] [ps 2 (.opt 0 0), ps 3 (.opt 8 0), ps 4 (fv 25), ps 5 (.opt 120 0), ps 6 (iv 4), ps 12 (iv ((numS (s.drop 4)).1)), ps 87 (bv (!((numS (s.drop 4)).2))), pb 0 23 [(iv 0), (iv 0), (iv 0)], pb 8 31 [(iv 0), (iv 0)], pb 120 23 [(iv (Lib.indexByte letB (s.getD 0 0))), (iv 0), (iv 0)]] (obs_nil) ?_
      by_cases h4 : ((numS (s.drop 4)).2) = true
      · refine T_el (congrArg Bool.not h4) ?_
        refine T_skip <| T_seq <| T_seq ?_
        have hnb := num_bd (s.drop 4)
        refine T_r mixed [] [ps 2 (.opt 0 0), ps 3 (.opt 8 0), ps 4 (fv 25), ps 5 (.opt 120 0), ps 6 (iv 4), pb 0 23 [(iv 0), (iv 0), (iv 0)], pb 8 31 [(iv 0), (iv 0)], pb 120 23 [(iv (Lib.indexByte letB (s.getD 0 0))), (iv 0), (iv ((numS (s.drop 4)).1))]] (obs_nil) ?_
        refine T_seq ?_
        refine T_r mixed [(1, .call [] [(.agg [(iv (Lib.indexByte letB (s.getD 0 0))), (iv 0), (iv ((numS (s.drop 4)).1))])] [] (bv (Pi.rightB (Lib.indexByte letB (s.getD 0 0)) 0 ((numS (s.drop 4)).1))) [])] [ps 2 (.opt 0 0), ps 3 (.opt 8 0), ps 4 (fv 25), ps 5 (.opt 120 0), ps 6 (iv 4), ps 97 (bv (!(Pi.rightB (Lib.indexByte letB (s.getD 0 0)) 0 ((numS (s.drop 4)).1)))), pb 0 23 [(iv 0), (iv 0), (iv 0)], pb 8 31 [(iv 0), (iv 0)], pb 120 23 [(iv (Lib.indexByte letB (s.getD 0 0))), (iv 0), (iv ((numS (s.drop 4)).1))]] (obs_cons (pright_pc (Lib.indexByte letB (s.getD 0 0)) 0 ((numS (s.drop 4)).1)) (obs_cons (rfl : Ren0 320 [(.agg [(iv (Lib.indexByte letB (s.getD 0 0))), (iv 0), (iv ((numS (s.drop 4)).1))])]) obs_nil)) ?_
        by_cases h5 : (Pi.rightB (Lib.indexByte letB (s.getD 0 0)) 0 ((numS (s.drop 4)).1)) = true
        · refine T_el (congrArg Bool.not h5) ?_
          refine T_skip <| T_seq ?_
          refine T_r mixed [] [ps 2 (.opt 0 0), ps 3 (.opt 8 0), pb 0 23 [(iv (Lib.indexByte letB (s.getD 0 0))), (iv 0), (iv ((numS (s.drop 4)).1))], pb 8 31 [(iv 0), (iv 0)]] (obs_nil) ?_
          rw [readS_yes (s := s) h1 h2 (behind_nat h3) h4 h5]
          exact T_ret fun cx_ a_ hI_ => rt hc0 [ps 2 (.opt 0 0), ps 3 (.opt 1 0), pb 0 23 [(iv (Lib.indexByte letB (s.getD 0 0))), (iv 0), (iv ((numS (s.drop 4)).1))], pb 1 31 [(iv 0), (iv 0)]] [0, 8] hI_
        refine T_th (congrArg Bool.not (Bool.eq_false_iff.2 h5)) ?_
        refine T_seq ?_
        refine T_r mixed [(2, .call [] [(iv 3), (iv 4)] [] (.tup [(.agg [(iv 0), (iv 0), (iv 0)]), (.agg [(iv 3), (iv 4)])]) [])] [ps 2 (.opt 0 0), ps 3 (.opt 8 0), pb 0 23 [(iv 0), (iv 0), (iv 0)], pb 8 31 [(iv 3), (iv 4)]] (obs_cons (bad_pc (3 : Int) (4 : Int)) (obs_cons (rfl : Ren0 352 [(iv 3), (iv 4)]) obs_nil)) ?_
        rw [readS_out (s := s) h1 h2 (behind_nat h3) h4 h5]
        exact T_ret fun cx_ a_ hI_ => rt hc0 [ps 2 (.opt 0 0), ps 3 (.opt 1 0), pb 0 23 [(iv 0), (iv 0), (iv 0)], pb 1 31 [(iv 3), (iv 4)]] [0, 8] hI_
      refine T_th (congrArg Bool.not (Bool.eq_false_iff.2 h4)) ?_
      refine T_seq ?_
      refine T_r mixed [(2, .call [] [(iv 2), (iv 4)] [] (.tup [(.agg [(iv 0), (iv 0), (iv 0)]), (.agg [(iv 2), (iv 4)])]) [])] [ps 2 (.opt 0 0), ps 3 (.opt 8 0), pb 0 23 [(iv 0), (iv 0), (iv 0)], pb 8 31 [(iv 2), (iv 4)]] (obs_cons (bad_pc (2 : Int) (4 : Int)) (obs_cons (rfl : Ren0 304 [(iv 2), (iv 4)]) obs_nil)) ?_
      rw [readS_num (s := s) h1 h2 (behind_nat h3) h4]
      exact T_ret fun cx_ a_ hI_ => rt hc0 [ps 2 (.opt 0 0), ps 3 (.opt 1 0), pb 0 23 [(iv 0), (iv 0), (iv 0)], pb 1 31 [(iv 2), (iv 4)]] [0, 8] hI_
    refine T_else (b := (Lib.hasPrefix (s.drop 1) ([226, 153, 174] : List UInt8))) rfl (Bool.eq_false_iff.2 h3) ?_
    refine T_seq ?_
    refine T_r mixed [] [ps 0 (sv (st s)), ps 2 (.opt 0 0), ps 3 (.opt 8 0), ps 4 (fv 25), ps 5 (.opt 120 0), ps 6 (iv 1), ps 7 (iv 0), pb 0 23 [(iv 0), (iv 0), (iv 0)], pb 8 31 [(iv 0), (iv 0)], pb 120 23 [(iv (Lib.indexByte letB (s.getD 0 0))), (iv 0), (iv 0)]] (obs_nil) ?_
    refine T_block ?_
    refine T_loop (α := {x : Nat × Nat × Int // x.1 < x.2.1 ∧ x.2.1 ≤ s.length ∧ -3 ≤ x.2.2 ∧ x.2.2 ≤ 3 ∧ signsR (s.drop x.2.1) x.2.2 x.2.1 = signsR (s.drop 1) 0 1}) (fun x => [ps 0 (sv (st s)), ps 2 (.opt 0 0), ps 3 (.opt 1 0), ps 4 (fv 25), ps 5 (.opt 2 0), ps 6 (nv x.1.2.1), ps 7 (nv x.1.1), pb 0 23 [(iv 0), (iv 0), (iv 0)], pb 1 31 [(iv 0), (iv 0)], pb 2 23 [(iv (Lib.indexByte letB (s.getD 0 0))), (iv x.1.2.2), (iv 0)]]) (fun x => s.length - x.1.2.1) 3 ⟨(0, 1, 0), ⟨by decide, by show 1 ≤ s.length; omega, by decide, by decide, rfl⟩⟩ (Wk.ren2 [ps 0 (sv (st s)), ps 2 (.opt 0 0), ps 3 (.opt 1 0), ps 4 (fv 25), ps 5 (.opt 2 0), ps 6 (nv 1), ps 7 (nv 0), pb 0 23 [(iv 0), (iv 0), (iv 0)], pb 1 31 [(iv 0), (iv 0)], pb 2 23 [(iv (Lib.indexByte letB (s.getD 0 0))), (iv (0 : Int)), (iv 0)]] 0 hc0 [0, 8, 120] rfl rfl (by kernel_rfl) (by kernel_rfl)) ?_
    rintro ⟨⟨k, n, a⟩, ⟨hk, hn, ha1, ha2, hS⟩⟩
    dsimp only at hk hn ha1 ha2 hS
    refine T_seq <| T_block <| T_seq ?_
    have hdl := dec2_le (s.drop n)
    rw [List.length_drop] at hdl
    have hby := hbd ((dec1 (s.drop n) : Nat) : Int)
    have hml := mul_small (x := a + (signB ((dec1 (s.drop n) : Nat) : Int)).1) (y := (signB ((dec1 (s.drop n) : Nat) : Int)).1) (by omega) (by omega) hby.1 hby.2
    refine T_r mixed [(2, .val (.av (.string (st (s.drop n))))), (3, .call [] [(sv (st (s.drop n)))] [] (.tup [(.av (.int .i32 ((dec1 (s.drop n) : Nat) : Int))), (nv (dec2 (s.drop n)))]) [])] [ps 0 (sv (st s)), ps 2 (.opt 0 0), ps 3 (.opt 1 0), ps 4 (fv 25), ps 5 (.opt 2 0), ps 6 (nv n), ps 7 (nv k), ps 8 (.av (.int .i32 ((dec1 (s.drop n) : Nat) : Int))), ps 9 (nv (dec2 (s.drop n))), pb 0 23 [(iv 0), (iv 0), (iv 0)], pb 1 31 [(iv 0), (iv 0)], pb 2 23 [(iv (Lib.indexByte letB (s.getD 0 0))), (iv a), (iv 0)]] (obs_cons (by first | omega | (simp only [List.length_cons, List.length_nil, List.length_drop, List.length_append, List.length_take]; omega) : (0 : Int) ≤ ((n : Nat) : Int) ∧ ((n : Nat) : Int) ≤ ((s.length : Nat) : Int) ∧ ((s.length : Nat) : Int) ≤ ((s.length : Nat) : Int)) (obs_cons (st_from _ _ _ rfl : (st s).extract (((n : Nat) : Int) : Int).toNat (((s.length : Nat) : Int) : Int).toNat = st (s.drop n)) (obs_cons (decode_pc (s.drop n)) (obs_cons (rfl : Ren0 27 [(sv (st (s.drop n)))]) obs_nil)))) ?_
    refine T_seq ?_
    refine T_r mixed [(1, .call [] [(.av (.int .i32 ((dec1 (s.drop n) : Nat) : Int)))] [] (.tup [(iv ((signB ((dec1 (s.drop n) : Nat) : Int)).1)), (bv ((signB ((dec1 (s.drop n) : Nat) : Int)).2))]) [])] [ps 0 (sv (st s)), ps 2 (.opt 0 0), ps 3 (.opt 1 0), ps 4 (fv 25), ps 5 (.opt 2 0), ps 6 (nv n), ps 7 (nv k), ps 9 (nv (dec2 (s.drop n))), ps 10 (iv ((signB ((dec1 (s.drop n) : Nat) : Int)).1)), ps 11 (bv ((signB ((dec1 (s.drop n) : Nat) : Int)).2)), pb 0 23 [(iv 0), (iv 0), (iv 0)], pb 1 31 [(iv 0), (iv 0)], pb 2 23 [(iv (Lib.indexByte letB (s.getD 0 0))), (iv a), (iv 0)]] (obs_cons (sign_pc ((dec1 (s.drop n) : Nat) : Int)) (obs_cons (rfl : Ren0 83 [(.av (.int .i32 ((dec1 (s.drop n) : Nat) : Int)))]) obs_nil)) ?_
    refine T_seq <| T_seq ?_
    refine T_r mixed [] [ps 0 (sv (st s)), ps 2 (.opt 0 0), ps 3 (.opt 1 0), ps 4 (fv 25), ps 5 (.opt 2 0), ps 6 (nv n), ps 7 (nv k), ps 9 (nv (dec2 (s.drop n))), ps 10 (iv ((signB ((dec1 (s.drop n) : Nat) : Int)).1)), ps 51 (bv (!((signB ((dec1 (s.drop n) : Nat) : Int)).2))), pb 0 23 [(iv 0), (iv 0), (iv 0)], pb 1 31 [(iv 0), (iv 0)], pb 2 23 [(iv (Lib.indexByte letB (s.getD 0 0))), (iv a), (iv 0)]] (obs_nil) ?_
    by_cases h6 : ((signB ((dec1 (s.drop n) : Nat) : Int)).2) = true
    · refine T_el (congrArg Bool.not h6) ?_
      refine T_skip <| T_seq <| T_seq ?_
      refine T_r mixed [] [ps 0 (sv (st s)), ps 2 (.opt 0 0), ps 3 (.opt 1 0), ps 4 (fv 25), ps 5 (.opt 2 0), ps 6 (nv n), ps 7 (nv k), ps 9 (nv (dec2 (s.drop n))), ps 10 (iv ((signB ((dec1 (s.drop n) : Nat) : Int)).1)), pb 0 23 [(iv 0), (iv 0), (iv 0)], pb 1 31 [(iv 0), (iv 0)], pb 2 23 [(iv (Lib.indexByte letB (s.getD 0 0))), (iv (a + ((signB ((dec1 (s.drop n) : Nat) : Int)).1))), (iv 0)]] (obs_cons (by simp only [InK]; omega : InK .i64 (a + ((signB ((dec1 (s.drop n) : Nat) : Int)).1))) obs_nil) ?_
      refine T_seq ?_
      by_cases h7 : ((a + ((signB ((dec1 (s.drop n) : Nat) : Int)).1)) * ((signB ((dec1 (s.drop n) : Nat) : Int)).1)) < 0
      · refine T_r mixed [(6, .gd true .no), (7, .gd true .no), (8, .gd true .no), (9, .gd true .no), (10, .gd true .no), (11, .gd true .no), (12, .gd true .no), (13, .yes true)] [ps 0 (sv (st s)), ps 2 (.opt 0 0), ps 3 (.opt 1 0), ps 4 (fv 25), ps 5 (.opt 2 0), ps 6 (nv n), ps 7 (nv k), ps 9 (nv (dec2 (s.drop n))), ps 70 (bv true), pb 0 23 [(iv 0), (iv 0), (iv 0)], pb 1 31 [(iv 0), (iv 0)], pb 2 23 [(iv (Lib.indexByte letB (s.getD 0 0))), (iv (a + ((signB ((dec1 (s.drop n) : Nat) : Int)).1))), (iv 0)]] (obs_cons (by simp only [InK]; omega : InK .i64 ((a + ((signB ((dec1 (s.drop n) : Nat) : Int)).1)) * ((signB ((dec1 (s.drop n) : Nat) : Int)).1))) (obs_cons (decide_eq_true h7) (obs_cons (decide_eq_true h7) (obs_cons (decide_eq_true h7) (obs_cons (decide_eq_true h7) (obs_cons (decide_eq_true h7) (obs_cons (decide_eq_true h7) (obs_cons (decide_eq_true h7) (obs_cons (decide_eq_true h7) obs_nil))))))))) ?_
        refine T_then (b := true) rfl rfl ?_
        refine T_seq ?_
        refine T_r mixed [(2, .call [] [(iv 3), (nv n)] [] (.tup [(.agg [(iv 0), (iv 0), (iv 0)]), (.agg [(iv 3), (iv ((n : Nat) : Int))])]) [])] [ps 2 (.opt 0 0), ps 3 (.opt 1 0), pb 0 23 [(iv 0), (iv 0), (iv 0)], pb 1 31 [(iv 3), (iv ((n : Nat) : Int))]] (obs_cons (bad_pc (3 : Int) ((n : Nat) : Int)) (obs_cons (rfl : Ren0 323 [(iv 3), (nv n)]) obs_nil)) ?_
        rw [readS_bad (s := s) h1 h2 (behind_signs h3 hS (signsR_bad h6 (.inl h7)))]
        exact T_ret fun cx_ a_ hI_ => loop_ret (rt hc0 [ps 2 (.opt 0 0), ps 3 (.opt 1 0), pb 0 23 [(iv 0), (iv 0), (iv 0)], pb 1 31 [(iv 3), (iv ((n : Nat) : Int))]] [0, 1] hI_)
      refine T_r mixed [(6, .gd false (.no)), (7, .gd false (.no)), (8, .gd false (.no)), (9, .gd false (.no)), (10, .gd false (.no)), (11, .gd false (.no)), (12, .gd false (.no)), (13, .yes false)] [ps 0 (sv (st s)), ps 2 (.opt 0 0), ps 3 (.opt 1 0), ps 4 (fv 25), ps 5 (.opt 2 0), ps 6 (nv n), ps 7 (nv k), ps 9 (nv (dec2 (s.drop n))), ps 70 (bv (decide (3 < (max (a + ((signB ((dec1 (s.drop n) : Nat) : Int)).1)) (0 - (a + ((signB ((dec1 (s.drop n) : Nat) : Int)).1))))))), pb 0 23 [(iv 0), (iv 0), (iv 0)], pb 1 31 [(iv 0), (iv 0)], pb 2 23 [(iv (Lib.indexByte letB (s.getD 0 0))), (iv (a + ((signB ((dec1 (s.drop n) : Nat) : Int)).1))), (iv 0)]] (obs_cons (by simp only [InK]; omega : InK .i64 ((a + ((signB ((dec1 (s.drop n) : Nat) : Int)).1)) * ((signB ((dec1 (s.drop n) : Nat) : Int)).1))) (obs_cons (decide_eq_false h7) (obs_cons (decide_eq_false h7) (obs_cons (decide_eq_false h7) (obs_cons (decide_eq_false h7) (obs_cons (decide_eq_false h7) (obs_cons (by simp only [InK]; omega : InK .i64 (0 - (a + ((signB ((dec1 (s.drop n) : Nat) : Int)).1)))) (obs_cons (decide_eq_false h7) (obs_cons (decide_eq_false h7) (obs_cons (decide_eq_false h7) obs_nil)))))))))) ?_
      by_cases h8 : 3 < (max (a + ((signB ((dec1 (s.drop n) : Nat) : Int)).1)) (0 - (a + ((signB ((dec1 (s.drop n) : Nat) : Int)).1))))
      · refine T_th (decide_eq_true h8) ?_
        refine T_seq ?_
        refine T_r mixed [(2, .call [] [(iv 3), (nv n)] [] (.tup [(.agg [(iv 0), (iv 0), (iv 0)]), (.agg [(iv 3), (iv ((n : Nat) : Int))])]) [])] [ps 2 (.opt 0 0), ps 3 (.opt 1 0), pb 0 23 [(iv 0), (iv 0), (iv 0)], pb 1 31 [(iv 3), (iv ((n : Nat) : Int))]] (obs_cons (bad_pc (3 : Int) ((n : Nat) : Int)) (obs_cons (rfl : Ren0 323 [(iv 3), (nv n)]) obs_nil)) ?_
        rw [readS_bad (s := s) h1 h2 (behind_signs h3 hS (signsR_bad h6 (.inr h8)))]
        exact T_ret fun cx_ a_ hI_ => loop_ret (rt hc0 [ps 2 (.opt 0 0), ps 3 (.opt 1 0), pb 0 23 [(iv 0), (iv 0), (iv 0)], pb 1 31 [(iv 3), (iv ((n : Nat) : Int))]] [0, 1] hI_)
      refine T_el (decide_eq_false h8) ?_
      refine T_skip ?_
      refine T_r mixed [] [ps 0 (sv (st s)), ps 2 (.opt 0 0), ps 3 (.opt 1 0), ps 4 (fv 25), ps 5 (.opt 2 0), ps 6 (iv (((n : Nat) : Int) + ((dec2 (s.drop n) : Nat) : Int))), ps 7 (nv k), pb 0 23 [(iv 0), (iv 0), (iv 0)], pb 1 31 [(iv 0), (iv 0)], pb 2 23 [(iv (Lib.indexByte letB (s.getD 0 0))), (iv (a + ((signB ((dec1 (s.drop n) : Nat) : Int)).1))), (iv 0)]] (obs_cons (by simp only [InK]; omega : InK .i64 (((n : Nat) : Int) + ((dec2 (s.drop n) : Nat) : Int))) obs_nil) ?_
      refine T_blk ?_
      refine T_r mixed [] [ps 0 (sv (st s)), ps 2 (.opt 0 0), ps 3 (.opt 1 0), ps 4 (fv 25), ps 5 (.opt 2 0), ps 6 (iv (((n : Nat) : Int) + ((dec2 (s.drop n) : Nat) : Int))), ps 7 (iv (((k : Nat) : Int) + 1)), pb 0 23 [(iv 0), (iv 0), (iv 0)], pb 1 31 [(iv 0), (iv 0)], pb 2 23 [(iv (Lib.indexByte letB (s.getD 0 0))), (iv (a + ((signB ((dec1 (s.drop n) : Nat) : Int)).1))), (iv 0)]] (obs_cons (by simp only [InK]; omega : InK .i64 (((k : Nat) : Int) + 1)) obs_nil) ?_
      have hon := signsR_on (l := s.drop n) (a := a) (n := n) h6 (by rintro (h | h); exact h7 h; exact h8 h)
      rw [List.drop_drop] at hon
      have hd1 := (sign_some h6).2
      exact T_back ⟨(k + 1, n + dec2 (s.drop n), a + (signB ((dec1 (s.drop n) : Nat) : Int)).1), ⟨by show k + 1 < n + dec2 (s.drop n); omega, by show n + dec2 (s.drop n) ≤ s.length; omega, by show -3 ≤ a + (signB ((dec1 (s.drop n) : Nat) : Int)).1; omega, by show a + (signB ((dec1 (s.drop n) : Nat) : Int)).1 ≤ 3; omega, hon.symm.trans hS⟩⟩ (Wk.ren2 [ps 0 (sv (st s)), ps 2 (.opt 0 0), ps 3 (.opt 1 0), ps 4 (fv 25), ps 5 (.opt 2 0), ps 6 (nv (n + dec2 (s.drop n))), ps 7 (nv (k + 1)), pb 0 23 [(iv 0), (iv 0), (iv 0)], pb 1 31 [(iv 0), (iv 0)], pb 2 23 [(iv (Lib.indexByte letB (s.getD 0 0))), (iv (a + (signB ((dec1 (s.drop n) : Nat) : Int)).1)), (iv 0)]] 0 hc0 [0, 1, 2] rfl rfl (by kernel_rfl) (by kernel_rfl)) (show s.length - (n + dec2 (s.drop n)) < s.length - n from by show s.length - (n + dec2 (s.drop n)) < s.length - n; omega)
    refine T_th (congrArg Bool.not (Bool.eq_false_iff.2 h6)) ?_
    refine T_break rfl rfl ?_
    refine T_seq ?_
    refine T_r mixed [(2, .val (.av (.string (st (s.drop n))))), (3, .call [] [(sv (st (s.drop n)))] [] (.tup [(iv ((numS (s.drop n)).1)), (bv ((numS (s.drop n)).2))]) [])] [ps 2 (.opt 0 0), ps 3 (.opt 1 0), ps 4 (fv 25), ps 5 (.opt 2 0), ps 6 (nv n), ps 12 (iv ((numS (s.drop n)).1)), ps 13 (bv ((numS (s.drop n)).2)), pb 0 23 [(iv 0), (iv 0), (iv 0)], pb 1 31 [(iv 0), (iv 0)], pb 2 23 [(iv (Lib.indexByte letB (s.getD 0 0))), (iv a), (iv 0)]] (obs_cons (by first | omega | (simp only [List.length_cons, List.length_nil, List.length_drop, List.length_append, List.length_take]; omega) : (0 : Int) ≤ ((n : Nat) : Int) ∧ ((n : Nat) : Int) ≤ ((s.length : Nat) : Int) ∧ ((s.length : Nat) : Int) ≤ ((s.length : Nat) : Int)) (obs_cons (st_from _ _ _ rfl : (st s).extract (((n : Nat) : Int) : Int).toNat (((s.length : Nat) : Int) : Int).toNat = st (s.drop n)) (obs_cons (number_pc (s.drop n) (by rw [List.length_drop]; omega)) (obs_cons (rfl : Ren0 171 [(sv (st (s.drop n)))]) obs_nil)))) ?_
    refine T_seq <| T_seq ?_
    refine T_r mixed [] [ps 2 (.opt 0 0), ps 3 (.opt 1 0), ps 4 (fv 25), ps 5 (.opt 2 0), ps 6 (nv n), ps 12 (iv ((numS (s.drop n)).1)), ps 87 (bv (!((numS (s.drop n)).2))), pb 0 23 [(iv 0), (iv 0), (iv 0)], pb 1 31 [(iv 0), (iv 0)], pb 2 23 [(iv (Lib.indexByte letB (s.getD 0 0))), (iv a), (iv 0)]] (obs_nil) ?_
    by_cases h9 : ((numS (s.drop n)).2) = true
    · refine T_el (congrArg Bool.not h9) ?_
      refine T_skip <| T_seq <| T_seq ?_
      have hnb := num_bd (s.drop n)
      refine T_r mixed [] [ps 2 (.opt 0 0), ps 3 (.opt 1 0), ps 4 (fv 25), ps 5 (.opt 2 0), ps 6 (nv n), pb 0 23 [(iv 0), (iv 0), (iv 0)], pb 1 31 [(iv 0), (iv 0)], pb 2 23 [(iv (Lib.indexByte letB (s.getD 0 0))), (iv a), (iv ((numS (s.drop n)).1))]] (obs_nil) ?_
      refine T_seq ?_
      refine T_r mixed [(1, .call [] [(.agg [(iv (Lib.indexByte letB (s.getD 0 0))), (iv a), (iv ((numS (s.drop n)).1))])] [] (bv (Pi.rightB (Lib.indexByte letB (s.getD 0 0)) a ((numS (s.drop n)).1))) [])] [ps 2 (.opt 0 0), ps 3 (.opt 1 0), ps 4 (fv 25), ps 5 (.opt 2 0), ps 6 (nv n), ps 97 (bv (!(Pi.rightB (Lib.indexByte letB (s.getD 0 0)) a ((numS (s.drop n)).1)))), pb 0 23 [(iv 0), (iv 0), (iv 0)], pb 1 31 [(iv 0), (iv 0)], pb 2 23 [(iv (Lib.indexByte letB (s.getD 0 0))), (iv a), (iv ((numS (s.drop n)).1))]] (obs_cons (pright_pc (Lib.indexByte letB (s.getD 0 0)) a ((numS (s.drop n)).1)) (obs_cons (rfl : Ren0 267 [(.agg [(iv (Lib.indexByte letB (s.getD 0 0))), (iv a), (iv ((numS (s.drop n)).1))])]) obs_nil)) ?_
      by_cases h10 : (Pi.rightB (Lib.indexByte letB (s.getD 0 0)) a ((numS (s.drop n)).1)) = true
      · refine T_el (congrArg Bool.not h10) ?_
        refine T_skip <| T_seq ?_
        refine T_r mixed [] [ps 2 (.opt 0 0), ps 3 (.opt 1 0), pb 0 23 [(iv (Lib.indexByte letB (s.getD 0 0))), (iv a), (iv ((numS (s.drop n)).1))], pb 1 31 [(iv 0), (iv 0)]] (obs_nil) ?_
        rw [readS_yes (s := s) h1 h2 (behind_signs h3 hS (signsR_end h6)) h9 h10]
        exact T_ret fun cx_ a_ hI_ => rt hc0 [ps 2 (.opt 0 0), ps 3 (.opt 1 0), pb 0 23 [(iv (Lib.indexByte letB (s.getD 0 0))), (iv a), (iv ((numS (s.drop n)).1))], pb 1 31 [(iv 0), (iv 0)]] [0, 1] hI_
      refine T_th (congrArg Bool.not (Bool.eq_false_iff.2 h10)) ?_
      refine T_seq ?_
      refine T_r mixed [(2, .call [] [(iv 3), (nv n)] [] (.tup [(.agg [(iv 0), (iv 0), (iv 0)]), (.agg [(iv 3), (iv ((n : Nat) : Int))])]) [])] [ps 2 (.opt 0 0), ps 3 (.opt 1 0), pb 0 23 [(iv 0), (iv 0), (iv 0)], pb 1 31 [(iv 3), (iv ((n : Nat) : Int))]] (obs_cons (bad_pc (3 : Int) ((n : Nat) : Int)) (obs_cons (rfl : Ren0 299 [(iv 3), (nv n)]) obs_nil)) ?_
      rw [readS_out (s := s) h1 h2 (behind_signs h3 hS (signsR_end h6)) h9 h10]
      exact T_ret fun cx_ a_ hI_ => rt hc0 [ps 2 (.opt 0 0), ps 3 (.opt 1 0), pb 0 23 [(iv 0), (iv 0), (iv 0)], pb 1 31 [(iv 3), (iv ((n : Nat) : Int))]] [0, 1] hI_
    refine T_th (congrArg Bool.not (Bool.eq_false_iff.2 h9)) ?_
    refine T_seq ?_
    refine T_r mixed [(2, .call [] [(iv 2), (nv n)] [] (.tup [(.agg [(iv 0), (iv 0), (iv 0)]), (.agg [(iv 2), (iv ((n : Nat) : Int))])]) [])] [ps 2 (.opt 0 0), ps 3 (.opt 1 0), pb 0 23 [(iv 0), (iv 0), (iv 0)], pb 1 31 [(iv 2), (iv ((n : Nat) : Int))]] (obs_cons (bad_pc (2 : Int) ((n : Nat) : Int)) (obs_cons (rfl : Ren0 251 [(iv 2), (nv n)]) obs_nil)) ?_
    rw [readS_num (s := s) h1 h2 (behind_signs h3 hS (signsR_end h6)) h9]
    exact T_ret fun cx_ a_ hI_ => rt hc0 [ps 2 (.opt 0 0), ps 3 (.opt 1 0), pb 0 23 [(iv 0), (iv 0), (iv 0)], pb 1 31 [(iv 2), (iv ((n : Nat) : Int))]] [0, 1] hI_
  refine T_th (bf h2) ?_
  refine T_seq ?_
  refine T_r mixed [(1, .call [] [(iv 2), (iv 0)] [] (.tup [(.agg [(iv 0), (iv 0), (iv 0)]), (.agg [(iv 2), (iv 0)])]) [])] [ps 2 (.opt 0 0), ps 3 (.opt 8 0), pb 0 23 [(iv 0), (iv 0), (iv 0)], pb 8 31 [(iv 2), (iv 0)]] (obs_cons (bad_pc (2 : Int) (0 : Int)) (obs_cons (rfl : Ren0 96 [(iv 2), (iv 0)]) obs_nil)) ?_
  rw [readS_no0 (s := s) (.inr h2)]
  exact T_ret fun cx_ a_ hI_ => rt hc0 [ps 2 (.opt 0 0), ps 3 (.opt 1 0), pb 0 23 [(iv 0), (iv 0), (iv 0)], pb 1 31 [(iv 2), (iv 0)]] [0, 8] hI_
theorem read_pc (s : List UInt8) (hs : s.length ≤ 9223372036854775807) : PC Tryz.prog 8 [(sv (st s))] [] ((.tup [(.agg [(iv ((readS s).1.1)), (iv ((readS s).1.2.1)), (iv ((readS s).1.2.2))]), (.agg [(iv ((readS s).2.1)), (iv ((readS s).2.2))])])) [] := pc_trim [none, none] rfl (fun i => by rcases i with _ | _ | i <;> rfl) (read_pc0 s hs)
end Go.Proofs.YtlngkiipgkociaaGreatDoor.Pm
namespace Go.Proofs.YtlngkiipgkociaaGreatDoor.Pm
open Go Go.Proofs.YtlngkiipgkociaaGreatDoor.Pi

def perfB (s : Int) : Bool := decide (s % 7 = 0 ∨ s % 7 = 3 ∨ s % 7 = 4)
/-- What an interval's plain half tones are short of. -/
def moreOf (s h : Int) : Int := h - 12 * (s / 7) - nat7 (s % 7)
def qualS (p : Bool) (m : Int) : List UInt8 :=
  if 0 < m then Lib.repeatL [65] (min m 7).toNat else if m = 0 then (if p = true then [80] else [77]) else if p = true then Lib.repeatL [100] (min (0 - m) 7).toNat
  else if m = -1 then [109] else Lib.repeatL [100] (min (0 - m - 1) 7).toNat
def nameA (mn : List UInt8) (s h : Int) : List UInt8 × Int :=
  if 6 < (qualS (perfB s) (moreOf s h)).length then ([], 3) else (mn ++ qualS (perfB s) (moreOf s h) ++ Lib.itoa (s + 1), 0)
/-- An interval's name. -/
def nameS (s h : Int) : List UInt8 × Int :=
  if withinB s h = true then (if s < 0 ∨ (s = 0 ∧ h < 0) then nameA [45] (0 - s) (0 - h) else nameA [] s h) else ([], 3)
def tOf (s : List UInt8) : List UInt8 := Lib.trimPrefix s [45]
def quals : List UInt8 := [80, 77, 109, 65, 100]
def dOf (s : List UInt8) : List UInt8 := Lib.trimLeftS (tOf s) quals
def qOf (s : List UInt8) : List UInt8 := (tOf s).take ((tOf s).length - (dOf s).length)
/-- What a quality adds to the plain half tones. -/
def qualV (p : Bool) (q : List UInt8) : Option Int :=
  if (q = [80] ∧ p = true) ∨ (q = [77] ∧ ¬ p = true) then some 0 else if q = [109] ∧ ¬ p = true then some (-1) else if Lib.trimS q [65] = [] then some (q.length : Int)
  else if Lib.trimS q [100] = [] ∧ p = true then some (-(q.length : Int)) else if Lib.trimS q [100] = [] then some (-((q.length : Int) + 1)) else none
def stepsOf (s : List UInt8) : Int := (numS (dOf s)).1 - 1
def jOf (s : List UInt8) (m : Int) : Int × Int :=
  if (tOf s).length < s.length then (0 - stepsOf s, 0 - (12 * (stepsOf s / 7) + nat7 (stepsOf s % 7) + m)) else (stepsOf s, 12 * (stepsOf s / 7) + nat7 (stepsOf s % 7) + m)
def checked (s : List UInt8) (j : Int × Int) : (Int × Int) × Int := if (nameS j.1 j.2).2 = 0 ∧ (nameS j.1 j.2).1 = s then (j, 0) else ((0, 0), 2)
/-- The interval whose name it is. -/
def namedS (s : List UInt8) : (Int × Int) × Int :=
  if ¬ (numS (dOf s)).2 = true ∨ (numS (dOf s)).1 < 1 ∨ qOf s = [] then ((0, 0), 2)
  else if 200 < stepsOf s ∨ (6 : Int) < ((qOf s).length : Int) then ((0, 0), 3)
  else match qualV (perfB (stepsOf s)) (qOf s) with
    | none => ((0, 0), 2)
    | some m => checked s (jOf s m)

theorem one_ascii {c : UInt8} (h : c.toNat < 128) : ∀ (j : Nat) b, ([c] : List UInt8)[j]? = some b → b.toNat < 128 := by
  intro j b hb
  have := List.mem_of_getElem? hb
  simp only [List.mem_singleton] at this
  subst this; exact h
theorem quals_ascii : ∀ (j : Nat) b, quals[j]? = some b → b.toNat < 128 := by
  intro j b h
  have : ∀ b ∈ quals, b.toNat < 128 := by decide
  exact this b (List.mem_of_getElem? h)
theorem tOf_le (s : List UInt8) : (tOf s).length ≤ s.length := by
  unfold tOf Lib.trimPrefix
  split
  · rw [List.length_drop]; omega
  · exact Nat.le_refl _
theorem dOf_le (s : List UInt8) : (dOf s).length ≤ (tOf s).length := (List.dropWhile_suffix _).length_le
theorem rep_len (c : UInt8) : ∀ n, (Lib.repeatL [c] n).length = n
  | 0 => rfl
  | n + 1 => by
    have := rep_len c n
    show ([c] ++ Lib.repeatL [c] n).length = n + 1
    rw [List.length_append, this]; simp; omega
theorem qual_len (p : Bool) (m : Int) : (qualS p m).length ≤ 7 := by
  unfold qualS
  repeat' split
  all_goals first | (rw [rep_len]; omega) | (show 1 ≤ 7; decide)
theorem nameA_far {mn : List UInt8} {s h : Int} {q : List UInt8} (hq : qualS (perfB s) (moreOf s h) = q) (hl : (6 : Int) < (q.length : Int)) : nameA mn s h = ([], 3) := by
  unfold nameA; rw [hq, if_pos (by omega)]
theorem nameA_ok {mn : List UInt8} {s h : Int} {q : List UInt8} (hq : qualS (perfB s) (moreOf s h) = q) (hl : ¬ (6 : Int) < (q.length : Int)) : nameA mn s h = (mn ++ q ++ Lib.itoa (s + 1), 0) := by
  unfold nameA; rw [hq, if_neg (by omega)]
theorem nameS_no {s h : Int} (hw : ¬ withinB s h = true) : nameS s h = ([], 3) := if_neg hw
theorem nameS_neg {s h : Int} {r : List UInt8 × Int} (hw : withinB s h = true) (hn : s < 0 ∨ (s = 0 ∧ h < 0)) (hr : nameA [45] (0 - s) (0 - h) = r) : nameS s h = r := by unfold nameS; rw [if_pos hw, if_pos hn, hr]
theorem nameS_pos {s h : Int} {r : List UInt8 × Int} (hw : withinB s h = true) (hn : ¬ (s < 0 ∨ (s = 0 ∧ h < 0))) (hr : nameA [] s h = r) : nameS s h = r := by unfold nameS; rw [if_pos hw, if_neg hn, hr]
section
variable {p : Bool} {m : Int}
theorem qual_up (h : 0 < m) : qualS p m = Lib.repeatL [65] (min m 7).toNat := if_pos h
theorem qual_P (h : m = 0) (hp : p = true) : qualS p m = [80] := by subst h; unfold qualS; rw [if_neg (by decide), if_pos rfl, if_pos hp]
theorem qual_M (h : m = 0) (hp : ¬ p = true) : qualS p m = [77] := by subst h; unfold qualS; rw [if_neg (by decide), if_pos rfl, if_neg hp]
theorem qual_d (h0 : ¬ 0 < m) (h : ¬ m = 0) (hp : p = true) : qualS p m = Lib.repeatL [100] (min (0 - m) 7).toNat := by unfold qualS; rw [if_neg h0, if_neg h, if_pos hp]
theorem qual_m (h : m = -1) (hp : ¬ p = true) : qualS p m = [109] := by subst h; unfold qualS; rw [if_neg (by decide), if_neg (by decide), if_neg hp, if_pos rfl]
theorem qual_dd (h0 : ¬ 0 < m) (h : ¬ m = 0) (hp : ¬ p = true) (h1 : ¬ m = -1) : qualS p m = Lib.repeatL [100] (min (0 - m - 1) 7).toNat := by unfold qualS; rw [if_neg h0, if_neg h, if_neg hp, if_neg h1]
end
section
variable {s : List UInt8}
theorem named_form (h : ¬ (numS (dOf s)).2 = true ∨ (numS (dOf s)).1 < 1 ∨ qOf s = []) : namedS s = ((0, 0), 2) := if_pos h
variable (h0 : (numS (dOf s)).2 = true) (h1 : ¬ (numS (dOf s)).1 < 1) (h2 : ¬ qOf s = [])
include h0 h1 h2
theorem named_far (h : 200 < stepsOf s ∨ (6 : Int) < ((qOf s).length : Int)) : namedS s = ((0, 0), 3) := by
  unfold namedS; rw [if_neg (by rintro (h | h | h); exact h h0; exact h1 h; exact h2 h), if_pos h]
variable (h3 : ¬ 200 < stepsOf s) (h4 : ¬ (6 : Int) < ((qOf s).length : Int))
include h3 h4
theorem named_none (h : qualV (perfB (stepsOf s)) (qOf s) = none) : namedS s = ((0, 0), 2) := by
  unfold namedS; rw [if_neg (by rintro (h | h | h); exact h h0; exact h1 h; exact h2 h), if_neg (by rintro (h | h); exact h3 h; exact h4 h), h]
theorem named_some {m : Int} {j : Int × Int} (h : qualV (perfB (stepsOf s)) (qOf s) = some m) (hj : jOf s m = j) : namedS s = checked s j := by
  unfold namedS; rw [if_neg (by rintro (h | h | h); exact h h0; exact h1 h; exact h2 h), if_neg (by rintro (h | h); exact h3 h; exact h4 h), h, ← hj]
end
theorem checked_yes {s : List UInt8} {x y : Int} (h1 : (nameS x y).2 = 0) (h2 : (nameS x y).1 = s) : checked s (x, y) = ((x, y), 0) := if_pos ⟨h1, h2⟩
theorem checked_no1 {s : List UInt8} {x y : Int} (h1 : ¬ (nameS x y).2 = 0) : checked s (x, y) = ((0, 0), 2) := if_neg (fun h => h1 h.1)
theorem checked_no2 {s : List UInt8} {x y : Int} (h1 : ¬ (nameS x y).1 = s) : checked s (x, y) = ((0, 0), 2) := if_neg (fun h => h1 h.2)
section
variable {p : Bool} {q : List UInt8}
theorem val_P (h : q = [80]) (hp : p = true) : qualV p q = some 0 := if_pos (.inl ⟨h, hp⟩)
theorem val_M (h : q = [77]) (hp : ¬ p = true) : qualV p q = some 0 := if_pos (.inr ⟨h, hp⟩)
variable (h1 : ¬ (q = [80] ∧ p = true)) (h2 : ¬ (q = [77] ∧ ¬ p = true))
include h1 h2
theorem val_m (h : q = [109]) (hp : ¬ p = true) : qualV p q = some (-1) := by unfold qualV; rw [if_neg (by rintro (h | h); exact h1 h; exact h2 h), if_pos ⟨h, hp⟩]
variable (h3 : ¬ (q = [109] ∧ ¬ p = true))
include h3
theorem val_A (h : Lib.trimS q [65] = []) : qualV p q = some (q.length : Int) := by unfold qualV; rw [if_neg (by rintro (h | h); exact h1 h; exact h2 h), if_neg h3, if_pos h]
variable (h4 : ¬ Lib.trimS q [65] = [])
include h4
theorem val_d (h : Lib.trimS q [100] = []) (hp : p = true) : qualV p q = some (-(q.length : Int)) := by unfold qualV; rw [if_neg (by rintro (h | h); exact h1 h; exact h2 h), if_neg h3, if_neg h4, if_pos ⟨h, hp⟩]
theorem val_dd (h : Lib.trimS q [100] = []) (hp : ¬ p = true) : qualV p q = some (-((q.length : Int) + 1)) := by unfold qualV; rw [if_neg (by rintro (h | h); exact h1 h; exact h2 h), if_neg h3, if_neg h4, if_neg (fun c => hp c.2), if_pos h]
theorem val_no (h : ¬ Lib.trimS q [100] = []) : qualV p q = none := by unfold qualV; rw [if_neg (by rintro (h | h); exact h1 h; exact h2 h), if_neg h3, if_neg h4, if_neg (fun c => h c.1), if_neg h]
end
theorem q_cut (s : List UInt8) : (st (tOf s)).extract (0 : Int).toNat ((((tOf s).length : Nat) : Int) - (((dOf s).length : Nat) : Int)).toNat = st (qOf s) := by
  rw [show ((((tOf s).length : Nat) : Int) - (((dOf s).length : Nat) : Int)).toNat = (tOf s).length - (dOf s).length from by omega]
  exact st_upto _ _
theorem qOf_le (s : List UInt8) : (qOf s).length ≤ (tOf s).length := by unfold qOf; rw [List.length_take]; omega
end Go.Proofs.YtlngkiipgkociaaGreatDoor.Pm
namespace Go.Proofs.YtlngkiipgkociaaGreatDoor.Pm
open Go Go.Proofs.YtlngkiipgkociaaGreatDoor.Pi

set_option maxRecDepth 100000 in
set_option maxHeartbeats 4000000 in
theorem perfect_pc (s : Int) (hs : 0 ≤ s) : PC Tryz.prog 21 [(iv s)] [] (bv (perfB s)) [] := by
  refine pc_intro Tryz.func21 rfl (by kernel_rfl) (Nat.le_of_ble_eq_true rfl) (by kernel_rfl) (l0 := [ps 0 (iv s)]) rfl (fun c0 Bor hc0 => ?_)
  refine T_seq ?_
  refine T_r mixed [] [ps 0 (iv s)] (obs_nil) ?_
  refine T_seq ?_
  refine T_r mixed [] [ps 3 (iv ((s).tmod 7))] (obs_cons (by decide : 7 ≠ (0 : Int)) obs_nil) ?_
  refine T_seq ?_
  refine T_wk (Wk.eq (show _ = [ps 3 (iv (s % 7))] from by rw [Int.tmod_eq_emod_of_nonneg hs])) ?_
  by_cases h1 : (s % 7) = 0
  · refine T_r mixed [(3, .gd true .no), (4, .gd true .no), (5, .yes true), (7, .gd true .no), (8, .gd true .no)] [ps 2 (bv true)] (obs_cons (decide_eq_true h1) (obs_cons (decide_eq_true h1) (obs_cons (decide_eq_true h1) (obs_cons (rfl : true = true) (obs_cons (rfl : true = true) obs_nil))))) ?_
    rw [show perfB s = true from decide_eq_true (by omega)]
    exact T_ret fun cx_ a_ hI_ => rt hc0 [ps 2 (bv true)] [] hI_
  by_cases h2 : (s % 7) = 3
  · refine T_r mixed [(3, .gd false (.no)), (4, .gd false (.no)), (5, .yes false), (7, .gd true .no), (8, .gd true .no), (9, .yes true)] [ps 2 (bv true)] (obs_cons (decide_eq_false h1) (obs_cons (decide_eq_false h1) (obs_cons (decide_eq_false h1) (obs_cons (decide_eq_true h2) (obs_cons (decide_eq_true h2) (obs_cons (decide_eq_true h2) obs_nil)))))) ?_
    rw [show perfB s = true from decide_eq_true (by omega)]
    exact T_ret fun cx_ a_ hI_ => rt hc0 [ps 2 (bv true)] [] hI_
  refine T_r mixed [(3, .gd false (.no)), (4, .gd false (.no)), (5, .yes false), (7, .gd false (.no)), (8, .gd false (.no)), (9, .yes false)] [ps 2 (bv (decide ((s % 7) = 4)))] (obs_cons (decide_eq_false h1) (obs_cons (decide_eq_false h1) (obs_cons (decide_eq_false h1) (obs_cons (decide_eq_false h2) (obs_cons (decide_eq_false h2) (obs_cons (decide_eq_false h2) obs_nil)))))) ?_
  refine T_wk (Wk.eq (show _ = [ps 2 (bv (perfB s))] from by rw [show decide ((s % 7) = 4) = perfB s from decide_eq_decide.2 (by omega)])) ?_
  exact T_ret fun cx_ a_ hI_ => rt hc0 [ps 2 (bv (perfB s))] [] hI_
set_option maxRecDepth 100000 in
set_option maxHeartbeats 4000000 in
theorem name_pc (s h : Int) (i1 : Pi.I64 s) (i2 : Pi.I64 h) : PC Tryz.prog 6 [(.agg [(iv s), (iv h)])] [] (.tup [(sv (st ((nameS s h).1))), (iv ((nameS s h).2))]) [] := by
  refine pc_intro Tryz.func6 rfl (by kernel_rfl) (Nat.le_of_ble_eq_true rfl) (by kernel_rfl) (l0 := [ps 0 (.agg [(iv s), (iv h)])]) rfl (fun c0 Bor hc0 => ?_)
  refine T_seq ?_
  refine T_r mixed [] [ps 1 (.opt 0 0), pb 0 25 [(iv s), (iv h)]] (obs_nil) ?_
  refine T_seq <| T_seq ?_
  refine T_r mixed [(1, .call [] [(.agg [(iv s), (iv h)])] [] (bv (Pi.withinB s h)) [])] [ps 1 (.opt 0 0), ps 11 (bv (!(Pi.withinB s h))), pb 0 25 [(iv s), (iv h)]] (obs_cons (pwithin_pc s h i1 i2) (obs_cons (rfl : Ren0 32 [(.agg [(iv s), (iv h)])]) obs_nil)) ?_
  by_cases h1 : (Pi.withinB s h) = true
  · refine T_el (congrArg Bool.not h1) ?_
    refine T_skip <| T_seq ?_
    refine T_r mixed [] [ps 1 (.opt 0 0), ps 4 (sv (st ([] : List UInt8))), pb 0 25 [(iv s), (iv h)]] (obs_nil) ?_
    refine T_seq <| T_seq ?_
    have hw := Pi.withinB_iff.1 h1
    by_cases h2 : s < 0
    · refine T_r mixed [(4, .gd true .no), (5, .gd true .no), (6, .gd true .no), (7, .gd true .no), (11, .gd true .no), (12, .yes true)] [ps 1 (.opt 0 0), ps 4 (sv (st ([] : List UInt8))), ps 24 (bv true), pb 0 25 [(iv s), (iv h)]] (obs_cons (decide_eq_true h2) (obs_cons (decide_eq_true h2) (obs_cons (decide_eq_true h2) (obs_cons (decide_eq_true h2) (obs_cons (decide_eq_true h2) (obs_cons (decide_eq_true h2) obs_nil)))))) ?_
      refine T_then (b := true) rfl rfl ?_
      refine T_seq ?_
      refine T_r mixed [] [ps 1 (.opt 0 0), ps 4 (sv (st ([45] : List UInt8))), pb 0 25 [(iv s), (iv h)]] (obs_nil) ?_
      refine T_r mixed [] [ps 1 (.opt 0 0), ps 4 (sv (st ([45] : List UInt8))), pb 0 25 [(iv (0 - s)), (iv (0 - h))]] (obs_cons (by simp only [InK]; omega : InK .i64 (0 - s)) (obs_cons (by simp only [InK]; omega : InK .i64 (0 - h)) obs_nil)) ?_
      refine T_seq ?_
      obtain ⟨x, hx⟩ : ∃ x, x = 0 - s := ⟨_, rfl⟩
      obtain ⟨y, hy⟩ : ∃ y, y = 0 - h := ⟨_, rfl⟩
      refine T_wk (Wk.eq (show _ = [ps 1 (.opt 0 0), ps 4 (sv (st ([45] : List UInt8))), pb 0 25 [(iv x), (iv y)]] from by rw [hx, hy])) ?_
      have hnb := Pi.nat7_range (x % 7)
      have hl2 := itoa_len (o := x + 1) (by omega) (by omega)
      refine T_r mixed [(2, .call [] [(iv x), (iv 7)] [] (.tup [(iv (x / 7)), (iv (x % 7))]) [])] [ps 1 (.opt 0 0), ps 4 (sv (st ([45] : List UInt8))), ps 5 (iv (x / 7)), ps 6 (iv (x % 7)), pb 0 25 [(iv x), (iv y)]] (obs_cons (pfloor_pc x (by omega) (by omega)) (obs_cons (rfl : Ren0 264 [(iv x), (iv 7)]) obs_nil)) ?_
      refine T_seq ?_
      refine T_rd mixed [(6, .call [] [(iv (x % 7))] [] (iv (Pi.nat7 (x % 7))) [])] [[], [0], [], [2], [0, 1, 2, 3], [], [5], [0, 1, 2, 3, 4, 5, 6], [0, 1, 2, 3, 4, 5, 6, 7]] [([78], [2]), ([80], [1, 78]), ([82], [10]), ([84], [82]), ([86], [80, 84]), ([88], [12]), ([90], [88]), ([92], [86, 90]), ([14], [92])] [ps 1 (.opt 0 0), ps 4 (sv (st ([45] : List UInt8))), ps 7 (iv ((y - (12 * (x / 7))) - (Pi.nat7 (x % 7)))), pb 0 25 [(iv x), (iv y)]] (obs_cons (by simp only [InK]; omega : InK .i64 (12 * (x / 7))) (obs_cons (by simp only [InK]; omega : InK .i64 (y - (12 * (x / 7)))) (obs_cons (natural_pc (x % 7)) (obs_cons (rfl : Ren0 360 [(iv (x % 7))]) (obs_cons (by simp only [InK]; omega : InK .i64 ((y - (12 * (x / 7))) - (Pi.nat7 (x % 7)))) obs_nil))))) ?_
      refine T_seq ?_
      obtain ⟨m, hm⟩ : ∃ m, m = moreOf x y := ⟨_, rfl⟩
      have hmb : -9000 ≤ m ∧ m ≤ 9000 := by rw [hm]; unfold moreOf; omega
      refine T_wk (Wk.eq (show _ = [ps 1 (.opt 0 0), ps 4 (sv (st ([45] : List UInt8))), ps 7 (iv m), pb 0 25 [(iv x), (iv y)]] from by rw [hm]; rfl)) ?_
      refine T_r mixed [] [ps 1 (.opt 0 0), ps 4 (sv (st ([45] : List UInt8))), ps 7 (iv m), pb 0 25 [(iv x), (iv y)]] (obs_nil) ?_
      refine T_seq <| T_block <| T_seq ?_
      refine T_r mixed [] [ps 1 (.opt 0 0), ps 4 (sv (st ([45] : List UInt8))), ps 7 (iv m), ps 52 (bv (decide (0 < m))), pb 0 25 [(iv x), (iv y)]] (obs_nil) ?_
      by_cases h3 : 0 < m
      · refine T_th (decide_eq_true h3) ?_
        refine T_r mixed [(2, .call [] [(sv (st ([65] : List UInt8))), (nv ((min m 7).toNat))] [] (sv (st (Lib.repeatL ([65] : List UInt8) ((min m 7).toNat)))) [])] [ps 1 (.opt 0 0), ps 4 (sv (st ([45] : List UInt8))), ps 8 (sv (st (Lib.repeatL ([65] : List UInt8) ((min m 7).toNat)))), pb 0 25 [(iv x), (iv y)]] (obs_cons (repeat_pc ([65] : List UInt8) ((min m 7).toNat) (by omega) (by simp only [List.length_cons, List.length_nil]; omega)) (obs_cons (congrArg (fun z => [(sv (st ([65] : List UInt8))), iv z]) (show min m 7 = (((min m 7).toNat : Nat) : Int) from by omega) : [(sv (st ([65] : List UInt8))), (iv (min m 7))] = renL (sigi [] 432) [(sv (st ([65] : List UInt8))), (nv ((min m 7).toNat))]) obs_nil)) ?_
        refine T_blk <| T_seq <| T_seq ?_
        refine T_r mixed [] [ps 1 (.opt 0 0), ps 4 (sv (st ([45] : List UInt8))), ps 8 (sv (st (Lib.repeatL ([65] : List UInt8) ((min m 7).toNat)))), ps 82 (bv (decide (6 < (((Lib.repeatL ([65] : List UInt8) ((min m 7).toNat)).length : Nat) : Int)))), pb 0 25 [(iv x), (iv y)]] (obs_nil) ?_
        by_cases h4 : 6 < (((Lib.repeatL ([65] : List UInt8) ((min m 7).toNat)).length : Nat) : Int)
        · refine T_th (decide_eq_true h4) ?_
          refine T_seq ?_
          refine T_r mixed [] [ps 2 (sv (st ([] : List UInt8))), ps 3 (iv 3)] (obs_nil) ?_
          rw [nameS_neg (s := s) (h := h) h1 (.inl h2) (Eq.trans (by rw [← hx, ← hy]) (nameA_far (by rw [← hm]; exact (qual_up h3)) h4))]
          exact T_ret fun cx_ a_ hI_ => rt hc0 [ps 2 (sv (st ([] : List UInt8))), ps 3 (iv 3)] [] hI_
        refine T_el (decide_eq_false h4) ?_
        refine T_skip <| T_seq ?_
        refine T_r mixed [(2, .val (.av (.string (st (([45] : List UInt8) ++ (Lib.repeatL ([65] : List UInt8) ((min m 7).toNat))))))), (6, .call [] [(iv (x + 1))] [] (sv (st (Lib.itoa (x + 1)))) []), (7, .val (.av (.string (st ((([45] : List UInt8) ++ (Lib.repeatL ([65] : List UInt8) ((min m 7).toNat))) ++ (Lib.itoa (x + 1)))))))] [ps 2 (sv (st ((([45] : List UInt8) ++ (Lib.repeatL ([65] : List UInt8) ((min m 7).toNat))) ++ (Lib.itoa (x + 1))))), ps 3 (iv 0)] (obs_cons (by first | omega | (simp only [List.length_append, List.length_cons, List.length_nil]; omega) : ((([45] : List UInt8).length + (Lib.repeatL ([65] : List UInt8) ((min m 7).toNat)).length : Nat) : Int) ≤ 9223372036854775807) (obs_cons (st_app _ _ : st ([45] : List UInt8) ++ st (Lib.repeatL ([65] : List UInt8) ((min m 7).toNat)) = st (([45] : List UInt8) ++ (Lib.repeatL ([65] : List UInt8) ((min m 7).toNat)))) (obs_cons (by simp only [InK]; omega : InK .i64 (x + 1)) (obs_cons (itoa_pc (x + 1) (by omega) (by omega)) (obs_cons (rfl : Ren0 520 [(iv (x + 1))]) (obs_cons (by first | omega | (simp only [List.length_append, List.length_cons, List.length_nil]; omega) : (((([45] : List UInt8) ++ (Lib.repeatL ([65] : List UInt8) ((min m 7).toNat))).length + (Lib.itoa (x + 1)).length : Nat) : Int) ≤ 9223372036854775807) (obs_cons (st_app _ _ : st (([45] : List UInt8) ++ (Lib.repeatL ([65] : List UInt8) ((min m 7).toNat))) ++ st (Lib.itoa (x + 1)) = st ((([45] : List UInt8) ++ (Lib.repeatL ([65] : List UInt8) ((min m 7).toNat))) ++ (Lib.itoa (x + 1)))) obs_nil))))))) ?_
        rw [nameS_neg (s := s) (h := h) h1 (.inl h2) (Eq.trans (by rw [← hx, ← hy]) (nameA_ok (by rw [← hm]; exact (qual_up h3)) h4))]
        exact T_ret fun cx_ a_ hI_ => rt hc0 [ps 2 (sv (st ((([45] : List UInt8) ++ (Lib.repeatL ([65] : List UInt8) ((min m 7).toNat))) ++ (Lib.itoa (x + 1))))), ps 3 (iv 0)] [] hI_
      refine T_el (decide_eq_false h3) ?_
      refine T_seq ?_
      by_cases h5 : m = 0
      · refine T_r mixed [(3, .gd true (.no)), (4, .gd true (.no)), (5, .gd true (.call [] [(iv x)] [] (bv (perfB x)) [])), (6, .yes true)] [ps 1 (.opt 0 0), ps 4 (sv (st ([45] : List UInt8))), ps 7 (iv m), ps 58 (bv (perfB x)), pb 0 25 [(iv x), (iv y)]] (obs_cons (decide_eq_true h5) (obs_cons (decide_eq_true h5) (obs_cons (decide_eq_true h5) (obs_cons (perfect_pc x (by omega)) (obs_cons (rfl : Ren0 456 [(iv x)]) (obs_cons (decide_eq_true h5) obs_nil)))))) ?_
        by_cases h6 : (perfB x) = true
        · refine T_then (b := (perfB x)) rfl h6 ?_
          refine T_r mixed [] [ps 1 (.opt 0 0), ps 4 (sv (st ([45] : List UInt8))), ps 8 (sv (st ([80] : List UInt8))), pb 0 25 [(iv x), (iv y)]] (obs_nil) ?_
          refine T_blk <| T_seq <| T_seq ?_
          refine T_r mixed [] [ps 1 (.opt 0 0), ps 4 (sv (st ([45] : List UInt8))), ps 8 (sv (st ([80] : List UInt8))), ps 82 (bv false), pb 0 25 [(iv x), (iv y)]] (obs_nil) ?_
          refine T_else (b := false) rfl rfl ?_
          refine T_skip <| T_seq ?_
          refine T_r mixed [(2, .val (.av (.string (st (([45] : List UInt8) ++ ([80] : List UInt8)))))), (6, .call [] [(iv (x + 1))] [] (sv (st (Lib.itoa (x + 1)))) []), (7, .val (.av (.string (st ((([45] : List UInt8) ++ ([80] : List UInt8)) ++ (Lib.itoa (x + 1)))))))] [ps 2 (sv (st ((([45] : List UInt8) ++ ([80] : List UInt8)) ++ (Lib.itoa (x + 1))))), ps 3 (iv 0)] (obs_cons (by first | omega | (simp only [List.length_append, List.length_cons, List.length_nil]; omega) : ((([45] : List UInt8).length + ([80] : List UInt8).length : Nat) : Int) ≤ 9223372036854775807) (obs_cons (st_app _ _ : st ([45] : List UInt8) ++ st ([80] : List UInt8) = st (([45] : List UInt8) ++ ([80] : List UInt8))) (obs_cons (by simp only [InK]; omega : InK .i64 (x + 1)) (obs_cons (itoa_pc (x + 1) (by omega) (by omega)) (obs_cons (rfl : Ren0 560 [(iv (x + 1))]) (obs_cons (by first | omega | (simp only [List.length_append, List.length_cons, List.length_nil]; omega) : (((([45] : List UInt8) ++ ([80] : List UInt8)).length + (Lib.itoa (x + 1)).length : Nat) : Int) ≤ 9223372036854775807) (obs_cons (st_app _ _ : st (([45] : List UInt8) ++ ([80] : List UInt8)) ++ st (Lib.itoa (x + 1)) = st ((([45] : List UInt8) ++ ([80] : List UInt8)) ++ (Lib.itoa (x + 1)))) obs_nil))))))) ?_
          rw [nameS_neg (s := s) (h := h) h1 (.inl h2) (Eq.trans (by rw [← hx, ← hy]) (nameA_ok (q := [80]) (by rw [← hm]; exact (qual_P h5 h6)) (by decide)))]
          exact T_ret fun cx_ a_ hI_ => rt hc0 [ps 2 (sv (st ((([45] : List UInt8) ++ ([80] : List UInt8)) ++ (Lib.itoa (x + 1))))), ps 3 (iv 0)] [] hI_
        refine T_else (b := (perfB x)) rfl (Bool.eq_false_iff.2 h6) ?_
        refine T_seq ?_
        refine T_r mixed [] [ps 1 (.opt 0 0), ps 4 (sv (st ([45] : List UInt8))), ps 7 (iv m), ps 66 (bv (decide (m = 0))), pb 0 25 [(iv x), (iv y)]] (obs_nil) ?_
        refine T_th (decide_eq_true h5) ?_
        refine T_r mixed [] [ps 1 (.opt 0 0), ps 4 (sv (st ([45] : List UInt8))), ps 8 (sv (st ([77] : List UInt8))), pb 0 25 [(iv x), (iv y)]] (obs_nil) ?_
        refine T_blk <| T_seq <| T_seq ?_
        refine T_r mixed [] [ps 1 (.opt 0 0), ps 4 (sv (st ([45] : List UInt8))), ps 8 (sv (st ([77] : List UInt8))), ps 82 (bv false), pb 0 25 [(iv x), (iv y)]] (obs_nil) ?_
        refine T_else (b := false) rfl rfl ?_
        refine T_skip <| T_seq ?_
        refine T_r mixed [(2, .val (.av (.string (st (([45] : List UInt8) ++ ([77] : List UInt8)))))), (6, .call [] [(iv (x + 1))] [] (sv (st (Lib.itoa (x + 1)))) []), (7, .val (.av (.string (st ((([45] : List UInt8) ++ ([77] : List UInt8)) ++ (Lib.itoa (x + 1)))))))] [ps 2 (sv (st ((([45] : List UInt8) ++ ([77] : List UInt8)) ++ (Lib.itoa (x + 1))))), ps 3 (iv 0)] (obs_cons (by first | omega | (simp only [List.length_append, List.length_cons, List.length_nil]; omega) : ((([45] : List UInt8).length + ([77] : List UInt8).length : Nat) : Int) ≤ 9223372036854775807) (obs_cons (st_app _ _ : st ([45] : List UInt8) ++ st ([77] : List UInt8) = st (([45] : List UInt8) ++ ([77] : List UInt8))) (obs_cons (by simp only [InK]; omega : InK .i64 (x + 1)) (obs_cons (itoa_pc (x + 1) (by omega) (by omega)) (obs_cons (rfl : Ren0 584 [(iv (x + 1))]) (obs_cons (by first | omega | (simp only [List.length_append, List.length_cons, List.length_nil]; omega) : (((([45] : List UInt8) ++ ([77] : List UInt8)).length + (Lib.itoa (x + 1)).length : Nat) : Int) ≤ 9223372036854775807) (obs_cons (st_app _ _ : st (([45] : List UInt8) ++ ([77] : List UInt8)) ++ st (Lib.itoa (x + 1)) = st ((([45] : List UInt8) ++ ([77] : List UInt8)) ++ (Lib.itoa (x + 1)))) obs_nil))))))) ?_
        rw [nameS_neg (s := s) (h := h) h1 (.inl h2) (Eq.trans (by rw [← hx, ← hy]) (nameA_ok (q := [77]) (by rw [← hm]; exact (qual_M h5 h6)) (by decide)))]
        exact T_ret fun cx_ a_ hI_ => rt hc0 [ps 2 (sv (st ((([45] : List UInt8) ++ ([77] : List UInt8)) ++ (Lib.itoa (x + 1))))), ps 3 (iv 0)] [] hI_
      refine T_r mixed [(3, .gd false .no), (4, .gd false .no), (5, .gd false .no), (6, .yes false)] [ps 1 (.opt 0 0), ps 4 (sv (st ([45] : List UInt8))), ps 7 (iv m), ps 58 (bv false), pb 0 25 [(iv x), (iv y)]] (obs_cons (decide_eq_false h5) (obs_cons (decide_eq_false h5) (obs_cons (decide_eq_false h5) (obs_cons (decide_eq_false h5) obs_nil)))) ?_
      refine T_else (b := false) rfl rfl ?_
      refine T_seq ?_
      refine T_r mixed [] [ps 1 (.opt 0 0), ps 4 (sv (st ([45] : List UInt8))), ps 7 (iv m), ps 66 (bv (decide (m = 0))), pb 0 25 [(iv x), (iv y)]] (obs_nil) ?_
      refine T_el (decide_eq_false h5) ?_
      refine T_seq ?_
      refine T_r mixed [(2, .call [] [(iv x)] [] (bv (perfB x)) [])] [ps 1 (.opt 0 0), ps 4 (sv (st ([45] : List UInt8))), ps 7 (iv m), ps 69 (bv (perfB x)), pb 0 25 [(iv x), (iv y)]] (obs_cons (perfect_pc x (by omega)) (obs_cons (rfl : Ren0 520 [(iv x)]) obs_nil)) ?_
      by_cases h7 : (perfB x) = true
      · refine T_then (b := (perfB x)) rfl h7 ?_
        refine T_r mixed [(3, .call [] [(sv (st ([100] : List UInt8))), (nv ((min (0 - m) 7).toNat))] [] (sv (st (Lib.repeatL ([100] : List UInt8) ((min (0 - m) 7).toNat)))) [])] [ps 1 (.opt 0 0), ps 4 (sv (st ([45] : List UInt8))), ps 8 (sv (st (Lib.repeatL ([100] : List UInt8) ((min (0 - m) 7).toNat)))), pb 0 25 [(iv x), (iv y)]] (obs_cons (by simp only [InK]; omega : InK .i64 (0 - m)) (obs_cons (repeat_pc ([100] : List UInt8) ((min (0 - m) 7).toNat) (by omega) (by simp only [List.length_cons, List.length_nil]; omega)) (obs_cons (congrArg (fun z => [(sv (st ([100] : List UInt8))), iv z]) (show min (0 - m) 7 = (((min (0 - m) 7).toNat : Nat) : Int) from by omega) : [(sv (st ([100] : List UInt8))), (iv (min (0 - m) 7))] = renL (sigi [] 560) [(sv (st ([100] : List UInt8))), (nv ((min (0 - m) 7).toNat))]) obs_nil))) ?_
        refine T_blk <| T_seq <| T_seq ?_
        refine T_r mixed [] [ps 1 (.opt 0 0), ps 4 (sv (st ([45] : List UInt8))), ps 8 (sv (st (Lib.repeatL ([100] : List UInt8) ((min (0 - m) 7).toNat)))), ps 82 (bv (decide (6 < (((Lib.repeatL ([100] : List UInt8) ((min (0 - m) 7).toNat)).length : Nat) : Int)))), pb 0 25 [(iv x), (iv y)]] (obs_nil) ?_
        by_cases h8 : 6 < (((Lib.repeatL ([100] : List UInt8) ((min (0 - m) 7).toNat)).length : Nat) : Int)
        · refine T_th (decide_eq_true h8) ?_
          refine T_seq ?_
          refine T_r mixed [] [ps 2 (sv (st ([] : List UInt8))), ps 3 (iv 3)] (obs_nil) ?_
          rw [nameS_neg (s := s) (h := h) h1 (.inl h2) (Eq.trans (by rw [← hx, ← hy]) (nameA_far (by rw [← hm]; exact (qual_d h3 h5 h7)) h8))]
          exact T_ret fun cx_ a_ hI_ => rt hc0 [ps 2 (sv (st ([] : List UInt8))), ps 3 (iv 3)] [] hI_
        refine T_el (decide_eq_false h8) ?_
        refine T_skip <| T_seq ?_
        refine T_r mixed [(2, .val (.av (.string (st (([45] : List UInt8) ++ (Lib.repeatL ([100] : List UInt8) ((min (0 - m) 7).toNat))))))), (6, .call [] [(iv (x + 1))] [] (sv (st (Lib.itoa (x + 1)))) []), (7, .val (.av (.string (st ((([45] : List UInt8) ++ (Lib.repeatL ([100] : List UInt8) ((min (0 - m) 7).toNat))) ++ (Lib.itoa (x + 1)))))))] [ps 2 (sv (st ((([45] : List UInt8) ++ (Lib.repeatL ([100] : List UInt8) ((min (0 - m) 7).toNat))) ++ (Lib.itoa (x + 1))))), ps 3 (iv 0)] (obs_cons (by first | omega | (simp only [List.length_append, List.length_cons, List.length_nil]; omega) : ((([45] : List UInt8).length + (Lib.repeatL ([100] : List UInt8) ((min (0 - m) 7).toNat)).length : Nat) : Int) ≤ 9223372036854775807) (obs_cons (st_app _ _ : st ([45] : List UInt8) ++ st (Lib.repeatL ([100] : List UInt8) ((min (0 - m) 7).toNat)) = st (([45] : List UInt8) ++ (Lib.repeatL ([100] : List UInt8) ((min (0 - m) 7).toNat)))) (obs_cons (by simp only [InK]; omega : InK .i64 (x + 1)) (obs_cons (itoa_pc (x + 1) (by omega) (by omega)) (obs_cons (rfl : Ren0 648 [(iv (x + 1))]) (obs_cons (by first | omega | (simp only [List.length_append, List.length_cons, List.length_nil]; omega) : (((([45] : List UInt8) ++ (Lib.repeatL ([100] : List UInt8) ((min (0 - m) 7).toNat))).length + (Lib.itoa (x + 1)).length : Nat) : Int) ≤ 9223372036854775807) (obs_cons (st_app _ _ : st (([45] : List UInt8) ++ (Lib.repeatL ([100] : List UInt8) ((min (0 - m) 7).toNat))) ++ st (Lib.itoa (x + 1)) = st ((([45] : List UInt8) ++ (Lib.repeatL ([100] : List UInt8) ((min (0 - m) 7).toNat))) ++ (Lib.itoa (x + 1)))) obs_nil))))))) ?_
        rw [nameS_neg (s := s) (h := h) h1 (.inl h2) (Eq.trans (by rw [← hx, ← hy]) (nameA_ok (by rw [← hm]; exact (qual_d h3 h5 h7)) h8))]
        exact T_ret fun cx_ a_ hI_ => rt hc0 [ps 2 (sv (st ((([45] : List UInt8) ++ (Lib.repeatL ([100] : List UInt8) ((min (0 - m) 7).toNat))) ++ (Lib.itoa (x + 1))))), ps 3 (iv 0)] [] hI_
      refine T_else (b := (perfB x)) rfl (Bool.eq_false_iff.2 h7) ?_
      refine T_seq ?_
      refine T_r mixed [] [ps 1 (.opt 0 0), ps 4 (sv (st ([45] : List UInt8))), ps 7 (iv m), ps 77 (bv (decide (m = (-1)))), pb 0 25 [(iv x), (iv y)]] (obs_nil) ?_
      by_cases h9 : m = (-1)
      · refine T_th (decide_eq_true h9) ?_
        refine T_r mixed [] [ps 1 (.opt 0 0), ps 4 (sv (st ([45] : List UInt8))), ps 8 (sv (st ([109] : List UInt8))), pb 0 25 [(iv x), (iv y)]] (obs_nil) ?_
        refine T_blk <| T_seq <| T_seq ?_
        refine T_r mixed [] [ps 1 (.opt 0 0), ps 4 (sv (st ([45] : List UInt8))), ps 8 (sv (st ([109] : List UInt8))), ps 82 (bv false), pb 0 25 [(iv x), (iv y)]] (obs_nil) ?_
        refine T_else (b := false) rfl rfl ?_
        refine T_skip <| T_seq ?_
        refine T_r mixed [(2, .val (.av (.string (st (([45] : List UInt8) ++ ([109] : List UInt8)))))), (6, .call [] [(iv (x + 1))] [] (sv (st (Lib.itoa (x + 1)))) []), (7, .val (.av (.string (st ((([45] : List UInt8) ++ ([109] : List UInt8)) ++ (Lib.itoa (x + 1)))))))] [ps 2 (sv (st ((([45] : List UInt8) ++ ([109] : List UInt8)) ++ (Lib.itoa (x + 1))))), ps 3 (iv 0)] (obs_cons (by first | omega | (simp only [List.length_append, List.length_cons, List.length_nil]; omega) : ((([45] : List UInt8).length + ([109] : List UInt8).length : Nat) : Int) ≤ 9223372036854775807) (obs_cons (st_app _ _ : st ([45] : List UInt8) ++ st ([109] : List UInt8) = st (([45] : List UInt8) ++ ([109] : List UInt8))) (obs_cons (by simp only [InK]; omega : InK .i64 (x + 1)) (obs_cons (itoa_pc (x + 1) (by omega) (by omega)) (obs_cons (rfl : Ren0 640 [(iv (x + 1))]) (obs_cons (by first | omega | (simp only [List.length_append, List.length_cons, List.length_nil]; omega) : (((([45] : List UInt8) ++ ([109] : List UInt8)).length + (Lib.itoa (x + 1)).length : Nat) : Int) ≤ 9223372036854775807) (obs_cons (st_app _ _ : st (([45] : List UInt8) ++ ([109] : List UInt8)) ++ st (Lib.itoa (x + 1)) = st ((([45] : List UInt8) ++ ([109] : List UInt8)) ++ (Lib.itoa (x + 1)))) obs_nil))))))) ?_
        rw [nameS_neg (s := s) (h := h) h1 (.inl h2) (Eq.trans (by rw [← hx, ← hy]) (nameA_ok (q := [109]) (by rw [← hm]; exact (qual_m h9 h7)) (by decide)))]
        exact T_ret fun cx_ a_ hI_ => rt hc0 [ps 2 (sv (st ((([45] : List UInt8) ++ ([109] : List UInt8)) ++ (Lib.itoa (x + 1))))), ps 3 (iv 0)] [] hI_
      refine T_el (decide_eq_false h9) ?_
      refine T_r mixed [(4, .call [] [(sv (st ([100] : List UInt8))), (nv ((min ((0 - m) - 1) 7).toNat))] [] (sv (st (Lib.repeatL ([100] : List UInt8) ((min ((0 - m) - 1) 7).toNat)))) [])] [ps 1 (.opt 0 0), ps 4 (sv (st ([45] : List UInt8))), ps 8 (sv (st (Lib.repeatL ([100] : List UInt8) ((min ((0 - m) - 1) 7).toNat)))), pb 0 25 [(iv x), (iv y)]] (obs_cons (by simp only [InK]; omega : InK .i64 (0 - m)) (obs_cons (by simp only [InK]; omega : InK .i64 ((0 - m) - 1)) (obs_cons (repeat_pc ([100] : List UInt8) ((min ((0 - m) - 1) 7).toNat) (by omega) (by simp only [List.length_cons, List.length_nil]; omega)) (obs_cons (congrArg (fun z => [(sv (st ([100] : List UInt8))), iv z]) (show min ((0 - m) - 1) 7 = (((min ((0 - m) - 1) 7).toNat : Nat) : Int) from by omega) : [(sv (st ([100] : List UInt8))), (iv (min ((0 - m) - 1) 7))] = renL (sigi [] 592) [(sv (st ([100] : List UInt8))), (nv ((min ((0 - m) - 1) 7).toNat))]) obs_nil)))) ?_
      refine T_blk <| T_seq <| T_seq ?_
      refine T_r mixed [] [ps 1 (.opt 0 0), ps 4 (sv (st ([45] : List UInt8))), ps 8 (sv (st (Lib.repeatL ([100] : List UInt8) ((min ((0 - m) - 1) 7).toNat)))), ps 82 (bv (decide (6 < (((Lib.repeatL ([100] : List UInt8) ((min ((0 - m) - 1) 7).toNat)).length : Nat) : Int)))), pb 0 25 [(iv x), (iv y)]] (obs_nil) ?_
      by_cases h10 : 6 < (((Lib.repeatL ([100] : List UInt8) ((min ((0 - m) - 1) 7).toNat)).length : Nat) : Int)
      · refine T_th (decide_eq_true h10) ?_
        refine T_seq ?_
        refine T_r mixed [] [ps 2 (sv (st ([] : List UInt8))), ps 3 (iv 3)] (obs_nil) ?_
        rw [nameS_neg (s := s) (h := h) h1 (.inl h2) (Eq.trans (by rw [← hx, ← hy]) (nameA_far (by rw [← hm]; exact (qual_dd h3 h5 h7 h9)) h10))]
        exact T_ret fun cx_ a_ hI_ => rt hc0 [ps 2 (sv (st ([] : List UInt8))), ps 3 (iv 3)] [] hI_
      refine T_el (decide_eq_false h10) ?_
      refine T_skip <| T_seq ?_
      refine T_r mixed [(2, .val (.av (.string (st (([45] : List UInt8) ++ (Lib.repeatL ([100] : List UInt8) ((min ((0 - m) - 1) 7).toNat))))))), (6, .call [] [(iv (x + 1))] [] (sv (st (Lib.itoa (x + 1)))) []), (7, .val (.av (.string (st ((([45] : List UInt8) ++ (Lib.repeatL ([100] : List UInt8) ((min ((0 - m) - 1) 7).toNat))) ++ (Lib.itoa (x + 1)))))))] [ps 2 (sv (st ((([45] : List UInt8) ++ (Lib.repeatL ([100] : List UInt8) ((min ((0 - m) - 1) 7).toNat))) ++ (Lib.itoa (x + 1))))), ps 3 (iv 0)] (obs_cons (by first | omega | (simp only [List.length_append, List.length_cons, List.length_nil]; omega) : ((([45] : List UInt8).length + (Lib.repeatL ([100] : List UInt8) ((min ((0 - m) - 1) 7).toNat)).length : Nat) : Int) ≤ 9223372036854775807) (obs_cons (st_app _ _ : st ([45] : List UInt8) ++ st (Lib.repeatL ([100] : List UInt8) ((min ((0 - m) - 1) 7).toNat)) = st (([45] : List UInt8) ++ (Lib.repeatL ([100] : List UInt8) ((min ((0 - m) - 1) 7).toNat)))) (obs_cons (by simp only [InK]; omega : InK .i64 (x + 1)) (obs_cons (itoa_pc (x + 1) (by omega) (by omega)) (obs_cons (rfl : Ren0 680 [(iv (x + 1))]) (obs_cons (by first | omega | (simp only [List.length_append, List.length_cons, List.length_nil]; omega) : (((([45] : List UInt8) ++ (Lib.repeatL ([100] : List UInt8) ((min ((0 - m) - 1) 7).toNat))).length + (Lib.itoa (x + 1)).length : Nat) : Int) ≤ 9223372036854775807) (obs_cons (st_app _ _ : st (([45] : List UInt8) ++ (Lib.repeatL ([100] : List UInt8) ((min ((0 - m) - 1) 7).toNat))) ++ st (Lib.itoa (x + 1)) = st ((([45] : List UInt8) ++ (Lib.repeatL ([100] : List UInt8) ((min ((0 - m) - 1) 7).toNat))) ++ (Lib.itoa (x + 1)))) obs_nil))))))) ?_
      rw [nameS_neg (s := s) (h := h) h1 (.inl h2) (Eq.trans (by rw [← hx, ← hy]) (nameA_ok (by rw [← hm]; exact (qual_dd h3 h5 h7 h9)) h10))]
      exact T_ret fun cx_ a_ hI_ => rt hc0 [ps 2 (sv (st ((([45] : List UInt8) ++ (Lib.repeatL ([100] : List UInt8) ((min ((0 - m) - 1) 7).toNat))) ++ (Lib.itoa (x + 1))))), ps 3 (iv 0)] [] hI_
    by_cases h11 : s = 0
    · refine T_r mixed [(4, .gd false (.no)), (5, .gd false (.no)), (6, .gd false (.no)), (7, .gd false (.no)), (8, .gd true (.no)), (9, .gd true (.no)), (10, .gd true (.no)), (11, .gd false (.yes true)), (12, .yes false)] [ps 1 (.opt 0 0), ps 4 (sv (st ([] : List UInt8))), ps 24 (bv (decide (h < 0))), pb 0 25 [(iv s), (iv h)]] (obs_cons (decide_eq_false h2) (obs_cons (decide_eq_false h2) (obs_cons (decide_eq_false h2) (obs_cons (decide_eq_false h2) (obs_cons (decide_eq_true h11) (obs_cons (decide_eq_true h11) (obs_cons (decide_eq_true h11) (obs_cons (decide_eq_false h2) (obs_cons (decide_eq_true h11) (obs_cons (decide_eq_false h2) obs_nil)))))))))) ?_
      by_cases h12 : h < 0
      · refine T_th (decide_eq_true h12) ?_
        refine T_seq ?_
        refine T_r mixed [] [ps 1 (.opt 0 0), ps 4 (sv (st ([45] : List UInt8))), pb 0 25 [(iv s), (iv h)]] (obs_nil) ?_
        refine T_r mixed [] [ps 1 (.opt 0 0), ps 4 (sv (st ([45] : List UInt8))), pb 0 25 [(iv (0 - s)), (iv (0 - h))]] (obs_cons (by simp only [InK]; omega : InK .i64 (0 - s)) (obs_cons (by simp only [InK]; omega : InK .i64 (0 - h)) obs_nil)) ?_
        refine T_seq ?_
        obtain ⟨x, hx⟩ : ∃ x, x = 0 - s := ⟨_, rfl⟩
        obtain ⟨y, hy⟩ : ∃ y, y = 0 - h := ⟨_, rfl⟩
        refine T_wk (Wk.eq (show _ = [ps 1 (.opt 0 0), ps 4 (sv (st ([45] : List UInt8))), pb 0 25 [(iv x), (iv y)]] from by rw [hx, hy])) ?_
        have hnb := Pi.nat7_range (x % 7)
        have hl2 := itoa_len (o := x + 1) (by omega) (by omega)
        refine T_r mixed [(2, .call [] [(iv x), (iv 7)] [] (.tup [(iv (x / 7)), (iv (x % 7))]) [])] [ps 1 (.opt 0 0), ps 4 (sv (st ([45] : List UInt8))), ps 5 (iv (x / 7)), ps 6 (iv (x % 7)), pb 0 25 [(iv x), (iv y)]] (obs_cons (pfloor_pc x (by omega) (by omega)) (obs_cons (rfl : Ren0 264 [(iv x), (iv 7)]) obs_nil)) ?_
        refine T_seq ?_
        refine T_rd mixed [(6, .call [] [(iv (x % 7))] [] (iv (Pi.nat7 (x % 7))) [])] [[], [0], [], [2], [0, 1, 2, 3], [], [5], [0, 1, 2, 3, 4, 5, 6], [0, 1, 2, 3, 4, 5, 6, 7]] [([78], [2]), ([80], [1, 78]), ([82], [10]), ([84], [82]), ([86], [80, 84]), ([88], [12]), ([90], [88]), ([92], [86, 90]), ([14], [92])] [ps 1 (.opt 0 0), ps 4 (sv (st ([45] : List UInt8))), ps 7 (iv ((y - (12 * (x / 7))) - (Pi.nat7 (x % 7)))), pb 0 25 [(iv x), (iv y)]] (obs_cons (by simp only [InK]; omega : InK .i64 (12 * (x / 7))) (obs_cons (by simp only [InK]; omega : InK .i64 (y - (12 * (x / 7)))) (obs_cons (natural_pc (x % 7)) (obs_cons (rfl : Ren0 360 [(iv (x % 7))]) (obs_cons (by simp only [InK]; omega : InK .i64 ((y - (12 * (x / 7))) - (Pi.nat7 (x % 7)))) obs_nil))))) ?_
        refine T_seq ?_
        obtain ⟨m, hm⟩ : ∃ m, m = moreOf x y := ⟨_, rfl⟩
        have hmb : -9000 ≤ m ∧ m ≤ 9000 := by rw [hm]; unfold moreOf; omega
        refine T_wk (Wk.eq (show _ = [ps 1 (.opt 0 0), ps 4 (sv (st ([45] : List UInt8))), ps 7 (iv m), pb 0 25 [(iv x), (iv y)]] from by rw [hm]; rfl)) ?_
        refine T_r mixed [] [ps 1 (.opt 0 0), ps 4 (sv (st ([45] : List UInt8))), ps 7 (iv m), pb 0 25 [(iv x), (iv y)]] (obs_nil) ?_
        refine T_seq <| T_block <| T_seq ?_
        refine T_r mixed [] [ps 1 (.opt 0 0), ps 4 (sv (st ([45] : List UInt8))), ps 7 (iv m), ps 52 (bv (decide (0 < m))), pb 0 25 [(iv x), (iv y)]] (obs_nil) ?_
        by_cases h13 : 0 < m
        · refine T_th (decide_eq_true h13) ?_
          refine T_r mixed [(2, .call [] [(sv (st ([65] : List UInt8))), (nv ((min m 7).toNat))] [] (sv (st (Lib.repeatL ([65] : List UInt8) ((min m 7).toNat)))) [])] [ps 1 (.opt 0 0), ps 4 (sv (st ([45] : List UInt8))), ps 8 (sv (st (Lib.repeatL ([65] : List UInt8) ((min m 7).toNat)))), pb 0 25 [(iv x), (iv y)]] (obs_cons (repeat_pc ([65] : List UInt8) ((min m 7).toNat) (by omega) (by simp only [List.length_cons, List.length_nil]; omega)) (obs_cons (congrArg (fun z => [(sv (st ([65] : List UInt8))), iv z]) (show min m 7 = (((min m 7).toNat : Nat) : Int) from by omega) : [(sv (st ([65] : List UInt8))), (iv (min m 7))] = renL (sigi [] 432) [(sv (st ([65] : List UInt8))), (nv ((min m 7).toNat))]) obs_nil)) ?_
          refine T_blk <| T_seq <| T_seq ?_
          refine T_r mixed [] [ps 1 (.opt 0 0), ps 4 (sv (st ([45] : List UInt8))), ps 8 (sv (st (Lib.repeatL ([65] : List UInt8) ((min m 7).toNat)))), ps 82 (bv (decide (6 < (((Lib.repeatL ([65] : List UInt8) ((min m 7).toNat)).length : Nat) : Int)))), pb 0 25 [(iv x), (iv y)]] (obs_nil) ?_
          by_cases h14 : 6 < (((Lib.repeatL ([65] : List UInt8) ((min m 7).toNat)).length : Nat) : Int)
          · refine T_th (decide_eq_true h14) ?_
            refine T_seq ?_
            refine T_r mixed [] [ps 2 (sv (st ([] : List UInt8))), ps 3 (iv 3)] (obs_nil) ?_
            rw [nameS_neg (s := s) (h := h) h1 (.inr ⟨h11, h12⟩) (Eq.trans (by rw [← hx, ← hy]) (nameA_far (by rw [← hm]; exact (qual_up h13)) h14))]
            exact T_ret fun cx_ a_ hI_ => rt hc0 [ps 2 (sv (st ([] : List UInt8))), ps 3 (iv 3)] [] hI_
          refine T_el (decide_eq_false h14) ?_
          refine T_skip <| T_seq ?_
          refine T_r mixed [(2, .val (.av (.string (st (([45] : List UInt8) ++ (Lib.repeatL ([65] : List UInt8) ((min m 7).toNat))))))), (6, .call [] [(iv (x + 1))] [] (sv (st (Lib.itoa (x + 1)))) []), (7, .val (.av (.string (st ((([45] : List UInt8) ++ (Lib.repeatL ([65] : List UInt8) ((min m 7).toNat))) ++ (Lib.itoa (x + 1)))))))] [ps 2 (sv (st ((([45] : List UInt8) ++ (Lib.repeatL ([65] : List UInt8) ((min m 7).toNat))) ++ (Lib.itoa (x + 1))))), ps 3 (iv 0)] (obs_cons (by first | omega | (simp only [List.length_append, List.length_cons, List.length_nil]; omega) : ((([45] : List UInt8).length + (Lib.repeatL ([65] : List UInt8) ((min m 7).toNat)).length : Nat) : Int) ≤ 9223372036854775807) (obs_cons (st_app _ _ : st ([45] : List UInt8) ++ st (Lib.repeatL ([65] : List UInt8) ((min m 7).toNat)) = st (([45] : List UInt8) ++ (Lib.repeatL ([65] : List UInt8) ((min m 7).toNat)))) (obs_cons (by simp only [InK]; omega : InK .i64 (x + 1)) (obs_cons (itoa_pc (x + 1) (by omega) (by omega)) (obs_cons (rfl : Ren0 520 [(iv (x + 1))]) (obs_cons (by first | omega | (simp only [List.length_append, List.length_cons, List.length_nil]; omega) : (((([45] : List UInt8) ++ (Lib.repeatL ([65] : List UInt8) ((min m 7).toNat))).length + (Lib.itoa (x + 1)).length : Nat) : Int) ≤ 9223372036854775807) (obs_cons (st_app _ _ : st (([45] : List UInt8) ++ (Lib.repeatL ([65] : List UInt8) ((min m 7).toNat))) ++ st (Lib.itoa (x + 1)) = st ((([45] : List UInt8) ++ (Lib.repeatL ([65] : List UInt8) ((min m 7).toNat))) ++ (Lib.itoa (x + 1)))) obs_nil))))))) ?_
          rw [nameS_neg (s := s) (h := h) h1 (.inr ⟨h11, h12⟩) (Eq.trans (by rw [← hx, ← hy]) (nameA_ok (by rw [← hm]; exact (qual_up h13)) h14))]
          exact T_ret fun cx_ a_ hI_ => rt hc0 [ps 2 (sv (st ((([45] : List UInt8) ++ (Lib.repeatL ([65] : List UInt8) ((min m 7).toNat))) ++ (Lib.itoa (x + 1))))), ps 3 (iv 0)] [] hI_
        refine T_el (decide_eq_false h13) ?_
        refine T_seq ?_
        by_cases h15 : m = 0
        · refine T_r mixed [(3, .gd true (.no)), (4, .gd true (.no)), (5, .gd true (.call [] [(iv x)] [] (bv (perfB x)) [])), (6, .yes true)] [ps 1 (.opt 0 0), ps 4 (sv (st ([45] : List UInt8))), ps 7 (iv m), ps 58 (bv (perfB x)), pb 0 25 [(iv x), (iv y)]] (obs_cons (decide_eq_true h15) (obs_cons (decide_eq_true h15) (obs_cons (decide_eq_true h15) (obs_cons (perfect_pc x (by omega)) (obs_cons (rfl : Ren0 456 [(iv x)]) (obs_cons (decide_eq_true h15) obs_nil)))))) ?_
          by_cases h16 : (perfB x) = true
          · refine T_then (b := (perfB x)) rfl h16 ?_
            refine T_r mixed [] [ps 1 (.opt 0 0), ps 4 (sv (st ([45] : List UInt8))), ps 8 (sv (st ([80] : List UInt8))), pb 0 25 [(iv x), (iv y)]] (obs_nil) ?_
            refine T_blk <| T_seq <| T_seq ?_
            refine T_r mixed [] [ps 1 (.opt 0 0), ps 4 (sv (st ([45] : List UInt8))), ps 8 (sv (st ([80] : List UInt8))), ps 82 (bv false), pb 0 25 [(iv x), (iv y)]] (obs_nil) ?_
            refine T_else (b := false) rfl rfl ?_
            refine T_skip <| T_seq ?_
            refine T_r mixed [(2, .val (.av (.string (st (([45] : List UInt8) ++ ([80] : List UInt8)))))), (6, .call [] [(iv (x + 1))] [] (sv (st (Lib.itoa (x + 1)))) []), (7, .val (.av (.string (st ((([45] : List UInt8) ++ ([80] : List UInt8)) ++ (Lib.itoa (x + 1)))))))] [ps 2 (sv (st ((([45] : List UInt8) ++ ([80] : List UInt8)) ++ (Lib.itoa (x + 1))))), ps 3 (iv 0)] (obs_cons (by first | omega | (simp only [List.length_append, List.length_cons, List.length_nil]; omega) : ((([45] : List UInt8).length + ([80] : List UInt8).length : Nat) : Int) ≤ 9223372036854775807) (obs_cons (st_app _ _ : st ([45] : List UInt8) ++ st ([80] : List UInt8) = st (([45] : List UInt8) ++ ([80] : List UInt8))) (obs_cons (by simp only [InK]; omega : InK .i64 (x + 1)) (obs_cons (itoa_pc (x + 1) (by omega) (by omega)) (obs_cons (rfl : Ren0 560 [(iv (x + 1))]) (obs_cons (by first | omega | (simp only [List.length_append, List.length_cons, List.length_nil]; omega) : (((([45] : List UInt8) ++ ([80] : List UInt8)).length + (Lib.itoa (x + 1)).length : Nat) : Int) ≤ 9223372036854775807) (obs_cons (st_app _ _ : st (([45] : List UInt8) ++ ([80] : List UInt8)) ++ st (Lib.itoa (x + 1)) = st ((([45] : List UInt8) ++ ([80] : List UInt8)) ++ (Lib.itoa (x + 1)))) obs_nil))))))) ?_
            rw [nameS_neg (s := s) (h := h) h1 (.inr ⟨h11, h12⟩) (Eq.trans (by rw [← hx, ← hy]) (nameA_ok (q := [80]) (by rw [← hm]; exact (qual_P h15 h16)) (by decide)))]
            exact T_ret fun cx_ a_ hI_ => rt hc0 [ps 2 (sv (st ((([45] : List UInt8) ++ ([80] : List UInt8)) ++ (Lib.itoa (x + 1))))), ps 3 (iv 0)] [] hI_
          refine T_else (b := (perfB x)) rfl (Bool.eq_false_iff.2 h16) ?_
          refine T_seq ?_
          refine T_r mixed [] [ps 1 (.opt 0 0), ps 4 (sv (st ([45] : List UInt8))), ps 7 (iv m), ps 66 (bv (decide (m = 0))), pb 0 25 [(iv x), (iv y)]] (obs_nil) ?_
          refine T_th (decide_eq_true h15) ?_
          refine T_r mixed [] [ps 1 (.opt 0 0), ps 4 (sv (st ([45] : List UInt8))), ps 8 (sv (st ([77] : List UInt8))), pb 0 25 [(iv x), (iv y)]] (obs_nil) ?_
          refine T_blk <| T_seq <| T_seq ?_
          refine T_r mixed [] [ps 1 (.opt 0 0), ps 4 (sv (st ([45] : List UInt8))), ps 8 (sv (st ([77] : List UInt8))), ps 82 (bv false), pb 0 25 [(iv x), (iv y)]] (obs_nil) ?_
          refine T_else (b := false) rfl rfl ?_
          refine T_skip <| T_seq ?_
          refine T_r mixed [(2, .val (.av (.string (st (([45] : List UInt8) ++ ([77] : List UInt8)))))), (6, .call [] [(iv (x + 1))] [] (sv (st (Lib.itoa (x + 1)))) []), (7, .val (.av (.string (st ((([45] : List UInt8) ++ ([77] : List UInt8)) ++ (Lib.itoa (x + 1)))))))] [ps 2 (sv (st ((([45] : List UInt8) ++ ([77] : List UInt8)) ++ (Lib.itoa (x + 1))))), ps 3 (iv 0)] (obs_cons (by first | omega | (simp only [List.length_append, List.length_cons, List.length_nil]; omega) : ((([45] : List UInt8).length + ([77] : List UInt8).length : Nat) : Int) ≤ 9223372036854775807) (obs_cons (st_app _ _ : st ([45] : List UInt8) ++ st ([77] : List UInt8) = st (([45] : List UInt8) ++ ([77] : List UInt8))) (obs_cons (by simp only [InK]; omega : InK .i64 (x + 1)) (obs_cons (itoa_pc (x + 1) (by omega) (by omega)) (obs_cons (rfl : Ren0 584 [(iv (x + 1))]) (obs_cons (by first | omega | (simp only [List.length_append, List.length_cons, List.length_nil]; omega) : (((([45] : List UInt8) ++ ([77] : List UInt8)).length + (Lib.itoa (x + 1)).length : Nat) : Int) ≤ 9223372036854775807) (obs_cons (st_app _ _ : st (([45] : List UInt8) ++ ([77] : List UInt8)) ++ st (Lib.itoa (x + 1)) = st ((([45] : List UInt8) ++ ([77] : List UInt8)) ++ (Lib.itoa (x + 1)))) obs_nil))))))) ?_
          rw [nameS_neg (s := s) (h := h) h1 (.inr ⟨h11, h12⟩) (Eq.trans (by rw [← hx, ← hy]) (nameA_ok (q := [77]) (by rw [← hm]; exact (qual_M h15 h16)) (by decide)))]
          exact T_ret fun cx_ a_ hI_ => rt hc0 [ps 2 (sv (st ((([45] : List UInt8) ++ ([77] : List UInt8)) ++ (Lib.itoa (x + 1))))), ps 3 (iv 0)] [] hI_
        refine T_r mixed [(3, .gd false .no), (4, .gd false .no), (5, .gd false .no), (6, .yes false)] [ps 1 (.opt 0 0), ps 4 (sv (st ([45] : List UInt8))), ps 7 (iv m), ps 58 (bv false), pb 0 25 [(iv x), (iv y)]] (obs_cons (decide_eq_false h15) (obs_cons (decide_eq_false h15) (obs_cons (decide_eq_false h15) (obs_cons (decide_eq_false h15) obs_nil)))) ?_
        refine T_else (b := false) rfl rfl ?_
        refine T_seq ?_
        refine T_r mixed [] [ps 1 (.opt 0 0), ps 4 (sv (st ([45] : List UInt8))), ps 7 (iv m), ps 66 (bv (decide (m = 0))), pb 0 25 [(iv x), (iv y)]] (obs_nil) ?_
        refine T_el (decide_eq_false h15) ?_
        refine T_seq ?_
        refine T_r mixed [(2, .call [] [(iv x)] [] (bv (perfB x)) [])] [ps 1 (.opt 0 0), ps 4 (sv (st ([45] : List UInt8))), ps 7 (iv m), ps 69 (bv (perfB x)), pb 0 25 [(iv x), (iv y)]] (obs_cons (perfect_pc x (by omega)) (obs_cons (rfl : Ren0 520 [(iv x)]) obs_nil)) ?_
        by_cases h17 : (perfB x) = true
        · refine T_then (b := (perfB x)) rfl h17 ?_
          refine T_r mixed [(3, .call [] [(sv (st ([100] : List UInt8))), (nv ((min (0 - m) 7).toNat))] [] (sv (st (Lib.repeatL ([100] : List UInt8) ((min (0 - m) 7).toNat)))) [])] [ps 1 (.opt 0 0), ps 4 (sv (st ([45] : List UInt8))), ps 8 (sv (st (Lib.repeatL ([100] : List UInt8) ((min (0 - m) 7).toNat)))), pb 0 25 [(iv x), (iv y)]] (obs_cons (by simp only [InK]; omega : InK .i64 (0 - m)) (obs_cons (repeat_pc ([100] : List UInt8) ((min (0 - m) 7).toNat) (by omega) (by simp only [List.length_cons, List.length_nil]; omega)) (obs_cons (congrArg (fun z => [(sv (st ([100] : List UInt8))), iv z]) (show min (0 - m) 7 = (((min (0 - m) 7).toNat : Nat) : Int) from by omega) : [(sv (st ([100] : List UInt8))), (iv (min (0 - m) 7))] = renL (sigi [] 560) [(sv (st ([100] : List UInt8))), (nv ((min (0 - m) 7).toNat))]) obs_nil))) ?_
          refine T_blk <| T_seq <| T_seq ?_
          refine T_r mixed [] [ps 1 (.opt 0 0), ps 4 (sv (st ([45] : List UInt8))), ps 8 (sv (st (Lib.repeatL ([100] : List UInt8) ((min (0 - m) 7).toNat)))), ps 82 (bv (decide (6 < (((Lib.repeatL ([100] : List UInt8) ((min (0 - m) 7).toNat)).length : Nat) : Int)))), pb 0 25 [(iv x), (iv y)]] (obs_nil) ?_
          by_cases h18 : 6 < (((Lib.repeatL ([100] : List UInt8) ((min (0 - m) 7).toNat)).length : Nat) : Int)
          · refine T_th (decide_eq_true h18) ?_
            refine T_seq ?_
            refine T_r mixed [] [ps 2 (sv (st ([] : List UInt8))), ps 3 (iv 3)] (obs_nil) ?_
            rw [nameS_neg (s := s) (h := h) h1 (.inr ⟨h11, h12⟩) (Eq.trans (by rw [← hx, ← hy]) (nameA_far (by rw [← hm]; exact (qual_d h13 h15 h17)) h18))]
            exact T_ret fun cx_ a_ hI_ => rt hc0 [ps 2 (sv (st ([] : List UInt8))), ps 3 (iv 3)] [] hI_
          refine T_el (decide_eq_false h18) ?_
          refine T_skip <| T_seq ?_
          refine T_r mixed [(2, .val (.av (.string (st (([45] : List UInt8) ++ (Lib.repeatL ([100] : List UInt8) ((min (0 - m) 7).toNat))))))), (6, .call [] [(iv (x + 1))] [] (sv (st (Lib.itoa (x + 1)))) []), (7, .val (.av (.string (st ((([45] : List UInt8) ++ (Lib.repeatL ([100] : List UInt8) ((min (0 - m) 7).toNat))) ++ (Lib.itoa (x + 1)))))))] [ps 2 (sv (st ((([45] : List UInt8) ++ (Lib.repeatL ([100] : List UInt8) ((min (0 - m) 7).toNat))) ++ (Lib.itoa (x + 1))))), ps 3 (iv 0)] (obs_cons (by first | omega | (simp only [List.length_append, List.length_cons, List.length_nil]; omega) : ((([45] : List UInt8).length + (Lib.repeatL ([100] : List UInt8) ((min (0 - m) 7).toNat)).length : Nat) : Int) ≤ 9223372036854775807) (obs_cons (st_app _ _ : st ([45] : List UInt8) ++ st (Lib.repeatL ([100] : List UInt8) ((min (0 - m) 7).toNat)) = st (([45] : List UInt8) ++ (Lib.repeatL ([100] : List UInt8) ((min (0 - m) 7).toNat)))) (obs_cons (by simp only [InK]; omega : InK .i64 (x + 1)) (obs_cons (itoa_pc (x + 1) (by omega) (by omega)) (obs_cons (rfl : Ren0 648 [(iv (x + 1))]) (obs_cons (by first | omega | (simp only [List.length_append, List.length_cons, List.length_nil]; omega) : (((([45] : List UInt8) ++ (Lib.repeatL ([100] : List UInt8) ((min (0 - m) 7).toNat))).length + (Lib.itoa (x + 1)).length : Nat) : Int) ≤ 9223372036854775807) (obs_cons (st_app _ _ : st (([45] : List UInt8) ++ (Lib.repeatL ([100] : List UInt8) ((min (0 - m) 7).toNat))) ++ st (Lib.itoa (x + 1)) = st ((([45] : List UInt8) ++ (Lib.repeatL ([100] : List UInt8) ((min (0 - m) 7).toNat))) ++ (Lib.itoa (x + 1)))) obs_nil))))))) ?_
          rw [nameS_neg (s := s) (h := h) h1 (.inr ⟨h11, h12⟩) (Eq.trans (by rw [← hx, ← hy]) (nameA_ok (by rw [← hm]; exact (qual_d h13 h15 h17)) h18))]
          exact T_ret fun cx_ a_ hI_ => rt hc0 [ps 2 (sv (st ((([45] : List UInt8) ++ (Lib.repeatL ([100] : List UInt8) ((min (0 - m) 7).toNat))) ++ (Lib.itoa (x + 1))))), ps 3 (iv 0)] [] hI_
        refine T_else (b := (perfB x)) rfl (Bool.eq_false_iff.2 h17) ?_
        refine T_seq ?_
        refine T_r mixed [] [ps 1 (.opt 0 0), ps 4 (sv (st ([45] : List UInt8))), ps 7 (iv m), ps 77 (bv (decide (m = (-1)))), pb 0 25 [(iv x), (iv y)]] (obs_nil) ?_
        by_cases h19 : m = (-1)
        · refine T_th (decide_eq_true h19) ?_
          refine T_r mixed [] [ps 1 (.opt 0 0), ps 4 (sv (st ([45] : List UInt8))), ps 8 (sv (st ([109] : List UInt8))), pb 0 25 [(iv x), (iv y)]] (obs_nil) ?_
          refine T_blk <| T_seq <| T_seq ?_
          refine T_r mixed [] [ps 1 (.opt 0 0), ps 4 (sv (st ([45] : List UInt8))), ps 8 (sv (st ([109] : List UInt8))), ps 82 (bv false), pb 0 25 [(iv x), (iv y)]] (obs_nil) ?_
          refine T_else (b := false) rfl rfl ?_
          refine T_skip <| T_seq ?_
          refine T_r mixed [(2, .val (.av (.string (st (([45] : List UInt8) ++ ([109] : List UInt8)))))), (6, .call [] [(iv (x + 1))] [] (sv (st (Lib.itoa (x + 1)))) []), (7, .val (.av (.string (st ((([45] : List UInt8) ++ ([109] : List UInt8)) ++ (Lib.itoa (x + 1)))))))] [ps 2 (sv (st ((([45] : List UInt8) ++ ([109] : List UInt8)) ++ (Lib.itoa (x + 1))))), ps 3 (iv 0)] (obs_cons (by first | omega | (simp only [List.length_append, List.length_cons, List.length_nil]; omega) : ((([45] : List UInt8).length + ([109] : List UInt8).length : Nat) : Int) ≤ 9223372036854775807) (obs_cons (st_app _ _ : st ([45] : List UInt8) ++ st ([109] : List UInt8) = st (([45] : List UInt8) ++ ([109] : List UInt8))) (obs_cons (by simp only [InK]; omega : InK .i64 (x + 1)) (obs_cons (itoa_pc (x + 1) (by omega) (by omega)) (obs_cons (rfl : Ren0 640 [(iv (x + 1))]) (obs_cons (by first | omega | (simp only [List.length_append, List.length_cons, List.length_nil]; omega) : (((([45] : List UInt8) ++ ([109] : List UInt8)).length + (Lib.itoa (x + 1)).length : Nat) : Int) ≤ 9223372036854775807) (obs_cons (st_app _ _ : st (([45] : List UInt8) ++ ([109] : List UInt8)) ++ st (Lib.itoa (x + 1)) = st ((([45] : List UInt8) ++ ([109] : List UInt8)) ++ (Lib.itoa (x + 1)))) obs_nil))))))) ?_
          rw [nameS_neg (s := s) (h := h) h1 (.inr ⟨h11, h12⟩) (Eq.trans (by rw [← hx, ← hy]) (nameA_ok (q := [109]) (by rw [← hm]; exact (qual_m h19 h17)) (by decide)))]
          exact T_ret fun cx_ a_ hI_ => rt hc0 [ps 2 (sv (st ((([45] : List UInt8) ++ ([109] : List UInt8)) ++ (Lib.itoa (x + 1))))), ps 3 (iv 0)] [] hI_
        refine T_el (decide_eq_false h19) ?_
        refine T_r mixed [(4, .call [] [(sv (st ([100] : List UInt8))), (nv ((min ((0 - m) - 1) 7).toNat))] [] (sv (st (Lib.repeatL ([100] : List UInt8) ((min ((0 - m) - 1) 7).toNat)))) [])] [ps 1 (.opt 0 0), ps 4 (sv (st ([45] : List UInt8))), ps 8 (sv (st (Lib.repeatL ([100] : List UInt8) ((min ((0 - m) - 1) 7).toNat)))), pb 0 25 [(iv x), (iv y)]] (obs_cons (by simp only [InK]; omega : InK .i64 (0 - m)) (obs_cons (by simp only [InK]; omega : InK .i64 ((0 - m) - 1)) (obs_cons (repeat_pc ([100] : List UInt8) ((min ((0 - m) - 1) 7).toNat) (by omega) (by simp only [List.length_cons, List.length_nil]; omega)) (obs_cons (congrArg (fun z => [(sv (st ([100] : List UInt8))), iv z]) (show min ((0 - m) - 1) 7 = (((min ((0 - m) - 1) 7).toNat : Nat) : Int) from by omega) : [(sv (st ([100] : List UInt8))), (iv (min ((0 - m) - 1) 7))] = renL (sigi [] 592) [(sv (st ([100] : List UInt8))), (nv ((min ((0 - m) - 1) 7).toNat))]) obs_nil)))) ?_
        refine T_blk <| T_seq <| T_seq ?_
        refine T_r mixed [] [ps 1 (.opt 0 0), ps 4 (sv (st ([45] : List UInt8))), ps 8 (sv (st (Lib.repeatL ([100] : List UInt8) ((min ((0 - m) - 1) 7).toNat)))), ps 82 (bv (decide (6 < (((Lib.repeatL ([100] : List UInt8) ((min ((0 - m) - 1) 7).toNat)).length : Nat) : Int)))), pb 0 25 [(iv x), (iv y)]] (obs_nil) ?_
        by_cases h20 : 6 < (((Lib.repeatL ([100] : List UInt8) ((min ((0 - m) - 1) 7).toNat)).length : Nat) : Int)
        · refine T_th (decide_eq_true h20) ?_
          refine T_seq ?_
          refine T_r mixed [] [ps 2 (sv (st ([] : List UInt8))), ps 3 (iv 3)] (obs_nil) ?_
          rw [nameS_neg (s := s) (h := h) h1 (.inr ⟨h11, h12⟩) (Eq.trans (by rw [← hx, ← hy]) (nameA_far (by rw [← hm]; exact (qual_dd h13 h15 h17 h19)) h20))]
          exact T_ret fun cx_ a_ hI_ => rt hc0 [ps 2 (sv (st ([] : List UInt8))), ps 3 (iv 3)] [] hI_
        refine T_el (decide_eq_false h20) ?_
        refine T_skip <| T_seq ?_
        refine T_r mixed [(2, .val (.av (.string (st (([45] : List UInt8) ++ (Lib.repeatL ([100] : List UInt8) ((min ((0 - m) - 1) 7).toNat))))))), (6, .call [] [(iv (x + 1))] [] (sv (st (Lib.itoa (x + 1)))) []), (7, .val (.av (.string (st ((([45] : List UInt8) ++ (Lib.repeatL ([100] : List UInt8) ((min ((0 - m) - 1) 7).toNat))) ++ (Lib.itoa (x + 1)))))))] [ps 2 (sv (st ((([45] : List UInt8) ++ (Lib.repeatL ([100] : List UInt8) ((min ((0 - m) - 1) 7).toNat))) ++ (Lib.itoa (x + 1))))), ps 3 (iv 0)] (obs_cons (by first | omega | (simp only [List.length_append, List.length_cons, List.length_nil]; omega) : ((([45] : List UInt8).length + (Lib.repeatL ([100] : List UInt8) ((min ((0 - m) - 1) 7).toNat)).length : Nat) : Int) ≤ 9223372036854775807) (obs_cons (st_app _ _ : st ([45] : List UInt8) ++ st (Lib.repeatL ([100] : List UInt8) ((min ((0 - m) - 1) 7).toNat)) = st (([45] : List UInt8) ++ (Lib.repeatL ([100] : List UInt8) ((min ((0 - m) - 1) 7).toNat)))) (obs_cons (by simp only [InK]; omega : InK .i64 (x + 1)) (obs_cons (itoa_pc (x + 1) (by omega) (by omega)) (obs_cons (rfl : Ren0 680 [(iv (x + 1))]) (obs_cons (by first | omega | (simp only [List.length_append, List.length_cons, List.length_nil]; omega) : (((([45] : List UInt8) ++ (Lib.repeatL ([100] : List UInt8) ((min ((0 - m) - 1) 7).toNat))).length + (Lib.itoa (x + 1)).length : Nat) : Int) ≤ 9223372036854775807) (obs_cons (st_app _ _ : st (([45] : List UInt8) ++ (Lib.repeatL ([100] : List UInt8) ((min ((0 - m) - 1) 7).toNat))) ++ st (Lib.itoa (x + 1)) = st ((([45] : List UInt8) ++ (Lib.repeatL ([100] : List UInt8) ((min ((0 - m) - 1) 7).toNat))) ++ (Lib.itoa (x + 1)))) obs_nil))))))) ?_
        rw [nameS_neg (s := s) (h := h) h1 (.inr ⟨h11, h12⟩) (Eq.trans (by rw [← hx, ← hy]) (nameA_ok (by rw [← hm]; exact (qual_dd h13 h15 h17 h19)) h20))]
        exact T_ret fun cx_ a_ hI_ => rt hc0 [ps 2 (sv (st ((([45] : List UInt8) ++ (Lib.repeatL ([100] : List UInt8) ((min ((0 - m) - 1) 7).toNat))) ++ (Lib.itoa (x + 1))))), ps 3 (iv 0)] [] hI_
      refine T_el (decide_eq_false h12) ?_
      refine T_skip <| T_seq ?_
      obtain ⟨x, hx⟩ : ∃ x, x = s := ⟨_, rfl⟩
      obtain ⟨y, hy⟩ : ∃ y, y = h := ⟨_, rfl⟩
      refine T_wk (Wk.eq (show _ = [ps 1 (.opt 0 0), ps 4 (sv (st ([] : List UInt8))), ps 24 (bv (decide (h < 0))), pb 0 25 [(iv x), (iv y)]] from by rw [hx, hy])) ?_
      have hnb := Pi.nat7_range (x % 7)
      have hl2 := itoa_len (o := x + 1) (by omega) (by omega)
      refine T_r mixed [(2, .call [] [(iv x), (iv 7)] [] (.tup [(iv (x / 7)), (iv (x % 7))]) [])] [ps 1 (.opt 0 0), ps 4 (sv (st ([] : List UInt8))), ps 5 (iv (x / 7)), ps 6 (iv (x % 7)), pb 0 25 [(iv x), (iv y)]] (obs_cons (pfloor_pc x (by omega) (by omega)) (obs_cons (rfl : Ren0 176 [(iv x), (iv 7)]) obs_nil)) ?_
      refine T_seq ?_
      refine T_rd mixed [(6, .call [] [(iv (x % 7))] [] (iv (Pi.nat7 (x % 7))) [])] [[], [0], [], [2], [0, 1, 2, 3], [], [5], [0, 1, 2, 3, 4, 5, 6], [0, 1, 2, 3, 4, 5, 6, 7]] [([78], [2]), ([80], [1, 78]), ([82], [10]), ([84], [82]), ([86], [80, 84]), ([88], [12]), ([90], [88]), ([92], [86, 90]), ([14], [92])] [ps 1 (.opt 0 0), ps 4 (sv (st ([] : List UInt8))), ps 7 (iv ((y - (12 * (x / 7))) - (Pi.nat7 (x % 7)))), pb 0 25 [(iv x), (iv y)]] (obs_cons (by simp only [InK]; omega : InK .i64 (12 * (x / 7))) (obs_cons (by simp only [InK]; omega : InK .i64 (y - (12 * (x / 7)))) (obs_cons (natural_pc (x % 7)) (obs_cons (rfl : Ren0 272 [(iv (x % 7))]) (obs_cons (by simp only [InK]; omega : InK .i64 ((y - (12 * (x / 7))) - (Pi.nat7 (x % 7)))) obs_nil))))) ?_
      refine T_seq ?_
      obtain ⟨m, hm⟩ : ∃ m, m = moreOf x y := ⟨_, rfl⟩
      have hmb : -9000 ≤ m ∧ m ≤ 9000 := by rw [hm]; unfold moreOf; omega
      refine T_wk (Wk.eq (show _ = [ps 1 (.opt 0 0), ps 4 (sv (st ([] : List UInt8))), ps 7 (iv m), pb 0 25 [(iv x), (iv y)]] from by rw [hm]; rfl)) ?_
      refine T_r mixed [] [ps 1 (.opt 0 0), ps 4 (sv (st ([] : List UInt8))), ps 7 (iv m), pb 0 25 [(iv x), (iv y)]] (obs_nil) ?_
      refine T_seq <| T_block <| T_seq ?_
      refine T_r mixed [] [ps 1 (.opt 0 0), ps 4 (sv (st ([] : List UInt8))), ps 7 (iv m), ps 52 (bv (decide (0 < m))), pb 0 25 [(iv x), (iv y)]] (obs_nil) ?_
      by_cases h21 : 0 < m
      · refine T_th (decide_eq_true h21) ?_
        refine T_r mixed [(2, .call [] [(sv (st ([65] : List UInt8))), (nv ((min m 7).toNat))] [] (sv (st (Lib.repeatL ([65] : List UInt8) ((min m 7).toNat)))) [])] [ps 1 (.opt 0 0), ps 4 (sv (st ([] : List UInt8))), ps 8 (sv (st (Lib.repeatL ([65] : List UInt8) ((min m 7).toNat)))), pb 0 25 [(iv x), (iv y)]] (obs_cons (repeat_pc ([65] : List UInt8) ((min m 7).toNat) (by omega) (by simp only [List.length_cons, List.length_nil]; omega)) (obs_cons (congrArg (fun z => [(sv (st ([65] : List UInt8))), iv z]) (show min m 7 = (((min m 7).toNat : Nat) : Int) from by omega) : [(sv (st ([65] : List UInt8))), (iv (min m 7))] = renL (sigi [] 344) [(sv (st ([65] : List UInt8))), (nv ((min m 7).toNat))]) obs_nil)) ?_
        refine T_blk <| T_seq <| T_seq ?_
        refine T_r mixed [] [ps 1 (.opt 0 0), ps 4 (sv (st ([] : List UInt8))), ps 8 (sv (st (Lib.repeatL ([65] : List UInt8) ((min m 7).toNat)))), ps 82 (bv (decide (6 < (((Lib.repeatL ([65] : List UInt8) ((min m 7).toNat)).length : Nat) : Int)))), pb 0 25 [(iv x), (iv y)]] (obs_nil) ?_
        by_cases h22 : 6 < (((Lib.repeatL ([65] : List UInt8) ((min m 7).toNat)).length : Nat) : Int)
        · refine T_th (decide_eq_true h22) ?_
          refine T_seq ?_
          refine T_r mixed [] [ps 2 (sv (st ([] : List UInt8))), ps 3 (iv 3)] (obs_nil) ?_
          rw [nameS_pos (s := s) (h := h) h1 (by omega) (Eq.trans (by rw [← hx, ← hy]) (nameA_far (by rw [← hm]; exact (qual_up h21)) h22))]
          exact T_ret fun cx_ a_ hI_ => rt hc0 [ps 2 (sv (st ([] : List UInt8))), ps 3 (iv 3)] [] hI_
        refine T_el (decide_eq_false h22) ?_
        refine T_skip <| T_seq ?_
        refine T_r mixed [(2, .val (.av (.string (st (([] : List UInt8) ++ (Lib.repeatL ([65] : List UInt8) ((min m 7).toNat))))))), (6, .call [] [(iv (x + 1))] [] (sv (st (Lib.itoa (x + 1)))) []), (7, .val (.av (.string (st ((([] : List UInt8) ++ (Lib.repeatL ([65] : List UInt8) ((min m 7).toNat))) ++ (Lib.itoa (x + 1)))))))] [ps 2 (sv (st ((([] : List UInt8) ++ (Lib.repeatL ([65] : List UInt8) ((min m 7).toNat))) ++ (Lib.itoa (x + 1))))), ps 3 (iv 0)] (obs_cons (by first | omega | (simp only [List.length_append, List.length_cons, List.length_nil]; omega) : ((([] : List UInt8).length + (Lib.repeatL ([65] : List UInt8) ((min m 7).toNat)).length : Nat) : Int) ≤ 9223372036854775807) (obs_cons (st_app _ _ : st ([] : List UInt8) ++ st (Lib.repeatL ([65] : List UInt8) ((min m 7).toNat)) = st (([] : List UInt8) ++ (Lib.repeatL ([65] : List UInt8) ((min m 7).toNat)))) (obs_cons (by simp only [InK]; omega : InK .i64 (x + 1)) (obs_cons (itoa_pc (x + 1) (by omega) (by omega)) (obs_cons (rfl : Ren0 432 [(iv (x + 1))]) (obs_cons (by first | omega | (simp only [List.length_append, List.length_cons, List.length_nil]; omega) : (((([] : List UInt8) ++ (Lib.repeatL ([65] : List UInt8) ((min m 7).toNat))).length + (Lib.itoa (x + 1)).length : Nat) : Int) ≤ 9223372036854775807) (obs_cons (st_app _ _ : st (([] : List UInt8) ++ (Lib.repeatL ([65] : List UInt8) ((min m 7).toNat))) ++ st (Lib.itoa (x + 1)) = st ((([] : List UInt8) ++ (Lib.repeatL ([65] : List UInt8) ((min m 7).toNat))) ++ (Lib.itoa (x + 1)))) obs_nil))))))) ?_
        rw [nameS_pos (s := s) (h := h) h1 (by omega) (Eq.trans (by rw [← hx, ← hy]) (nameA_ok (by rw [← hm]; exact (qual_up h21)) h22))]
        exact T_ret fun cx_ a_ hI_ => rt hc0 [ps 2 (sv (st ((([] : List UInt8) ++ (Lib.repeatL ([65] : List UInt8) ((min m 7).toNat))) ++ (Lib.itoa (x + 1))))), ps 3 (iv 0)] [] hI_
      refine T_el (decide_eq_false h21) ?_
      refine T_seq ?_
      by_cases h23 : m = 0
      · refine T_r mixed [(3, .gd true (.no)), (4, .gd true (.no)), (5, .gd true (.call [] [(iv x)] [] (bv (perfB x)) [])), (6, .yes true)] [ps 1 (.opt 0 0), ps 4 (sv (st ([] : List UInt8))), ps 7 (iv m), ps 58 (bv (perfB x)), pb 0 25 [(iv x), (iv y)]] (obs_cons (decide_eq_true h23) (obs_cons (decide_eq_true h23) (obs_cons (decide_eq_true h23) (obs_cons (perfect_pc x (by omega)) (obs_cons (rfl : Ren0 368 [(iv x)]) (obs_cons (decide_eq_true h23) obs_nil)))))) ?_
        by_cases h24 : (perfB x) = true
        · refine T_then (b := (perfB x)) rfl h24 ?_
          refine T_r mixed [] [ps 1 (.opt 0 0), ps 4 (sv (st ([] : List UInt8))), ps 8 (sv (st ([80] : List UInt8))), pb 0 25 [(iv x), (iv y)]] (obs_nil) ?_
          refine T_blk <| T_seq <| T_seq ?_
          refine T_r mixed [] [ps 1 (.opt 0 0), ps 4 (sv (st ([] : List UInt8))), ps 8 (sv (st ([80] : List UInt8))), ps 82 (bv false), pb 0 25 [(iv x), (iv y)]] (obs_nil) ?_
          refine T_else (b := false) rfl rfl ?_
          refine T_skip <| T_seq ?_
          refine T_r mixed [(2, .val (.av (.string (st (([] : List UInt8) ++ ([80] : List UInt8)))))), (6, .call [] [(iv (x + 1))] [] (sv (st (Lib.itoa (x + 1)))) []), (7, .val (.av (.string (st ((([] : List UInt8) ++ ([80] : List UInt8)) ++ (Lib.itoa (x + 1)))))))] [ps 2 (sv (st ((([] : List UInt8) ++ ([80] : List UInt8)) ++ (Lib.itoa (x + 1))))), ps 3 (iv 0)] (obs_cons (by first | omega | (simp only [List.length_append, List.length_cons, List.length_nil]; omega) : ((([] : List UInt8).length + ([80] : List UInt8).length : Nat) : Int) ≤ 9223372036854775807) (obs_cons (st_app _ _ : st ([] : List UInt8) ++ st ([80] : List UInt8) = st (([] : List UInt8) ++ ([80] : List UInt8))) (obs_cons (by simp only [InK]; omega : InK .i64 (x + 1)) (obs_cons (itoa_pc (x + 1) (by omega) (by omega)) (obs_cons (rfl : Ren0 472 [(iv (x + 1))]) (obs_cons (by first | omega | (simp only [List.length_append, List.length_cons, List.length_nil]; omega) : (((([] : List UInt8) ++ ([80] : List UInt8)).length + (Lib.itoa (x + 1)).length : Nat) : Int) ≤ 9223372036854775807) (obs_cons (st_app _ _ : st (([] : List UInt8) ++ ([80] : List UInt8)) ++ st (Lib.itoa (x + 1)) = st ((([] : List UInt8) ++ ([80] : List UInt8)) ++ (Lib.itoa (x + 1)))) obs_nil))))))) ?_
          rw [nameS_pos (s := s) (h := h) h1 (by omega) (Eq.trans (by rw [← hx, ← hy]) (nameA_ok (q := [80]) (by rw [← hm]; exact (qual_P h23 h24)) (by decide)))]
          exact T_ret fun cx_ a_ hI_ => rt hc0 [ps 2 (sv (st ((([] : List UInt8) ++ ([80] : List UInt8)) ++ (Lib.itoa (x + 1))))), ps 3 (iv 0)] [] hI_
        refine T_else (b := (perfB x)) rfl (Bool.eq_false_iff.2 h24) ?_
        refine T_seq ?_
        refine T_r mixed [] [ps 1 (.opt 0 0), ps 4 (sv (st ([] : List UInt8))), ps 7 (iv m), ps 66 (bv (decide (m = 0))), pb 0 25 [(iv x), (iv y)]] (obs_nil) ?_
        refine T_th (decide_eq_true h23) ?_
        refine T_r mixed [] [ps 1 (.opt 0 0), ps 4 (sv (st ([] : List UInt8))), ps 8 (sv (st ([77] : List UInt8))), pb 0 25 [(iv x), (iv y)]] (obs_nil) ?_
        refine T_blk <| T_seq <| T_seq ?_
        refine T_r mixed [] [ps 1 (.opt 0 0), ps 4 (sv (st ([] : List UInt8))), ps 8 (sv (st ([77] : List UInt8))), ps 82 (bv false), pb 0 25 [(iv x), (iv y)]] (obs_nil) ?_
        refine T_else (b := false) rfl rfl ?_
        refine T_skip <| T_seq ?_
        refine T_r mixed [(2, .val (.av (.string (st (([] : List UInt8) ++ ([77] : List UInt8)))))), (6, .call [] [(iv (x + 1))] [] (sv (st (Lib.itoa (x + 1)))) []), (7, .val (.av (.string (st ((([] : List UInt8) ++ ([77] : List UInt8)) ++ (Lib.itoa (x + 1)))))))] [ps 2 (sv (st ((([] : List UInt8) ++ ([77] : List UInt8)) ++ (Lib.itoa (x + 1))))), ps 3 (iv 0)] (obs_cons (by first | omega | (simp only [List.length_append, List.length_cons, List.length_nil]; omega) : ((([] : List UInt8).length + ([77] : List UInt8).length : Nat) : Int) ≤ 9223372036854775807) (obs_cons (st_app _ _ : st ([] : List UInt8) ++ st ([77] : List UInt8) = st (([] : List UInt8) ++ ([77] : List UInt8))) (obs_cons (by simp only [InK]; omega : InK .i64 (x + 1)) (obs_cons (itoa_pc (x + 1) (by omega) (by omega)) (obs_cons (rfl : Ren0 496 [(iv (x + 1))]) (obs_cons (by first | omega | (simp only [List.length_append, List.length_cons, List.length_nil]; omega) : (((([] : List UInt8) ++ ([77] : List UInt8)).length + (Lib.itoa (x + 1)).length : Nat) : Int) ≤ 9223372036854775807) (obs_cons (st_app _ _ : st (([] : List UInt8) ++ ([77] : List UInt8)) ++ st (Lib.itoa (x + 1)) = st ((([] : List UInt8) ++ ([77] : List UInt8)) ++ (Lib.itoa (x + 1)))) obs_nil))))))) ?_
        rw [nameS_pos (s := s) (h := h) h1 (by omega) (Eq.trans (by rw [← hx, ← hy]) (nameA_ok (q := [77]) (by rw [← hm]; exact (qual_M h23 h24)) (by decide)))]
        exact T_ret fun cx_ a_ hI_ => rt hc0 [ps 2 (sv (st ((([] : List UInt8) ++ ([77] : List UInt8)) ++ (Lib.itoa (x + 1))))), ps 3 (iv 0)] [] hI_
      refine T_r mixed [(3, .gd false .no), (4, .gd false .no), (5, .gd false .no), (6, .yes false)] [ps 1 (.opt 0 0), ps 4 (sv (st ([] : List UInt8))), ps 7 (iv m), ps 58 (bv false), pb 0 25 [(iv x), (iv y)]] (obs_cons (decide_eq_false h23) (obs_cons (decide_eq_false h23) (obs_cons (decide_eq_false h23) (obs_cons (decide_eq_false h23) obs_nil)))) ?_
      refine T_else (b := false) rfl rfl ?_
      refine T_seq ?_
      refine T_r mixed [] [ps 1 (.opt 0 0), ps 4 (sv (st ([] : List UInt8))), ps 7 (iv m), ps 66 (bv (decide (m = 0))), pb 0 25 [(iv x), (iv y)]] (obs_nil) ?_
      refine T_el (decide_eq_false h23) ?_
      refine T_seq ?_
      refine T_r mixed [(2, .call [] [(iv x)] [] (bv (perfB x)) [])] [ps 1 (.opt 0 0), ps 4 (sv (st ([] : List UInt8))), ps 7 (iv m), ps 69 (bv (perfB x)), pb 0 25 [(iv x), (iv y)]] (obs_cons (perfect_pc x (by omega)) (obs_cons (rfl : Ren0 432 [(iv x)]) obs_nil)) ?_
      by_cases h25 : (perfB x) = true
      · refine T_then (b := (perfB x)) rfl h25 ?_
        refine T_r mixed [(3, .call [] [(sv (st ([100] : List UInt8))), (nv ((min (0 - m) 7).toNat))] [] (sv (st (Lib.repeatL ([100] : List UInt8) ((min (0 - m) 7).toNat)))) [])] [ps 1 (.opt 0 0), ps 4 (sv (st ([] : List UInt8))), ps 8 (sv (st (Lib.repeatL ([100] : List UInt8) ((min (0 - m) 7).toNat)))), pb 0 25 [(iv x), (iv y)]] (obs_cons (by simp only [InK]; omega : InK .i64 (0 - m)) (obs_cons (repeat_pc ([100] : List UInt8) ((min (0 - m) 7).toNat) (by omega) (by simp only [List.length_cons, List.length_nil]; omega)) (obs_cons (congrArg (fun z => [(sv (st ([100] : List UInt8))), iv z]) (show min (0 - m) 7 = (((min (0 - m) 7).toNat : Nat) : Int) from by omega) : [(sv (st ([100] : List UInt8))), (iv (min (0 - m) 7))] = renL (sigi [] 472) [(sv (st ([100] : List UInt8))), (nv ((min (0 - m) 7).toNat))]) obs_nil))) ?_
        refine T_blk <| T_seq <| T_seq ?_
        refine T_r mixed [] [ps 1 (.opt 0 0), ps 4 (sv (st ([] : List UInt8))), ps 8 (sv (st (Lib.repeatL ([100] : List UInt8) ((min (0 - m) 7).toNat)))), ps 82 (bv (decide (6 < (((Lib.repeatL ([100] : List UInt8) ((min (0 - m) 7).toNat)).length : Nat) : Int)))), pb 0 25 [(iv x), (iv y)]] (obs_nil) ?_
        by_cases h26 : 6 < (((Lib.repeatL ([100] : List UInt8) ((min (0 - m) 7).toNat)).length : Nat) : Int)
        · refine T_th (decide_eq_true h26) ?_
          refine T_seq ?_
          refine T_r mixed [] [ps 2 (sv (st ([] : List UInt8))), ps 3 (iv 3)] (obs_nil) ?_
          rw [nameS_pos (s := s) (h := h) h1 (by omega) (Eq.trans (by rw [← hx, ← hy]) (nameA_far (by rw [← hm]; exact (qual_d h21 h23 h25)) h26))]
          exact T_ret fun cx_ a_ hI_ => rt hc0 [ps 2 (sv (st ([] : List UInt8))), ps 3 (iv 3)] [] hI_
        refine T_el (decide_eq_false h26) ?_
        refine T_skip <| T_seq ?_
        refine T_r mixed [(2, .val (.av (.string (st (([] : List UInt8) ++ (Lib.repeatL ([100] : List UInt8) ((min (0 - m) 7).toNat))))))), (6, .call [] [(iv (x + 1))] [] (sv (st (Lib.itoa (x + 1)))) []), (7, .val (.av (.string (st ((([] : List UInt8) ++ (Lib.repeatL ([100] : List UInt8) ((min (0 - m) 7).toNat))) ++ (Lib.itoa (x + 1)))))))] [ps 2 (sv (st ((([] : List UInt8) ++ (Lib.repeatL ([100] : List UInt8) ((min (0 - m) 7).toNat))) ++ (Lib.itoa (x + 1))))), ps 3 (iv 0)] (obs_cons (by first | omega | (simp only [List.length_append, List.length_cons, List.length_nil]; omega) : ((([] : List UInt8).length + (Lib.repeatL ([100] : List UInt8) ((min (0 - m) 7).toNat)).length : Nat) : Int) ≤ 9223372036854775807) (obs_cons (st_app _ _ : st ([] : List UInt8) ++ st (Lib.repeatL ([100] : List UInt8) ((min (0 - m) 7).toNat)) = st (([] : List UInt8) ++ (Lib.repeatL ([100] : List UInt8) ((min (0 - m) 7).toNat)))) (obs_cons (by simp only [InK]; omega : InK .i64 (x + 1)) (obs_cons (itoa_pc (x + 1) (by omega) (by omega)) (obs_cons (rfl : Ren0 560 [(iv (x + 1))]) (obs_cons (by first | omega | (simp only [List.length_append, List.length_cons, List.length_nil]; omega) : (((([] : List UInt8) ++ (Lib.repeatL ([100] : List UInt8) ((min (0 - m) 7).toNat))).length + (Lib.itoa (x + 1)).length : Nat) : Int) ≤ 9223372036854775807) (obs_cons (st_app _ _ : st (([] : List UInt8) ++ (Lib.repeatL ([100] : List UInt8) ((min (0 - m) 7).toNat))) ++ st (Lib.itoa (x + 1)) = st ((([] : List UInt8) ++ (Lib.repeatL ([100] : List UInt8) ((min (0 - m) 7).toNat))) ++ (Lib.itoa (x + 1)))) obs_nil))))))) ?_
        rw [nameS_pos (s := s) (h := h) h1 (by omega) (Eq.trans (by rw [← hx, ← hy]) (nameA_ok (by rw [← hm]; exact (qual_d h21 h23 h25)) h26))]
        exact T_ret fun cx_ a_ hI_ => rt hc0 [ps 2 (sv (st ((([] : List UInt8) ++ (Lib.repeatL ([100] : List UInt8) ((min (0 - m) 7).toNat))) ++ (Lib.itoa (x + 1))))), ps 3 (iv 0)] [] hI_
      refine T_else (b := (perfB x)) rfl (Bool.eq_false_iff.2 h25) ?_
      refine T_seq ?_
      refine T_r mixed [] [ps 1 (.opt 0 0), ps 4 (sv (st ([] : List UInt8))), ps 7 (iv m), ps 77 (bv (decide (m = (-1)))), pb 0 25 [(iv x), (iv y)]] (obs_nil) ?_
      by_cases h27 : m = (-1)
      · refine T_th (decide_eq_true h27) ?_
        refine T_r mixed [] [ps 1 (.opt 0 0), ps 4 (sv (st ([] : List UInt8))), ps 8 (sv (st ([109] : List UInt8))), pb 0 25 [(iv x), (iv y)]] (obs_nil) ?_
        refine T_blk <| T_seq <| T_seq ?_
        refine T_r mixed [] [ps 1 (.opt 0 0), ps 4 (sv (st ([] : List UInt8))), ps 8 (sv (st ([109] : List UInt8))), ps 82 (bv false), pb 0 25 [(iv x), (iv y)]] (obs_nil) ?_
        refine T_else (b := false) rfl rfl ?_
        refine T_skip <| T_seq ?_
        refine T_r mixed [(2, .val (.av (.string (st (([] : List UInt8) ++ ([109] : List UInt8)))))), (6, .call [] [(iv (x + 1))] [] (sv (st (Lib.itoa (x + 1)))) []), (7, .val (.av (.string (st ((([] : List UInt8) ++ ([109] : List UInt8)) ++ (Lib.itoa (x + 1)))))))] [ps 2 (sv (st ((([] : List UInt8) ++ ([109] : List UInt8)) ++ (Lib.itoa (x + 1))))), ps 3 (iv 0)] (obs_cons (by first | omega | (simp only [List.length_append, List.length_cons, List.length_nil]; omega) : ((([] : List UInt8).length + ([109] : List UInt8).length : Nat) : Int) ≤ 9223372036854775807) (obs_cons (st_app _ _ : st ([] : List UInt8) ++ st ([109] : List UInt8) = st (([] : List UInt8) ++ ([109] : List UInt8))) (obs_cons (by simp only [InK]; omega : InK .i64 (x + 1)) (obs_cons (itoa_pc (x + 1) (by omega) (by omega)) (obs_cons (rfl : Ren0 552 [(iv (x + 1))]) (obs_cons (by first | omega | (simp only [List.length_append, List.length_cons, List.length_nil]; omega) : (((([] : List UInt8) ++ ([109] : List UInt8)).length + (Lib.itoa (x + 1)).length : Nat) : Int) ≤ 9223372036854775807) (obs_cons (st_app _ _ : st (([] : List UInt8) ++ ([109] : List UInt8)) ++ st (Lib.itoa (x + 1)) = st ((([] : List UInt8) ++ ([109] : List UInt8)) ++ (Lib.itoa (x + 1)))) obs_nil))))))) ?_
        rw [nameS_pos (s := s) (h := h) h1 (by omega) (Eq.trans (by rw [← hx, ← hy]) (nameA_ok (q := [109]) (by rw [← hm]; exact (qual_m h27 h25)) (by decide)))]
        exact T_ret fun cx_ a_ hI_ => rt hc0 [ps 2 (sv (st ((([] : List UInt8) ++ ([109] : List UInt8)) ++ (Lib.itoa (x + 1))))), ps 3 (iv 0)] [] hI_
      refine T_el (decide_eq_false h27) ?_
      refine T_r mixed [(4, .call [] [(sv (st ([100] : List UInt8))), (nv ((min ((0 - m) - 1) 7).toNat))] [] (sv (st (Lib.repeatL ([100] : List UInt8) ((min ((0 - m) - 1) 7).toNat)))) [])] [ps 1 (.opt 0 0), ps 4 (sv (st ([] : List UInt8))), ps 8 (sv (st (Lib.repeatL ([100] : List UInt8) ((min ((0 - m) - 1) 7).toNat)))), pb 0 25 [(iv x), (iv y)]] (obs_cons (by simp only [InK]; omega : InK .i64 (0 - m)) (obs_cons (by simp only [InK]; omega : InK .i64 ((0 - m) - 1)) (obs_cons (repeat_pc ([100] : List UInt8) ((min ((0 - m) - 1) 7).toNat) (by omega) (by simp only [List.length_cons, List.length_nil]; omega)) (obs_cons (congrArg (fun z => [(sv (st ([100] : List UInt8))), iv z]) (show min ((0 - m) - 1) 7 = (((min ((0 - m) - 1) 7).toNat : Nat) : Int) from by omega) : [(sv (st ([100] : List UInt8))), (iv (min ((0 - m) - 1) 7))] = renL (sigi [] 504) [(sv (st ([100] : List UInt8))), (nv ((min ((0 - m) - 1) 7).toNat))]) obs_nil)))) ?_
      refine T_blk <| T_seq <| T_seq ?_
      refine T_r mixed [] [ps 1 (.opt 0 0), ps 4 (sv (st ([] : List UInt8))), ps 8 (sv (st (Lib.repeatL ([100] : List UInt8) ((min ((0 - m) - 1) 7).toNat)))), ps 82 (bv (decide (6 < (((Lib.repeatL ([100] : List UInt8) ((min ((0 - m) - 1) 7).toNat)).length : Nat) : Int)))), pb 0 25 [(iv x), (iv y)]] (obs_nil) ?_
      by_cases h28 : 6 < (((Lib.repeatL ([100] : List UInt8) ((min ((0 - m) - 1) 7).toNat)).length : Nat) : Int)
      · refine T_th (decide_eq_true h28) ?_
        refine T_seq ?_
        refine T_r mixed [] [ps 2 (sv (st ([] : List UInt8))), ps 3 (iv 3)] (obs_nil) ?_
        rw [nameS_pos (s := s) (h := h) h1 (by omega) (Eq.trans (by rw [← hx, ← hy]) (nameA_far (by rw [← hm]; exact (qual_dd h21 h23 h25 h27)) h28))]
        exact T_ret fun cx_ a_ hI_ => rt hc0 [ps 2 (sv (st ([] : List UInt8))), ps 3 (iv 3)] [] hI_
      refine T_el (decide_eq_false h28) ?_
      refine T_skip <| T_seq ?_
      refine T_r mixed [(2, .val (.av (.string (st (([] : List UInt8) ++ (Lib.repeatL ([100] : List UInt8) ((min ((0 - m) - 1) 7).toNat))))))), (6, .call [] [(iv (x + 1))] [] (sv (st (Lib.itoa (x + 1)))) []), (7, .val (.av (.string (st ((([] : List UInt8) ++ (Lib.repeatL ([100] : List UInt8) ((min ((0 - m) - 1) 7).toNat))) ++ (Lib.itoa (x + 1)))))))] [ps 2 (sv (st ((([] : List UInt8) ++ (Lib.repeatL ([100] : List UInt8) ((min ((0 - m) - 1) 7).toNat))) ++ (Lib.itoa (x + 1))))), ps 3 (iv 0)] (obs_cons (by first | omega | (simp only [List.length_append, List.length_cons, List.length_nil]; omega) : ((([] : List UInt8).length + (Lib.repeatL ([100] : List UInt8) ((min ((0 - m) - 1) 7).toNat)).length : Nat) : Int) ≤ 9223372036854775807) (obs_cons (st_app _ _ : st ([] : List UInt8) ++ st (Lib.repeatL ([100] : List UInt8) ((min ((0 - m) - 1) 7).toNat)) = st (([] : List UInt8) ++ (Lib.repeatL ([100] : List UInt8) ((min ((0 - m) - 1) 7).toNat)))) (obs_cons (by simp only [InK]; omega : InK .i64 (x + 1)) (obs_cons (itoa_pc (x + 1) (by omega) (by omega)) (obs_cons (rfl : Ren0 592 [(iv (x + 1))]) (obs_cons (by first | omega | (simp only [List.length_append, List.length_cons, List.length_nil]; omega) : (((([] : List UInt8) ++ (Lib.repeatL ([100] : List UInt8) ((min ((0 - m) - 1) 7).toNat))).length + (Lib.itoa (x + 1)).length : Nat) : Int) ≤ 9223372036854775807) (obs_cons (st_app _ _ : st (([] : List UInt8) ++ (Lib.repeatL ([100] : List UInt8) ((min ((0 - m) - 1) 7).toNat))) ++ st (Lib.itoa (x + 1)) = st ((([] : List UInt8) ++ (Lib.repeatL ([100] : List UInt8) ((min ((0 - m) - 1) 7).toNat))) ++ (Lib.itoa (x + 1)))) obs_nil))))))) ?_
      rw [nameS_pos (s := s) (h := h) h1 (by omega) (Eq.trans (by rw [← hx, ← hy]) (nameA_ok (by rw [← hm]; exact (qual_dd h21 h23 h25 h27)) h28))]
      exact T_ret fun cx_ a_ hI_ => rt hc0 [ps 2 (sv (st ((([] : List UInt8) ++ (Lib.repeatL ([100] : List UInt8) ((min ((0 - m) - 1) 7).toNat))) ++ (Lib.itoa (x + 1))))), ps 3 (iv 0)] [] hI_
    refine T_r mixed [(4, .gd false (.no)), (5, .gd false (.no)), (6, .gd false (.no)), (7, .gd false (.no)), (8, .gd false .no), (9, .gd false .no), (10, .gd false .no), (11, .gd false (.yes false)), (12, .yes false)] [ps 1 (.opt 0 0), ps 4 (sv (st ([] : List UInt8))), ps 24 (bv false), pb 0 25 [(iv s), (iv h)]] (obs_cons (decide_eq_false h2) (obs_cons (decide_eq_false h2) (obs_cons (decide_eq_false h2) (obs_cons (decide_eq_false h2) (obs_cons (decide_eq_false h11) (obs_cons (decide_eq_false h11) (obs_cons (decide_eq_false h11) (obs_cons (decide_eq_false h2) (obs_cons (decide_eq_false h11) (obs_cons (decide_eq_false h2) obs_nil)))))))))) ?_
    refine T_else (b := false) rfl rfl ?_
    refine T_skip <| T_seq ?_
    obtain ⟨x, hx⟩ : ∃ x, x = s := ⟨_, rfl⟩
    obtain ⟨y, hy⟩ : ∃ y, y = h := ⟨_, rfl⟩
    refine T_wk (Wk.eq (show _ = [ps 1 (.opt 0 0), ps 4 (sv (st ([] : List UInt8))), ps 24 (bv false), pb 0 25 [(iv x), (iv y)]] from by rw [hx, hy])) ?_
    have hnb := Pi.nat7_range (x % 7)
    have hl2 := itoa_len (o := x + 1) (by omega) (by omega)
    refine T_r mixed [(2, .call [] [(iv x), (iv 7)] [] (.tup [(iv (x / 7)), (iv (x % 7))]) [])] [ps 1 (.opt 0 0), ps 4 (sv (st ([] : List UInt8))), ps 5 (iv (x / 7)), ps 6 (iv (x % 7)), pb 0 25 [(iv x), (iv y)]] (obs_cons (pfloor_pc x (by omega) (by omega)) (obs_cons (rfl : Ren0 176 [(iv x), (iv 7)]) obs_nil)) ?_
    refine T_seq ?_
    refine T_rd mixed [(6, .call [] [(iv (x % 7))] [] (iv (Pi.nat7 (x % 7))) [])] [[], [0], [], [2], [0, 1, 2, 3], [], [5], [0, 1, 2, 3, 4, 5, 6], [0, 1, 2, 3, 4, 5, 6, 7]] [([78], [2]), ([80], [1, 78]), ([82], [10]), ([84], [82]), ([86], [80, 84]), ([88], [12]), ([90], [88]), ([92], [86, 90]), ([14], [92])] [ps 1 (.opt 0 0), ps 4 (sv (st ([] : List UInt8))), ps 7 (iv ((y - (12 * (x / 7))) - (Pi.nat7 (x % 7)))), pb 0 25 [(iv x), (iv y)]] (obs_cons (by simp only [InK]; omega : InK .i64 (12 * (x / 7))) (obs_cons (by simp only [InK]; omega : InK .i64 (y - (12 * (x / 7)))) (obs_cons (natural_pc (x % 7)) (obs_cons (rfl : Ren0 272 [(iv (x % 7))]) (obs_cons (by simp only [InK]; omega : InK .i64 ((y - (12 * (x / 7))) - (Pi.nat7 (x % 7)))) obs_nil))))) ?_
    refine T_seq ?_
    obtain ⟨m, hm⟩ : ∃ m, m = moreOf x y := ⟨_, rfl⟩
    have hmb : -9000 ≤ m ∧ m ≤ 9000 := by rw [hm]; unfold moreOf; omega
    refine T_wk (Wk.eq (show _ = [ps 1 (.opt 0 0), ps 4 (sv (st ([] : List UInt8))), ps 7 (iv m), pb 0 25 [(iv x), (iv y)]] from by rw [hm]; rfl)) ?_
    refine T_r mixed [] [ps 1 (.opt 0 0), ps 4 (sv (st ([] : List UInt8))), ps 7 (iv m), pb 0 25 [(iv x), (iv y)]] (obs_nil) ?_
    refine T_seq <| T_block <| T_seq ?_
    refine T_r mixed [] [ps 1 (.opt 0 0), ps 4 (sv (st ([] : List UInt8))), ps 7 (iv m), ps 52 (bv (decide (0 < m))), pb 0 25 [(iv x), (iv y)]] (obs_nil) ?_
    by_cases h29 : 0 < m
    · refine T_th (decide_eq_true h29) ?_
      refine T_r mixed [(2, .call [] [(sv (st ([65] : List UInt8))), (nv ((min m 7).toNat))] [] (sv (st (Lib.repeatL ([65] : List UInt8) ((min m 7).toNat)))) [])] [ps 1 (.opt 0 0), ps 4 (sv (st ([] : List UInt8))), ps 8 (sv (st (Lib.repeatL ([65] : List UInt8) ((min m 7).toNat)))), pb 0 25 [(iv x), (iv y)]] (obs_cons (repeat_pc ([65] : List UInt8) ((min m 7).toNat) (by omega) (by simp only [List.length_cons, List.length_nil]; omega)) (obs_cons (congrArg (fun z => [(sv (st ([65] : List UInt8))), iv z]) (show min m 7 = (((min m 7).toNat : Nat) : Int) from by omega) : [(sv (st ([65] : List UInt8))), (iv (min m 7))] = renL (sigi [] 344) [(sv (st ([65] : List UInt8))), (nv ((min m 7).toNat))]) obs_nil)) ?_
      refine T_blk <| T_seq <| T_seq ?_
      refine T_r mixed [] [ps 1 (.opt 0 0), ps 4 (sv (st ([] : List UInt8))), ps 8 (sv (st (Lib.repeatL ([65] : List UInt8) ((min m 7).toNat)))), ps 82 (bv (decide (6 < (((Lib.repeatL ([65] : List UInt8) ((min m 7).toNat)).length : Nat) : Int)))), pb 0 25 [(iv x), (iv y)]] (obs_nil) ?_
      by_cases h30 : 6 < (((Lib.repeatL ([65] : List UInt8) ((min m 7).toNat)).length : Nat) : Int)
      · refine T_th (decide_eq_true h30) ?_
        refine T_seq ?_
        refine T_r mixed [] [ps 2 (sv (st ([] : List UInt8))), ps 3 (iv 3)] (obs_nil) ?_
        rw [nameS_pos (s := s) (h := h) h1 (by omega) (Eq.trans (by rw [← hx, ← hy]) (nameA_far (by rw [← hm]; exact (qual_up h29)) h30))]
        exact T_ret fun cx_ a_ hI_ => rt hc0 [ps 2 (sv (st ([] : List UInt8))), ps 3 (iv 3)] [] hI_
      refine T_el (decide_eq_false h30) ?_
      refine T_skip <| T_seq ?_
      refine T_r mixed [(2, .val (.av (.string (st (([] : List UInt8) ++ (Lib.repeatL ([65] : List UInt8) ((min m 7).toNat))))))), (6, .call [] [(iv (x + 1))] [] (sv (st (Lib.itoa (x + 1)))) []), (7, .val (.av (.string (st ((([] : List UInt8) ++ (Lib.repeatL ([65] : List UInt8) ((min m 7).toNat))) ++ (Lib.itoa (x + 1)))))))] [ps 2 (sv (st ((([] : List UInt8) ++ (Lib.repeatL ([65] : List UInt8) ((min m 7).toNat))) ++ (Lib.itoa (x + 1))))), ps 3 (iv 0)] (obs_cons (by first | omega | (simp only [List.length_append, List.length_cons, List.length_nil]; omega) : ((([] : List UInt8).length + (Lib.repeatL ([65] : List UInt8) ((min m 7).toNat)).length : Nat) : Int) ≤ 9223372036854775807) (obs_cons (st_app _ _ : st ([] : List UInt8) ++ st (Lib.repeatL ([65] : List UInt8) ((min m 7).toNat)) = st (([] : List UInt8) ++ (Lib.repeatL ([65] : List UInt8) ((min m 7).toNat)))) (obs_cons (by simp only [InK]; omega : InK .i64 (x + 1)) (obs_cons (itoa_pc (x + 1) (by omega) (by omega)) (obs_cons (rfl : Ren0 432 [(iv (x + 1))]) (obs_cons (by first | omega | (simp only [List.length_append, List.length_cons, List.length_nil]; omega) : (((([] : List UInt8) ++ (Lib.repeatL ([65] : List UInt8) ((min m 7).toNat))).length + (Lib.itoa (x + 1)).length : Nat) : Int) ≤ 9223372036854775807) (obs_cons (st_app _ _ : st (([] : List UInt8) ++ (Lib.repeatL ([65] : List UInt8) ((min m 7).toNat))) ++ st (Lib.itoa (x + 1)) = st ((([] : List UInt8) ++ (Lib.repeatL ([65] : List UInt8) ((min m 7).toNat))) ++ (Lib.itoa (x + 1)))) obs_nil))))))) ?_
      rw [nameS_pos (s := s) (h := h) h1 (by omega) (Eq.trans (by rw [← hx, ← hy]) (nameA_ok (by rw [← hm]; exact (qual_up h29)) h30))]
      exact T_ret fun cx_ a_ hI_ => rt hc0 [ps 2 (sv (st ((([] : List UInt8) ++ (Lib.repeatL ([65] : List UInt8) ((min m 7).toNat))) ++ (Lib.itoa (x + 1))))), ps 3 (iv 0)] [] hI_
    refine T_el (decide_eq_false h29) ?_
    refine T_seq ?_
    by_cases h31 : m = 0
    · refine T_r mixed [(3, .gd true (.no)), (4, .gd true (.no)), (5, .gd true (.call [] [(iv x)] [] (bv (perfB x)) [])), (6, .yes true)] [ps 1 (.opt 0 0), ps 4 (sv (st ([] : List UInt8))), ps 7 (iv m), ps 58 (bv (perfB x)), pb 0 25 [(iv x), (iv y)]] (obs_cons (decide_eq_true h31) (obs_cons (decide_eq_true h31) (obs_cons (decide_eq_true h31) (obs_cons (perfect_pc x (by omega)) (obs_cons (rfl : Ren0 368 [(iv x)]) (obs_cons (decide_eq_true h31) obs_nil)))))) ?_
      by_cases h32 : (perfB x) = true
      · refine T_then (b := (perfB x)) rfl h32 ?_
        refine T_r mixed [] [ps 1 (.opt 0 0), ps 4 (sv (st ([] : List UInt8))), ps 8 (sv (st ([80] : List UInt8))), pb 0 25 [(iv x), (iv y)]] (obs_nil) ?_
        refine T_blk <| T_seq <| T_seq ?_
        refine T_r mixed [] [ps 1 (.opt 0 0), ps 4 (sv (st ([] : List UInt8))), ps 8 (sv (st ([80] : List UInt8))), ps 82 (bv false), pb 0 25 [(iv x), (iv y)]] (obs_nil) ?_
        refine T_else (b := false) rfl rfl ?_
        refine T_skip <| T_seq ?_
        refine T_r mixed [(2, .val (.av (.string (st (([] : List UInt8) ++ ([80] : List UInt8)))))), (6, .call [] [(iv (x + 1))] [] (sv (st (Lib.itoa (x + 1)))) []), (7, .val (.av (.string (st ((([] : List UInt8) ++ ([80] : List UInt8)) ++ (Lib.itoa (x + 1)))))))] [ps 2 (sv (st ((([] : List UInt8) ++ ([80] : List UInt8)) ++ (Lib.itoa (x + 1))))), ps 3 (iv 0)] (obs_cons (by first | omega | (simp only [List.length_append, List.length_cons, List.length_nil]; omega) : ((([] : List UInt8).length + ([80] : List UInt8).length : Nat) : Int) ≤ 9223372036854775807) (obs_cons (st_app _ _ : st ([] : List UInt8) ++ st ([80] : List UInt8) = st (([] : List UInt8) ++ ([80] : List UInt8))) (obs_cons (by simp only [InK]; omega : InK .i64 (x + 1)) (obs_cons (itoa_pc (x + 1) (by omega) (by omega)) (obs_cons (rfl : Ren0 472 [(iv (x + 1))]) (obs_cons (by first | omega | (simp only [List.length_append, List.length_cons, List.length_nil]; omega) : (((([] : List UInt8) ++ ([80] : List UInt8)).length + (Lib.itoa (x + 1)).length : Nat) : Int) ≤ 9223372036854775807) (obs_cons (st_app _ _ : st (([] : List UInt8) ++ ([80] : List UInt8)) ++ st (Lib.itoa (x + 1)) = st ((([] : List UInt8) ++ ([80] : List UInt8)) ++ (Lib.itoa (x + 1)))) obs_nil))))))) ?_
        rw [nameS_pos (s := s) (h := h) h1 (by omega) (Eq.trans (by rw [← hx, ← hy]) (nameA_ok (q := [80]) (by rw [← hm]; exact (qual_P h31 h32)) (by decide)))]
        exact T_ret fun cx_ a_ hI_ => rt hc0 [ps 2 (sv (st ((([] : List UInt8) ++ ([80] : List UInt8)) ++ (Lib.itoa (x + 1))))), ps 3 (iv 0)] [] hI_
      refine T_else (b := (perfB x)) rfl (Bool.eq_false_iff.2 h32) ?_
      refine T_seq ?_
      refine T_r mixed [] [ps 1 (.opt 0 0), ps 4 (sv (st ([] : List UInt8))), ps 7 (iv m), ps 66 (bv (decide (m = 0))), pb 0 25 [(iv x), (iv y)]] (obs_nil) ?_
      refine T_th (decide_eq_true h31) ?_
      refine T_r mixed [] [ps 1 (.opt 0 0), ps 4 (sv (st ([] : List UInt8))), ps 8 (sv (st ([77] : List UInt8))), pb 0 25 [(iv x), (iv y)]] (obs_nil) ?_
      refine T_blk <| T_seq <| T_seq ?_
      refine T_r mixed [] [ps 1 (.opt 0 0), ps 4 (sv (st ([] : List UInt8))), ps 8 (sv (st ([77] : List UInt8))), ps 82 (bv false), pb 0 25 [(iv x), (iv y)]] (obs_nil) ?_
      refine T_else (b := false) rfl rfl ?_
      refine T_skip <| T_seq ?_
      refine T_r mixed [(2, .val (.av (.string (st (([] : List UInt8) ++ ([77] : List UInt8)))))), (6, .call [] [(iv (x + 1))] [] (sv (st (Lib.itoa (x + 1)))) []), (7, .val (.av (.string (st ((([] : List UInt8) ++ ([77] : List UInt8)) ++ (Lib.itoa (x + 1)))))))] [ps 2 (sv (st ((([] : List UInt8) ++ ([77] : List UInt8)) ++ (Lib.itoa (x + 1))))), ps 3 (iv 0)] (obs_cons (by first | omega | (simp only [List.length_append, List.length_cons, List.length_nil]; omega) : ((([] : List UInt8).length + ([77] : List UInt8).length : Nat) : Int) ≤ 9223372036854775807) (obs_cons (st_app _ _ : st ([] : List UInt8) ++ st ([77] : List UInt8) = st (([] : List UInt8) ++ ([77] : List UInt8))) (obs_cons (by simp only [InK]; omega : InK .i64 (x + 1)) (obs_cons (itoa_pc (x + 1) (by omega) (by omega)) (obs_cons (rfl : Ren0 496 [(iv (x + 1))]) (obs_cons (by first | omega | (simp only [List.length_append, List.length_cons, List.length_nil]; omega) : (((([] : List UInt8) ++ ([77] : List UInt8)).length + (Lib.itoa (x + 1)).length : Nat) : Int) ≤ 9223372036854775807) (obs_cons (st_app _ _ : st (([] : List UInt8) ++ ([77] : List UInt8)) ++ st (Lib.itoa (x + 1)) = st ((([] : List UInt8) ++ ([77] : List UInt8)) ++ (Lib.itoa (x + 1)))) obs_nil))))))) ?_
      rw [nameS_pos (s := s) (h := h) h1 (by omega) (Eq.trans (by rw [← hx, ← hy]) (nameA_ok (q := [77]) (by rw [← hm]; exact (qual_M h31 h32)) (by decide)))]
      exact T_ret fun cx_ a_ hI_ => rt hc0 [ps 2 (sv (st ((([] : List UInt8) ++ ([77] : List UInt8)) ++ (Lib.itoa (x + 1))))), ps 3 (iv 0)] [] hI_
    refine T_r mixed [(3, .gd false .no), (4, .gd false .no), (5, .gd false .no), (6, .yes false)] [ps 1 (.opt 0 0), ps 4 (sv (st ([] : List UInt8))), ps 7 (iv m), ps 58 (bv false), pb 0 25 [(iv x), (iv y)]] (obs_cons (decide_eq_false h31) (obs_cons (decide_eq_false h31) (obs_cons (decide_eq_false h31) (obs_cons (decide_eq_false h31) obs_nil)))) ?_
    refine T_else (b := false) rfl rfl ?_
    refine T_seq ?_
    refine T_r mixed [] [ps 1 (.opt 0 0), ps 4 (sv (st ([] : List UInt8))), ps 7 (iv m), ps 66 (bv (decide (m = 0))), pb 0 25 [(iv x), (iv y)]] (obs_nil) ?_
    refine T_el (decide_eq_false h31) ?_
    refine T_seq ?_
    refine T_r mixed [(2, .call [] [(iv x)] [] (bv (perfB x)) [])] [ps 1 (.opt 0 0), ps 4 (sv (st ([] : List UInt8))), ps 7 (iv m), ps 69 (bv (perfB x)), pb 0 25 [(iv x), (iv y)]] (obs_cons (perfect_pc x (by omega)) (obs_cons (rfl : Ren0 432 [(iv x)]) obs_nil)) ?_
    by_cases h33 : (perfB x) = true
    · refine T_then (b := (perfB x)) rfl h33 ?_
      refine T_r mixed [(3, .call [] [(sv (st ([100] : List UInt8))), (nv ((min (0 - m) 7).toNat))] [] (sv (st (Lib.repeatL ([100] : List UInt8) ((min (0 - m) 7).toNat)))) [])] [ps 1 (.opt 0 0), ps 4 (sv (st ([] : List UInt8))), ps 8 (sv (st (Lib.repeatL ([100] : List UInt8) ((min (0 - m) 7).toNat)))), pb 0 25 [(iv x), (iv y)]] (obs_cons (by simp only [InK]; omega : InK .i64 (0 - m)) (obs_cons (repeat_pc ([100] : List UInt8) ((min (0 - m) 7).toNat) (by omega) (by simp only [List.length_cons, List.length_nil]; omega)) (obs_cons (congrArg (fun z => [(sv (st ([100] : List UInt8))), iv z]) (show min (0 - m) 7 = (((min (0 - m) 7).toNat : Nat) : Int) from by omega) : [(sv (st ([100] : List UInt8))), (iv (min (0 - m) 7))] = renL (sigi [] 472) [(sv (st ([100] : List UInt8))), (nv ((min (0 - m) 7).toNat))]) obs_nil))) ?_
      refine T_blk <| T_seq <| T_seq ?_
      refine T_r mixed [] [ps 1 (.opt 0 0), ps 4 (sv (st ([] : List UInt8))), ps 8 (sv (st (Lib.repeatL ([100] : List UInt8) ((min (0 - m) 7).toNat)))), ps 82 (bv (decide (6 < (((Lib.repeatL ([100] : List UInt8) ((min (0 - m) 7).toNat)).length : Nat) : Int)))), pb 0 25 [(iv x), (iv y)]] (obs_nil) ?_
      by_cases h34 : 6 < (((Lib.repeatL ([100] : List UInt8) ((min (0 - m) 7).toNat)).length : Nat) : Int)
      · refine T_th (decide_eq_true h34) ?_
        refine T_seq ?_
        refine T_r mixed [] [ps 2 (sv (st ([] : List UInt8))), ps 3 (iv 3)] (obs_nil) ?_
        rw [nameS_pos (s := s) (h := h) h1 (by omega) (Eq.trans (by rw [← hx, ← hy]) (nameA_far (by rw [← hm]; exact (qual_d h29 h31 h33)) h34))]
        exact T_ret fun cx_ a_ hI_ => rt hc0 [ps 2 (sv (st ([] : List UInt8))), ps 3 (iv 3)] [] hI_
      refine T_el (decide_eq_false h34) ?_
      refine T_skip <| T_seq ?_
      refine T_r mixed [(2, .val (.av (.string (st (([] : List UInt8) ++ (Lib.repeatL ([100] : List UInt8) ((min (0 - m) 7).toNat))))))), (6, .call [] [(iv (x + 1))] [] (sv (st (Lib.itoa (x + 1)))) []), (7, .val (.av (.string (st ((([] : List UInt8) ++ (Lib.repeatL ([100] : List UInt8) ((min (0 - m) 7).toNat))) ++ (Lib.itoa (x + 1)))))))] [ps 2 (sv (st ((([] : List UInt8) ++ (Lib.repeatL ([100] : List UInt8) ((min (0 - m) 7).toNat))) ++ (Lib.itoa (x + 1))))), ps 3 (iv 0)] (obs_cons (by first | omega | (simp only [List.length_append, List.length_cons, List.length_nil]; omega) : ((([] : List UInt8).length + (Lib.repeatL ([100] : List UInt8) ((min (0 - m) 7).toNat)).length : Nat) : Int) ≤ 9223372036854775807) (obs_cons (st_app _ _ : st ([] : List UInt8) ++ st (Lib.repeatL ([100] : List UInt8) ((min (0 - m) 7).toNat)) = st (([] : List UInt8) ++ (Lib.repeatL ([100] : List UInt8) ((min (0 - m) 7).toNat)))) (obs_cons (by simp only [InK]; omega : InK .i64 (x + 1)) (obs_cons (itoa_pc (x + 1) (by omega) (by omega)) (obs_cons (rfl : Ren0 560 [(iv (x + 1))]) (obs_cons (by first | omega | (simp only [List.length_append, List.length_cons, List.length_nil]; omega) : (((([] : List UInt8) ++ (Lib.repeatL ([100] : List UInt8) ((min (0 - m) 7).toNat))).length + (Lib.itoa (x + 1)).length : Nat) : Int) ≤ 9223372036854775807) (obs_cons (st_app _ _ : st (([] : List UInt8) ++ (Lib.repeatL ([100] : List UInt8) ((min (0 - m) 7).toNat))) ++ st (Lib.itoa (x + 1)) = st ((([] : List UInt8) ++ (Lib.repeatL ([100] : List UInt8) ((min (0 - m) 7).toNat))) ++ (Lib.itoa (x + 1)))) obs_nil))))))) ?_
      rw [nameS_pos (s := s) (h := h) h1 (by omega) (Eq.trans (by rw [← hx, ← hy]) (nameA_ok (by rw [← hm]; exact (qual_d h29 h31 h33)) h34))]
      exact T_ret fun cx_ a_ hI_ => rt hc0 [ps 2 (sv (st ((([] : List UInt8) ++ (Lib.repeatL ([100] : List UInt8) ((min (0 - m) 7).toNat))) ++ (Lib.itoa (x + 1))))), ps 3 (iv 0)] [] hI_
    refine T_else (b := (perfB x)) rfl (Bool.eq_false_iff.2 h33) ?_
    refine T_seq ?_
    refine T_r mixed [] [ps 1 (.opt 0 0), ps 4 (sv (st ([] : List UInt8))), ps 7 (iv m), ps 77 (bv (decide (m = (-1)))), pb 0 25 [(iv x), (iv y)]] (obs_nil) ?_
    by_cases h35 : m = (-1)
    · refine T_th (decide_eq_true h35) ?_
      refine T_r mixed [] [ps 1 (.opt 0 0), ps 4 (sv (st ([] : List UInt8))), ps 8 (sv (st ([109] : List UInt8))), pb 0 25 [(iv x), (iv y)]] (obs_nil) ?_
      refine T_blk <| T_seq <| T_seq ?_
      refine T_r mixed [] [ps 1 (.opt 0 0), ps 4 (sv (st ([] : List UInt8))), ps 8 (sv (st ([109] : List UInt8))), ps 82 (bv false), pb 0 25 [(iv x), (iv y)]] (obs_nil) ?_
      refine T_else (b := false) rfl rfl ?_
      refine T_skip <| T_seq ?_
      refine T_r mixed [(2, .val (.av (.string (st (([] : List UInt8) ++ ([109] : List UInt8)))))), (6, .call [] [(iv (x + 1))] [] (sv (st (Lib.itoa (x + 1)))) []), (7, .val (.av (.string (st ((([] : List UInt8) ++ ([109] : List UInt8)) ++ (Lib.itoa (x + 1)))))))] [ps 2 (sv (st ((([] : List UInt8) ++ ([109] : List UInt8)) ++ (Lib.itoa (x + 1))))), ps 3 (iv 0)] (obs_cons (by first | omega | (simp only [List.length_append, List.length_cons, List.length_nil]; omega) : ((([] : List UInt8).length + ([109] : List UInt8).length : Nat) : Int) ≤ 9223372036854775807) (obs_cons (st_app _ _ : st ([] : List UInt8) ++ st ([109] : List UInt8) = st (([] : List UInt8) ++ ([109] : List UInt8))) (obs_cons (by simp only [InK]; omega : InK .i64 (x + 1)) (obs_cons (itoa_pc (x + 1) (by omega) (by omega)) (obs_cons (rfl : Ren0 552 [(iv (x + 1))]) (obs_cons (by first | omega | (simp only [List.length_append, List.length_cons, List.length_nil]; omega) : (((([] : List UInt8) ++ ([109] : List UInt8)).length + (Lib.itoa (x + 1)).length : Nat) : Int) ≤ 9223372036854775807) (obs_cons (st_app _ _ : st (([] : List UInt8) ++ ([109] : List UInt8)) ++ st (Lib.itoa (x + 1)) = st ((([] : List UInt8) ++ ([109] : List UInt8)) ++ (Lib.itoa (x + 1)))) obs_nil))))))) ?_
      rw [nameS_pos (s := s) (h := h) h1 (by omega) (Eq.trans (by rw [← hx, ← hy]) (nameA_ok (q := [109]) (by rw [← hm]; exact (qual_m h35 h33)) (by decide)))]
      exact T_ret fun cx_ a_ hI_ => rt hc0 [ps 2 (sv (st ((([] : List UInt8) ++ ([109] : List UInt8)) ++ (Lib.itoa (x + 1))))), ps 3 (iv 0)] [] hI_
    refine T_el (decide_eq_false h35) ?_
    refine T_r mixed [(4, .call [] [(sv (st ([100] : List UInt8))), (nv ((min ((0 - m) - 1) 7).toNat))] [] (sv (st (Lib.repeatL ([100] : List UInt8) ((min ((0 - m) - 1) 7).toNat)))) [])] [ps 1 (.opt 0 0), ps 4 (sv (st ([] : List UInt8))), ps 8 (sv (st (Lib.repeatL ([100] : List UInt8) ((min ((0 - m) - 1) 7).toNat)))), pb 0 25 [(iv x), (iv y)]] (obs_cons (by simp only [InK]; omega : InK .i64 (0 - m)) (obs_cons (by simp only [InK]; omega : InK .i64 ((0 - m) - 1)) (obs_cons (repeat_pc ([100] : List UInt8) ((min ((0 - m) - 1) 7).toNat) (by omega) (by simp only [List.length_cons, List.length_nil]; omega)) (obs_cons (congrArg (fun z => [(sv (st ([100] : List UInt8))), iv z]) (show min ((0 - m) - 1) 7 = (((min ((0 - m) - 1) 7).toNat : Nat) : Int) from by omega) : [(sv (st ([100] : List UInt8))), (iv (min ((0 - m) - 1) 7))] = renL (sigi [] 504) [(sv (st ([100] : List UInt8))), (nv ((min ((0 - m) - 1) 7).toNat))]) obs_nil)))) ?_
    refine T_blk <| T_seq <| T_seq ?_
    refine T_r mixed [] [ps 1 (.opt 0 0), ps 4 (sv (st ([] : List UInt8))), ps 8 (sv (st (Lib.repeatL ([100] : List UInt8) ((min ((0 - m) - 1) 7).toNat)))), ps 82 (bv (decide (6 < (((Lib.repeatL ([100] : List UInt8) ((min ((0 - m) - 1) 7).toNat)).length : Nat) : Int)))), pb 0 25 [(iv x), (iv y)]] (obs_nil) ?_
    by_cases h36 : 6 < (((Lib.repeatL ([100] : List UInt8) ((min ((0 - m) - 1) 7).toNat)).length : Nat) : Int)
    · refine T_th (decide_eq_true h36) ?_
      refine T_seq ?_
      refine T_r mixed [] [ps 2 (sv (st ([] : List UInt8))), ps 3 (iv 3)] (obs_nil) ?_
      rw [nameS_pos (s := s) (h := h) h1 (by omega) (Eq.trans (by rw [← hx, ← hy]) (nameA_far (by rw [← hm]; exact (qual_dd h29 h31 h33 h35)) h36))]
      exact T_ret fun cx_ a_ hI_ => rt hc0 [ps 2 (sv (st ([] : List UInt8))), ps 3 (iv 3)] [] hI_
    refine T_el (decide_eq_false h36) ?_
    refine T_skip <| T_seq ?_
    refine T_r mixed [(2, .val (.av (.string (st (([] : List UInt8) ++ (Lib.repeatL ([100] : List UInt8) ((min ((0 - m) - 1) 7).toNat))))))), (6, .call [] [(iv (x + 1))] [] (sv (st (Lib.itoa (x + 1)))) []), (7, .val (.av (.string (st ((([] : List UInt8) ++ (Lib.repeatL ([100] : List UInt8) ((min ((0 - m) - 1) 7).toNat))) ++ (Lib.itoa (x + 1)))))))] [ps 2 (sv (st ((([] : List UInt8) ++ (Lib.repeatL ([100] : List UInt8) ((min ((0 - m) - 1) 7).toNat))) ++ (Lib.itoa (x + 1))))), ps 3 (iv 0)] (obs_cons (by first | omega | (simp only [List.length_append, List.length_cons, List.length_nil]; omega) : ((([] : List UInt8).length + (Lib.repeatL ([100] : List UInt8) ((min ((0 - m) - 1) 7).toNat)).length : Nat) : Int) ≤ 9223372036854775807) (obs_cons (st_app _ _ : st ([] : List UInt8) ++ st (Lib.repeatL ([100] : List UInt8) ((min ((0 - m) - 1) 7).toNat)) = st (([] : List UInt8) ++ (Lib.repeatL ([100] : List UInt8) ((min ((0 - m) - 1) 7).toNat)))) (obs_cons (by simp only [InK]; omega : InK .i64 (x + 1)) (obs_cons (itoa_pc (x + 1) (by omega) (by omega)) (obs_cons (rfl : Ren0 592 [(iv (x + 1))]) (obs_cons (by first | omega | (simp only [List.length_append, List.length_cons, List.length_nil]; omega) : (((([] : List UInt8) ++ (Lib.repeatL ([100] : List UInt8) ((min ((0 - m) - 1) 7).toNat))).length + (Lib.itoa (x + 1)).length : Nat) : Int) ≤ 9223372036854775807) (obs_cons (st_app _ _ : st (([] : List UInt8) ++ (Lib.repeatL ([100] : List UInt8) ((min ((0 - m) - 1) 7).toNat))) ++ st (Lib.itoa (x + 1)) = st ((([] : List UInt8) ++ (Lib.repeatL ([100] : List UInt8) ((min ((0 - m) - 1) 7).toNat))) ++ (Lib.itoa (x + 1)))) obs_nil))))))) ?_
    rw [nameS_pos (s := s) (h := h) h1 (by omega) (Eq.trans (by rw [← hx, ← hy]) (nameA_ok (by rw [← hm]; exact (qual_dd h29 h31 h33 h35)) h36))]
    exact T_ret fun cx_ a_ hI_ => rt hc0 [ps 2 (sv (st ((([] : List UInt8) ++ (Lib.repeatL ([100] : List UInt8) ((min ((0 - m) - 1) 7).toNat))) ++ (Lib.itoa (x + 1))))), ps 3 (iv 0)] [] hI_
  refine T_th (congrArg Bool.not (Bool.eq_false_iff.2 h1)) ?_
  refine T_seq ?_
  refine T_r mixed [] [ps 2 (sv (st ([] : List UInt8))), ps 3 (iv 3)] (obs_nil) ?_
  rw [nameS_no (s := s) (h := h) h1]
  exact T_ret fun cx_ a_ hI_ => rt hc0 [ps 2 (sv (st ([] : List UInt8))), ps 3 (iv 3)] [] hI_
end Go.Proofs.YtlngkiipgkociaaGreatDoor.Pm
