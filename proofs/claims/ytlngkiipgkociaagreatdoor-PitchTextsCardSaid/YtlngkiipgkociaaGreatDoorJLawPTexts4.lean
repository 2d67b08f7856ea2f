/-
  INTERVALS AS TEXTS: read: walk. (Printed by wip/pm.) | PITCHES AND INTERVALS AS TEXTS: what is written is read. No program in sight. | PITCHES AND INTERVALS AS TEXTS: what is written is read (the end). No program in sight. | THE DOCUMENT's TEXTS: digits, numbers, small signs. No program in sight.
-/
import Derived.Test.YtlngkiipgkociaaGreatDoorJLawPTexts3
import Derived.Test.YtlngkiipgkociaaGreatDoorJLawPTexts2
namespace Go.Proofs.YtlngkiipgkociaaGreatDoor.Pm
open Go Go.Proofs.YtlngkiipgkociaaGreatDoor.Pi

set_option maxRecDepth 100000 in
set_option maxHeartbeats 4000000 in
theorem named_pc0 (s : List UInt8) (hs : s.length ≤ 9223372036854775807) : PC Tryz.prog 10 [(sv (st s))] [] (.tup [(.agg [(iv ((namedS s).1.1)), (iv ((namedS s).1.2))]), (iv ((namedS s).2))]) [none] := by
  refine pc_intro Tryz.func10 rfl (by kernel_rfl) (Nat.le_of_ble_eq_true rfl) (by kernel_rfl) (l0 := [ps 0 (sv (st s))]) rfl (fun c0 Bor hc0 => ?_)
  refine T_seq ?_
  refine T_r mixed [] [ps 0 (sv (st s)), ps 2 (.opt 0 0), pb 0 25 [(iv 0), (iv 0)]] (obs_nil) ?_
  refine T_seq ?_
  have hnn := num_bd (dOf s)
  have ht1 := tOf_le s
  have ht2 := dOf_le s
  have ht3 := qOf_le s
  have hnb := Pi.nat7_range (((numS (dOf s)).1 - 1) % 7)
  refine T_r mixed [(1, .call [] [(sv (st s)), (sv (st ([45] : List UInt8)))] [] (sv (st (tOf s))) [])] [ps 0 (sv (st s)), ps 2 (.opt 0 0), ps 4 (sv (st (tOf s))), pb 0 25 [(iv 0), (iv 0)]] (obs_cons (trimPrefix_pc s [45]) (obs_cons (rfl : Ren0 24 [(sv (st s)), (sv (st ([45] : List UInt8)))]) obs_nil)) ?_
  refine T_seq ?_
  refine T_r mixed [(1, .call [] [(sv (st (tOf s))), (sv (st quals))] [] (sv (st (dOf s))) [])] [ps 0 (sv (st s)), ps 2 (.opt 0 0), ps 4 (sv (st (tOf s))), ps 5 (sv (st (dOf s))), pb 0 25 [(iv 0), (iv 0)]] (obs_cons (trimLeft_pc (tOf s) quals (by decide) quals_ascii) (obs_cons (rfl : [(sv (st (tOf s))), (sv (st ([80, 77, 109, 65, 100] : List UInt8)))] = renL (sigi [] 48) [(sv (st (tOf s))), (sv (st quals))]) obs_nil)) ?_
  refine T_seq ?_
  refine T_r mixed [(6, .val (.av (.string (st (qOf s)))))] [ps 0 (sv (st s)), ps 2 (.opt 0 0), ps 4 (sv (st (tOf s))), ps 5 (sv (st (dOf s))), ps 6 (sv (st (qOf s))), pb 0 25 [(iv 0), (iv 0)]] (obs_cons (by simp only [InK]; omega : InK .i64 ((((tOf s).length : Nat) : Int) - (((dOf s).length : Nat) : Int))) (obs_cons (by omega : (0 : Int) ≤ (0 : Int) ∧ (0 : Int) ≤ ((((tOf s).length : Nat) : Int) - (((dOf s).length : Nat) : Int)) ∧ ((((tOf s).length : Nat) : Int) - (((dOf s).length : Nat) : Int)) ≤ (((tOf s).length : Nat) : Int)) (obs_cons (q_cut s : (st (tOf s)).extract ((0 : Int) : Int).toNat (((((tOf s).length : Nat) : Int) - (((dOf s).length : Nat) : Int)) : Int).toNat = st (qOf s)) obs_nil))) ?_
  refine T_seq ?_
  refine T_r mixed [(1, .call [] [(sv (st (dOf s)))] [] (.tup [(iv ((numS (dOf s)).1)), (bv ((numS (dOf s)).2))]) [])] [ps 0 (sv (st s)), ps 2 (.opt 0 0), ps 4 (sv (st (tOf s))), ps 6 (sv (st (qOf s))), ps 7 (iv ((numS (dOf s)).1)), ps 8 (bv ((numS (dOf s)).2)), pb 0 25 [(iv 0), (iv 0)]] (obs_cons (number_pc (dOf s) (by omega)) (obs_cons (rfl : Ren0 136 [(sv (st (dOf s)))]) obs_nil)) ?_
  refine T_seq <| T_seq ?_
  by_cases h1 : ((numS (dOf s)).2) = true
  · by_cases h2 : ((numS (dOf s)).1) < 1
    · refine T_r mixed [(3, .gd false (.no)), (4, .gd false (.no)), (5, .yes false), (7, .gd true .no), (8, .gd true .no), (9, .yes true)] [ps 0 (sv (st s)), ps 2 (.opt 0 0), ps 4 (sv (st (tOf s))), ps 6 (sv (st (qOf s))), ps 7 (iv ((numS (dOf s)).1)), ps 40 (bv true), pb 0 25 [(iv 0), (iv 0)]] (obs_cons (congrArg Bool.not h1 : (!((numS (dOf s)).2)) = false) (obs_cons (congrArg Bool.not h1 : (!((numS (dOf s)).2)) = false) (obs_cons (congrArg Bool.not h1 : (!((numS (dOf s)).2)) = false) (obs_cons (decide_eq_true h2) (obs_cons (decide_eq_true h2) (obs_cons (decide_eq_true h2) obs_nil)))))) ?_
      refine T_then (b := true) rfl rfl ?_
      refine T_seq ?_
      refine T_r mixed [] [ps 2 (.opt 0 0), ps 3 (iv 2), pb 0 25 [(iv 0), (iv 0)]] (obs_nil) ?_
      rw [named_form (s := s) (.inr (.inl h2))]
      exact T_ret fun cx_ a_ hI_ => rt hc0 [ps 2 (.opt 0 0), ps 3 (iv 2), pb 0 25 [(iv 0), (iv 0)]] [0] hI_
    refine T_r mixed [(3, .gd false (.no)), (4, .gd false (.no)), (5, .yes false), (7, .gd false (.no)), (8, .gd false (.val (.av (.bool (decide ((qOf s) = ([] : List UInt8))))))), (9, .yes false)] [ps 0 (sv (st s)), ps 2 (.opt 0 0), ps 4 (sv (st (tOf s))), ps 6 (sv (st (qOf s))), ps 7 (iv ((numS (dOf s)).1)), ps 40 (bv (decide ((qOf s) = ([] : List UInt8)))), pb 0 25 [(iv 0), (iv 0)]] (obs_cons (congrArg Bool.not h1 : (!((numS (dOf s)).2)) = false) (obs_cons (congrArg Bool.not h1 : (!((numS (dOf s)).2)) = false) (obs_cons (congrArg Bool.not h1 : (!((numS (dOf s)).2)) = false) (obs_cons (decide_eq_false h2) (obs_cons (decide_eq_false h2) (obs_cons (st_eq _ _ : ((st (qOf s)).toList == (st ([] : List UInt8)).toList) = decide ((qOf s) = ([] : List UInt8))) (obs_cons (decide_eq_false h2) obs_nil))))))) ?_
    by_cases h3 : (qOf s) = ([] : List UInt8)
    · refine T_th (decide_eq_true h3) ?_
      refine T_seq ?_
      refine T_r mixed [] [ps 2 (.opt 0 0), ps 3 (iv 2), pb 0 25 [(iv 0), (iv 0)]] (obs_nil) ?_
      rw [named_form (s := s) (.inr (.inr h3))]
      exact T_ret fun cx_ a_ hI_ => rt hc0 [ps 2 (.opt 0 0), ps 3 (iv 2), pb 0 25 [(iv 0), (iv 0)]] [0] hI_
    refine T_el (decide_eq_false h3) ?_
    refine T_skip <| T_seq <| T_seq ?_
    by_cases h4 : 200 < (((numS (dOf s)).1) - 1)
    · refine T_r mixed [(4, .gd true .no), (5, .gd true .no), (6, .gd true .no), (7, .yes true)] [ps 0 (sv (st s)), ps 2 (.opt 0 0), ps 4 (sv (st (tOf s))), ps 6 (sv (st (qOf s))), ps 7 (iv ((numS (dOf s)).1)), ps 49 (bv true), pb 0 25 [(iv 0), (iv 0)]] (obs_cons (by simp only [InK]; omega : InK .i64 (((numS (dOf s)).1) - 1)) (obs_cons (decide_eq_true h4) (obs_cons (decide_eq_true h4) (obs_cons (decide_eq_true h4) (obs_cons (decide_eq_true h4) obs_nil))))) ?_
      refine T_then (b := true) rfl rfl ?_
      refine T_seq ?_
      refine T_r mixed [] [ps 2 (.opt 0 0), ps 3 (iv 3), pb 0 25 [(iv 0), (iv 0)]] (obs_nil) ?_
      rw [named_far (s := s) h1 h2 h3 (.inl h4)]
      exact T_ret fun cx_ a_ hI_ => rt hc0 [ps 2 (.opt 0 0), ps 3 (iv 3), pb 0 25 [(iv 0), (iv 0)]] [0] hI_
    refine T_r mixed [(4, .gd false (.no)), (5, .gd false (.no)), (6, .gd false (.no)), (7, .yes false)] [ps 0 (sv (st s)), ps 2 (.opt 0 0), ps 4 (sv (st (tOf s))), ps 6 (sv (st (qOf s))), ps 7 (iv ((numS (dOf s)).1)), ps 49 (bv (decide (6 < (((qOf s).length : Nat) : Int)))), pb 0 25 [(iv 0), (iv 0)]] (obs_cons (by simp only [InK]; omega : InK .i64 (((numS (dOf s)).1) - 1)) (obs_cons (decide_eq_false h4) (obs_cons (decide_eq_false h4) (obs_cons (decide_eq_false h4) (obs_cons (decide_eq_false h4) obs_nil))))) ?_
    by_cases h5 : 6 < (((qOf s).length : Nat) : Int)
    · refine T_th (decide_eq_true h5) ?_
      refine T_seq ?_
      refine T_r mixed [] [ps 2 (.opt 0 0), ps 3 (iv 3), pb 0 25 [(iv 0), (iv 0)]] (obs_nil) ?_
      rw [named_far (s := s) h1 h2 h3 (.inr h5)]
      exact T_ret fun cx_ a_ hI_ => rt hc0 [ps 2 (.opt 0 0), ps 3 (iv 3), pb 0 25 [(iv 0), (iv 0)]] [0] hI_
    refine T_el (decide_eq_false h5) ?_
    refine T_skip <| T_seq ?_
    refine T_r mixed [(2, .call [] [(iv (((numS (dOf s)).1) - 1)), (iv 7)] [] (.tup [(iv ((((numS (dOf s)).1) - 1) / 7)), (iv ((((numS (dOf s)).1) - 1) % 7))]) [])] [ps 0 (sv (st s)), ps 2 (.opt 0 0), ps 4 (sv (st (tOf s))), ps 6 (sv (st (qOf s))), ps 7 (iv ((numS (dOf s)).1)), ps 9 (iv ((((numS (dOf s)).1) - 1) / 7)), ps 10 (iv ((((numS (dOf s)).1) - 1) % 7)), pb 0 25 [(iv 0), (iv 0)]] (obs_cons (by simp only [InK]; omega : InK .i64 (((numS (dOf s)).1) - 1)) (obs_cons (pfloor_pc (((numS (dOf s)).1) - 1) (by omega) (by omega)) (obs_cons (rfl : Ren0 344 [(iv (((numS (dOf s)).1) - 1)), (iv 7)]) obs_nil))) ?_
    refine T_seq ?_
    refine T_r mixed [(5, .call [] [(iv ((((numS (dOf s)).1) - 1) % 7))] [] (iv (Pi.nat7 ((((numS (dOf s)).1) - 1) % 7))) [])] [ps 0 (sv (st s)), ps 2 (.opt 0 0), ps 4 (sv (st (tOf s))), ps 6 (sv (st (qOf s))), ps 7 (iv ((numS (dOf s)).1)), ps 11 (.opt 456 0), pb 0 25 [(iv 0), (iv 0)], pb 456 25 [(iv (((numS (dOf s)).1) - 1)), (iv ((12 * ((((numS (dOf s)).1) - 1) / 7)) + (Pi.nat7 ((((numS (dOf s)).1) - 1) % 7))))]] (obs_cons (by simp only [InK]; omega : InK .i64 (((numS (dOf s)).1) - 1)) (obs_cons (by simp only [InK]; omega : InK .i64 (12 * ((((numS (dOf s)).1) - 1) / 7))) (obs_cons (natural_pc ((((numS (dOf s)).1) - 1) % 7)) (obs_cons (rfl : Ren0 432 [(iv ((((numS (dOf s)).1) - 1) % 7))]) (obs_cons (by simp only [InK]; omega : InK .i64 ((12 * ((((numS (dOf s)).1) - 1) / 7)) + (Pi.nat7 ((((numS (dOf s)).1) - 1) % 7)))) obs_nil))))) ?_
    refine T_seq ?_
    refine T_r mixed [] [ps 0 (sv (st s)), ps 2 (.opt 0 0), ps 4 (sv (st (tOf s))), ps 6 (sv (st (qOf s))), ps 7 (iv ((numS (dOf s)).1)), ps 11 (.opt 456 0), ps 12 (nv ((qOf s).length)), pb 0 25 [(iv 0), (iv 0)], pb 456 25 [(iv (((numS (dOf s)).1) - 1)), (iv ((12 * ((((numS (dOf s)).1) - 1) / 7)) + (Pi.nat7 ((((numS (dOf s)).1) - 1) % 7))))]] (obs_nil) ?_
    refine T_seq <| T_block <| T_seq <| T_seq ?_
    by_cases h6 : (qOf s) = ([80] : List UInt8)
    · refine T_r mixed [(1, .val (.av (.bool (decide ((qOf s) = ([80] : List UInt8)))))), (3, .gd true (.no)), (4, .gd true (.no)), (5, .gd true (.call [] [(iv (((numS (dOf s)).1) - 1))] [] (bv (perfB (((numS (dOf s)).1) - 1))) [])), (6, .yes true)] [ps 0 (sv (st s)), ps 2 (.opt 0 0), ps 4 (sv (st (tOf s))), ps 6 (sv (st (qOf s))), ps 7 (iv ((numS (dOf s)).1)), ps 11 (.opt 456 0), ps 12 (nv ((qOf s).length)), ps 68 (bv (perfB (((numS (dOf s)).1) - 1))), pb 0 25 [(iv 0), (iv 0)], pb 456 25 [(iv (((numS (dOf s)).1) - 1)), (iv ((12 * ((((numS (dOf s)).1) - 1) / 7)) + (Pi.nat7 ((((numS (dOf s)).1) - 1) % 7))))]] (obs_cons (st_eq _ _ : ((st (qOf s)).toList == (st ([80] : List UInt8)).toList) = decide ((qOf s) = ([80] : List UInt8))) (obs_cons (decide_eq_true h6) (obs_cons (decide_eq_true h6) (obs_cons (by simp only [InK]; omega : InK .i64 (((numS (dOf s)).1) - 1)) (obs_cons (decide_eq_true h6) (obs_cons (perfect_pc (((numS (dOf s)).1) - 1) (by omega)) (obs_cons (rfl : Ren0 536 [(iv (((numS (dOf s)).1) - 1))]) (obs_cons (decide_eq_true h6) obs_nil)))))))) ?_
      by_cases h7 : (perfB (((numS (dOf s)).1) - 1)) = true
      · refine T_then (b := (perfB (((numS (dOf s)).1) - 1))) rfl h7 ?_
        refine T_skip ?_
        refine T_then (b := (perfB (((numS (dOf s)).1) - 1))) rfl h7 ?_
        refine T_skip <| T_blk <| T_seq <| T_seq ?_
        refine T_r mixed [] [ps 0 (sv (st s)), ps 2 (.opt 0 0), ps 11 (.opt 456 0), ps 134 (bv (decide ((((tOf s).length : Nat) : Int) < ((s.length : Nat) : Int)))), pb 0 25 [(iv 0), (iv 0)], pb 456 25 [(iv (((numS (dOf s)).1) - 1)), (iv ((12 * ((((numS (dOf s)).1) - 1) / 7)) + (Pi.nat7 ((((numS (dOf s)).1) - 1) % 7))))]] (obs_nil) ?_
        by_cases h8 : (((tOf s).length : Nat) : Int) < ((s.length : Nat) : Int)
        · refine T_th (decide_eq_true h8) ?_
          refine T_r mixed [] [ps 0 (sv (st s)), ps 2 (.opt 0 0), ps 11 (.opt 456 0), pb 0 25 [(iv 0), (iv 0)], pb 456 25 [(iv (0 - (((numS (dOf s)).1) - 1))), (iv (0 - ((12 * ((((numS (dOf s)).1) - 1) / 7)) + (Pi.nat7 ((((numS (dOf s)).1) - 1) % 7)))))]] (obs_cons (by simp only [InK]; omega : InK .i64 (0 - (((numS (dOf s)).1) - 1))) (obs_cons (by simp only [InK]; omega : InK .i64 (0 - ((12 * ((((numS (dOf s)).1) - 1) / 7)) + (Pi.nat7 ((((numS (dOf s)).1) - 1) % 7))))) obs_nil)) ?_
          refine T_seq <| T_seq ?_
          obtain ⟨x, hx⟩ : ∃ x, x = 0 - (((numS (dOf s)).1) - 1) := ⟨_, rfl⟩
          obtain ⟨y, hy⟩ : ∃ y, y = 0 - ((12 * ((((numS (dOf s)).1) - 1) / 7)) + (Pi.nat7 ((((numS (dOf s)).1) - 1) % 7))) := ⟨_, rfl⟩
          refine T_wk (Wk.eq (show _ = [ps 0 (sv (st s)), ps 2 (.opt 0 0), ps 11 (.opt 456 0), pb 0 25 [(iv 0), (iv 0)], pb 456 25 [(iv x), (iv y)]] from by rw [hx, hy])) ?_
          refine T_r mixed [(1, .call [] [(.agg [(iv x), (iv y)])] [] (.tup [(sv (st ((nameS x y).1))), (iv ((nameS x y).2))]) [])] [ps 0 (sv (st s)), ps 2 (.opt 0 0), ps 11 (.opt 456 0), ps 13 (sv (st ((nameS x y).1))), ps 14 (iv ((nameS x y).2)), pb 0 25 [(iv 0), (iv 0)], pb 456 25 [(iv x), (iv y)]] (obs_cons (name_pc x y (by unfold Pi.I64; omega) (by unfold Pi.I64; omega)) (obs_cons (rfl : Ren0 688 [(.agg [(iv x), (iv y)])]) obs_nil)) ?_
          refine T_seq ?_
          by_cases h9 : ((nameS x y).2) = 0
          · refine T_r mixed [(3, .gd false (.no)), (4, .gd false (.no)), (5, .gd false (.val (.av (.bool (!decide (((nameS x y).1) = s)))))), (6, .yes false)] [ps 2 (.opt 0 0), ps 11 (.opt 456 0), ps 154 (bv (!(decide (((nameS x y).1) = s)))), pb 0 25 [(iv 0), (iv 0)], pb 456 25 [(iv x), (iv y)]] (obs_cons (bt h9) (obs_cons (bt h9) (obs_cons (bt h9) (obs_cons (st_ne _ _ : (!((st ((nameS x y).1)).toList == (st s).toList)) = !decide (((nameS x y).1) = s)) (obs_cons (bt h9) obs_nil))))) ?_
            by_cases h10 : ((nameS x y).1) = s
            · refine T_el (bt h10) ?_
              refine T_skip <| T_seq ?_
              refine T_r mixed [] [ps 2 (.opt 0 0), ps 3 (iv 0), pb 0 25 [(iv x), (iv y)]] (obs_nil) ?_
              rw [(named_some (s := s) h1 h2 h3 h4 h5 (val_P h6 h7) (j := (x, y)) (by unfold jOf stepsOf; rw [if_pos (by omega)]; exact Prod.ext (by show _ = x; omega) (by show _ = y; omega))).trans (checked_yes h9 h10)]
              exact T_ret fun cx_ a_ hI_ => rt hc0 [ps 2 (.opt 0 0), ps 3 (iv 0), pb 0 25 [(iv x), (iv y)]] [0] hI_
            refine T_th (bf h10) ?_
            refine T_seq ?_
            refine T_r mixed [] [ps 2 (.opt 0 0), ps 3 (iv 2), pb 0 25 [(iv 0), (iv 0)]] (obs_nil) ?_
            rw [(named_some (s := s) h1 h2 h3 h4 h5 (val_P h6 h7) (j := (x, y)) (by unfold jOf stepsOf; rw [if_pos (by omega)]; exact Prod.ext (by show _ = x; omega) (by show _ = y; omega))).trans (checked_no2 h10)]
            exact T_ret fun cx_ a_ hI_ => rt hc0 [ps 2 (.opt 0 0), ps 3 (iv 2), pb 0 25 [(iv 0), (iv 0)]] [0] hI_
          refine T_r mixed [(3, .gd true .no), (4, .gd true .no), (5, .gd true .no), (6, .yes true)] [ps 2 (.opt 0 0), ps 11 (.opt 456 0), ps 154 (bv true), pb 0 25 [(iv 0), (iv 0)], pb 456 25 [(iv x), (iv y)]] (obs_cons (bf h9) (obs_cons (bf h9) (obs_cons (bf h9) (obs_cons (bf h9) obs_nil)))) ?_
          refine T_then (b := true) rfl rfl ?_
          refine T_seq ?_
          refine T_r mixed [] [ps 2 (.opt 0 0), ps 3 (iv 2), pb 0 25 [(iv 0), (iv 0)]] (obs_nil) ?_
          rw [(named_some (s := s) h1 h2 h3 h4 h5 (val_P h6 h7) (j := (x, y)) (by unfold jOf stepsOf; rw [if_pos (by omega)]; exact Prod.ext (by show _ = x; omega) (by show _ = y; omega))).trans (checked_no1 h9)]
          exact T_ret fun cx_ a_ hI_ => rt hc0 [ps 2 (.opt 0 0), ps 3 (iv 2), pb 0 25 [(iv 0), (iv 0)]] [0] hI_
        refine T_el (decide_eq_false h8) ?_
        refine T_skip <| T_seq <| T_seq ?_
        obtain ⟨x, hx⟩ : ∃ x, x = ((numS (dOf s)).1) - 1 := ⟨_, rfl⟩
        obtain ⟨y, hy⟩ : ∃ y, y = (12 * ((((numS (dOf s)).1) - 1) / 7)) + (Pi.nat7 ((((numS (dOf s)).1) - 1) % 7)) := ⟨_, rfl⟩
        refine T_wk (Wk.eq (show _ = [ps 0 (sv (st s)), ps 2 (.opt 0 0), ps 11 (.opt 456 0), ps 134 (bv (decide ((((tOf s).length : Nat) : Int) < ((s.length : Nat) : Int)))), pb 0 25 [(iv 0), (iv 0)], pb 456 25 [(iv x), (iv y)]] from by rw [hx, hy])) ?_
        refine T_r mixed [(1, .call [] [(.agg [(iv x), (iv y)])] [] (.tup [(sv (st ((nameS x y).1))), (iv ((nameS x y).2))]) [])] [ps 0 (sv (st s)), ps 2 (.opt 0 0), ps 11 (.opt 456 0), ps 13 (sv (st ((nameS x y).1))), ps 14 (iv ((nameS x y).2)), pb 0 25 [(iv 0), (iv 0)], pb 456 25 [(iv x), (iv y)]] (obs_cons (name_pc x y (by unfold Pi.I64; omega) (by unfold Pi.I64; omega)) (obs_cons (rfl : Ren0 608 [(.agg [(iv x), (iv y)])]) obs_nil)) ?_
        refine T_seq ?_
        by_cases h11 : ((nameS x y).2) = 0
        · refine T_r mixed [(3, .gd false (.no)), (4, .gd false (.no)), (5, .gd false (.val (.av (.bool (!decide (((nameS x y).1) = s)))))), (6, .yes false)] [ps 2 (.opt 0 0), ps 11 (.opt 456 0), ps 154 (bv (!(decide (((nameS x y).1) = s)))), pb 0 25 [(iv 0), (iv 0)], pb 456 25 [(iv x), (iv y)]] (obs_cons (bt h11) (obs_cons (bt h11) (obs_cons (bt h11) (obs_cons (st_ne _ _ : (!((st ((nameS x y).1)).toList == (st s).toList)) = !decide (((nameS x y).1) = s)) (obs_cons (bt h11) obs_nil))))) ?_
          by_cases h12 : ((nameS x y).1) = s
          · refine T_el (bt h12) ?_
            refine T_skip <| T_seq ?_
            refine T_r mixed [] [ps 2 (.opt 0 0), ps 3 (iv 0), pb 0 25 [(iv x), (iv y)]] (obs_nil) ?_
            rw [(named_some (s := s) h1 h2 h3 h4 h5 (val_P h6 h7) (j := (x, y)) (by unfold jOf stepsOf; rw [if_neg (by omega)]; exact Prod.ext (by show _ = x; omega) (by show _ = y; omega))).trans (checked_yes h11 h12)]
            exact T_ret fun cx_ a_ hI_ => rt hc0 [ps 2 (.opt 0 0), ps 3 (iv 0), pb 0 25 [(iv x), (iv y)]] [0] hI_
          refine T_th (bf h12) ?_
          refine T_seq ?_
          refine T_r mixed [] [ps 2 (.opt 0 0), ps 3 (iv 2), pb 0 25 [(iv 0), (iv 0)]] (obs_nil) ?_
          rw [(named_some (s := s) h1 h2 h3 h4 h5 (val_P h6 h7) (j := (x, y)) (by unfold jOf stepsOf; rw [if_neg (by omega)]; exact Prod.ext (by show _ = x; omega) (by show _ = y; omega))).trans (checked_no2 h12)]
          exact T_ret fun cx_ a_ hI_ => rt hc0 [ps 2 (.opt 0 0), ps 3 (iv 2), pb 0 25 [(iv 0), (iv 0)]] [0] hI_
        refine T_r mixed [(3, .gd true .no), (4, .gd true .no), (5, .gd true .no), (6, .yes true)] [ps 2 (.opt 0 0), ps 11 (.opt 456 0), ps 154 (bv true), pb 0 25 [(iv 0), (iv 0)], pb 456 25 [(iv x), (iv y)]] (obs_cons (bf h11) (obs_cons (bf h11) (obs_cons (bf h11) (obs_cons (bf h11) obs_nil)))) ?_
        refine T_then (b := true) rfl rfl ?_
        refine T_seq ?_
        refine T_r mixed [] [ps 2 (.opt 0 0), ps 3 (iv 2), pb 0 25 [(iv 0), (iv 0)]] (obs_nil) ?_
        rw [(named_some (s := s) h1 h2 h3 h4 h5 (val_P h6 h7) (j := (x, y)) (by unfold jOf stepsOf; rw [if_neg (by omega)]; exact Prod.ext (by show _ = x; omega) (by show _ = y; omega))).trans (checked_no1 h11)]
        exact T_ret fun cx_ a_ hI_ => rt hc0 [ps 2 (.opt 0 0), ps 3 (iv 2), pb 0 25 [(iv 0), (iv 0)]] [0] hI_
      refine T_else (b := (perfB (((numS (dOf s)).1) - 1))) rfl (Bool.eq_false_iff.2 h7) ?_
      by_cases h13 : (qOf s) = ([77] : List UInt8)
      · refine T_r mixed [(1, .val (.av (.bool (decide ((qOf s) = ([77] : List UInt8)))))), (3, .gd true (.no)), (4, .gd true (.no)), (5, .gd true (.call [] [(iv (((numS (dOf s)).1) - 1))] [] (bv (perfB (((numS (dOf s)).1) - 1))) [])), (6, .gd true (.no)), (7, .yes true)] [ps 0 (sv (st s)), ps 2 (.opt 0 0), ps 4 (sv (st (tOf s))), ps 6 (sv (st (qOf s))), ps 7 (iv ((numS (dOf s)).1)), ps 11 (.opt 456 0), ps 12 (nv ((qOf s).length)), ps 68 (bv (!(perfB (((numS (dOf s)).1) - 1)))), pb 0 25 [(iv 0), (iv 0)], pb 456 25 [(iv (((numS (dOf s)).1) - 1)), (iv ((12 * ((((numS (dOf s)).1) - 1) / 7)) + (Pi.nat7 ((((numS (dOf s)).1) - 1) % 7))))]] (obs_cons (st_eq _ _ : ((st (qOf s)).toList == (st ([77] : List UInt8)).toList) = decide ((qOf s) = ([77] : List UInt8))) (obs_cons (decide_eq_true h13) (obs_cons (decide_eq_true h13) (obs_cons (by simp only [InK]; omega : InK .i64 (((numS (dOf s)).1) - 1)) (obs_cons (decide_eq_true h13) (obs_cons (perfect_pc (((numS (dOf s)).1) - 1) (by omega)) (obs_cons (rfl : Ren0 600 [(iv (((numS (dOf s)).1) - 1))]) (obs_cons (decide_eq_true h13) (obs_cons (decide_eq_true h13) obs_nil))))))))) ?_
        refine T_th (congrArg Bool.not (Bool.eq_false_iff.2 h7)) ?_
        refine T_skip <| T_blk <| T_seq <| T_seq ?_
        refine T_r mixed [] [ps 0 (sv (st s)), ps 2 (.opt 0 0), ps 11 (.opt 456 0), ps 134 (bv (decide ((((tOf s).length : Nat) : Int) < ((s.length : Nat) : Int)))), pb 0 25 [(iv 0), (iv 0)], pb 456 25 [(iv (((numS (dOf s)).1) - 1)), (iv ((12 * ((((numS (dOf s)).1) - 1) / 7)) + (Pi.nat7 ((((numS (dOf s)).1) - 1) % 7))))]] (obs_nil) ?_
        by_cases h14 : (((tOf s).length : Nat) : Int) < ((s.length : Nat) : Int)
        · refine T_th (decide_eq_true h14) ?_
          refine T_r mixed [] [ps 0 (sv (st s)), ps 2 (.opt 0 0), ps 11 (.opt 456 0), pb 0 25 [(iv 0), (iv 0)], pb 456 25 [(iv (0 - (((numS (dOf s)).1) - 1))), (iv (0 - ((12 * ((((numS (dOf s)).1) - 1) / 7)) + (Pi.nat7 ((((numS (dOf s)).1) - 1) % 7)))))]] (obs_cons (by simp only [InK]; omega : InK .i64 (0 - (((numS (dOf s)).1) - 1))) (obs_cons (by simp only [InK]; omega : InK .i64 (0 - ((12 * ((((numS (dOf s)).1) - 1) / 7)) + (Pi.nat7 ((((numS (dOf s)).1) - 1) % 7))))) obs_nil)) ?_
          refine T_seq <| T_seq ?_
          obtain ⟨x, hx⟩ : ∃ x, x = 0 - (((numS (dOf s)).1) - 1) := ⟨_, rfl⟩
          obtain ⟨y, hy⟩ : ∃ y, y = 0 - ((12 * ((((numS (dOf s)).1) - 1) / 7)) + (Pi.nat7 ((((numS (dOf s)).1) - 1) % 7))) := ⟨_, rfl⟩
          refine T_wk (Wk.eq (show _ = [ps 0 (sv (st s)), ps 2 (.opt 0 0), ps 11 (.opt 456 0), pb 0 25 [(iv 0), (iv 0)], pb 456 25 [(iv x), (iv y)]] from by rw [hx, hy])) ?_
          refine T_r mixed [(1, .call [] [(.agg [(iv x), (iv y)])] [] (.tup [(sv (st ((nameS x y).1))), (iv ((nameS x y).2))]) [])] [ps 0 (sv (st s)), ps 2 (.opt 0 0), ps 11 (.opt 456 0), ps 13 (sv (st ((nameS x y).1))), ps 14 (iv ((nameS x y).2)), pb 0 25 [(iv 0), (iv 0)], pb 456 25 [(iv x), (iv y)]] (obs_cons (name_pc x y (by unfold Pi.I64; omega) (by unfold Pi.I64; omega)) (obs_cons (rfl : Ren0 760 [(.agg [(iv x), (iv y)])]) obs_nil)) ?_
          refine T_seq ?_
          by_cases h15 : ((nameS x y).2) = 0
          · refine T_r mixed [(3, .gd false (.no)), (4, .gd false (.no)), (5, .gd false (.val (.av (.bool (!decide (((nameS x y).1) = s)))))), (6, .yes false)] [ps 2 (.opt 0 0), ps 11 (.opt 456 0), ps 154 (bv (!(decide (((nameS x y).1) = s)))), pb 0 25 [(iv 0), (iv 0)], pb 456 25 [(iv x), (iv y)]] (obs_cons (bt h15) (obs_cons (bt h15) (obs_cons (bt h15) (obs_cons (st_ne _ _ : (!((st ((nameS x y).1)).toList == (st s).toList)) = !decide (((nameS x y).1) = s)) (obs_cons (bt h15) obs_nil))))) ?_
            by_cases h16 : ((nameS x y).1) = s
            · refine T_el (bt h16) ?_
              refine T_skip <| T_seq ?_
              refine T_r mixed [] [ps 2 (.opt 0 0), ps 3 (iv 0), pb 0 25 [(iv x), (iv y)]] (obs_nil) ?_
              rw [(named_some (s := s) h1 h2 h3 h4 h5 (val_M h13 h7) (j := (x, y)) (by unfold jOf stepsOf; rw [if_pos (by omega)]; exact Prod.ext (by show _ = x; omega) (by show _ = y; omega))).trans (checked_yes h15 h16)]
              exact T_ret fun cx_ a_ hI_ => rt hc0 [ps 2 (.opt 0 0), ps 3 (iv 0), pb 0 25 [(iv x), (iv y)]] [0] hI_
            refine T_th (bf h16) ?_
            refine T_seq ?_
            refine T_r mixed [] [ps 2 (.opt 0 0), ps 3 (iv 2), pb 0 25 [(iv 0), (iv 0)]] (obs_nil) ?_
            rw [(named_some (s := s) h1 h2 h3 h4 h5 (val_M h13 h7) (j := (x, y)) (by unfold jOf stepsOf; rw [if_pos (by omega)]; exact Prod.ext (by show _ = x; omega) (by show _ = y; omega))).trans (checked_no2 h16)]
            exact T_ret fun cx_ a_ hI_ => rt hc0 [ps 2 (.opt 0 0), ps 3 (iv 2), pb 0 25 [(iv 0), (iv 0)]] [0] hI_
          refine T_r mixed [(3, .gd true .no), (4, .gd true .no), (5, .gd true .no), (6, .yes true)] [ps 2 (.opt 0 0), ps 11 (.opt 456 0), ps 154 (bv true), pb 0 25 [(iv 0), (iv 0)], pb 456 25 [(iv x), (iv y)]] (obs_cons (bf h15) (obs_cons (bf h15) (obs_cons (bf h15) (obs_cons (bf h15) obs_nil)))) ?_
          refine T_then (b := true) rfl rfl ?_
          refine T_seq ?_
          refine T_r mixed [] [ps 2 (.opt 0 0), ps 3 (iv 2), pb 0 25 [(iv 0), (iv 0)]] (obs_nil) ?_
          rw [(named_some (s := s) h1 h2 h3 h4 h5 (val_M h13 h7) (j := (x, y)) (by unfold jOf stepsOf; rw [if_pos (by omega)]; exact Prod.ext (by show _ = x; omega) (by show _ = y; omega))).trans (checked_no1 h15)]
          exact T_ret fun cx_ a_ hI_ => rt hc0 [ps 2 (.opt 0 0), ps 3 (iv 2), pb 0 25 [(iv 0), (iv 0)]] [0] hI_
        refine T_el (decide_eq_false h14) ?_
        refine T_skip <| T_seq <| T_seq ?_
        obtain ⟨x, hx⟩ : ∃ x, x = ((numS (dOf s)).1) - 1 := ⟨_, rfl⟩
        obtain ⟨y, hy⟩ : ∃ y, y = (12 * ((((numS (dOf s)).1) - 1) / 7)) + (Pi.nat7 ((((numS (dOf s)).1) - 1) % 7)) := ⟨_, rfl⟩
        refine T_wk (Wk.eq (show _ = [ps 0 (sv (st s)), ps 2 (.opt 0 0), ps 11 (.opt 456 0), ps 134 (bv (decide ((((tOf s).length : Nat) : Int) < ((s.length : Nat) : Int)))), pb 0 25 [(iv 0), (iv 0)], pb 456 25 [(iv x), (iv y)]] from by rw [hx, hy])) ?_
        refine T_r mixed [(1, .call [] [(.agg [(iv x), (iv y)])] [] (.tup [(sv (st ((nameS x y).1))), (iv ((nameS x y).2))]) [])] [ps 0 (sv (st s)), ps 2 (.opt 0 0), ps 11 (.opt 456 0), ps 13 (sv (st ((nameS x y).1))), ps 14 (iv ((nameS x y).2)), pb 0 25 [(iv 0), (iv 0)], pb 456 25 [(iv x), (iv y)]] (obs_cons (name_pc x y (by unfold Pi.I64; omega) (by unfold Pi.I64; omega)) (obs_cons (rfl : Ren0 680 [(.agg [(iv x), (iv y)])]) obs_nil)) ?_
        refine T_seq ?_
        by_cases h17 : ((nameS x y).2) = 0
        · refine T_r mixed [(3, .gd false (.no)), (4, .gd false (.no)), (5, .gd false (.val (.av (.bool (!decide (((nameS x y).1) = s)))))), (6, .yes false)] [ps 2 (.opt 0 0), ps 11 (.opt 456 0), ps 154 (bv (!(decide (((nameS x y).1) = s)))), pb 0 25 [(iv 0), (iv 0)], pb 456 25 [(iv x), (iv y)]] (obs_cons (bt h17) (obs_cons (bt h17) (obs_cons (bt h17) (obs_cons (st_ne _ _ : (!((st ((nameS x y).1)).toList == (st s).toList)) = !decide (((nameS x y).1) = s)) (obs_cons (bt h17) obs_nil))))) ?_
          by_cases h18 : ((nameS x y).1) = s
          · refine T_el (bt h18) ?_
            refine T_skip <| T_seq ?_
            refine T_r mixed [] [ps 2 (.opt 0 0), ps 3 (iv 0), pb 0 25 [(iv x), (iv y)]] (obs_nil) ?_
            rw [(named_some (s := s) h1 h2 h3 h4 h5 (val_M h13 h7) (j := (x, y)) (by unfold jOf stepsOf; rw [if_neg (by omega)]; exact Prod.ext (by show _ = x; omega) (by show _ = y; omega))).trans (checked_yes h17 h18)]
            exact T_ret fun cx_ a_ hI_ => rt hc0 [ps 2 (.opt 0 0), ps 3 (iv 0), pb 0 25 [(iv x), (iv y)]] [0] hI_
          refine T_th (bf h18) ?_
          refine T_seq ?_
          refine T_r mixed [] [ps 2 (.opt 0 0), ps 3 (iv 2), pb 0 25 [(iv 0), (iv 0)]] (obs_nil) ?_
          rw [(named_some (s := s) h1 h2 h3 h4 h5 (val_M h13 h7) (j := (x, y)) (by unfold jOf stepsOf; rw [if_neg (by omega)]; exact Prod.ext (by show _ = x; omega) (by show _ = y; omega))).trans (checked_no2 h18)]
          exact T_ret fun cx_ a_ hI_ => rt hc0 [ps 2 (.opt 0 0), ps 3 (iv 2), pb 0 25 [(iv 0), (iv 0)]] [0] hI_
        refine T_r mixed [(3, .gd true .no), (4, .gd true .no), (5, .gd true .no), (6, .yes true)] [ps 2 (.opt 0 0), ps 11 (.opt 456 0), ps 154 (bv true), pb 0 25 [(iv 0), (iv 0)], pb 456 25 [(iv x), (iv y)]] (obs_cons (bf h17) (obs_cons (bf h17) (obs_cons (bf h17) (obs_cons (bf h17) obs_nil)))) ?_
        refine T_then (b := true) rfl rfl ?_
        refine T_seq ?_
        refine T_r mixed [] [ps 2 (.opt 0 0), ps 3 (iv 2), pb 0 25 [(iv 0), (iv 0)]] (obs_nil) ?_
        rw [(named_some (s := s) h1 h2 h3 h4 h5 (val_M h13 h7) (j := (x, y)) (by unfold jOf stepsOf; rw [if_neg (by omega)]; exact Prod.ext (by show _ = x; omega) (by show _ = y; omega))).trans (checked_no1 h17)]
        exact T_ret fun cx_ a_ hI_ => rt hc0 [ps 2 (.opt 0 0), ps 3 (iv 2), pb 0 25 [(iv 0), (iv 0)]] [0] hI_
      refine T_r mixed [(1, .val (.av (.bool (decide ((qOf s) = ([77] : List UInt8)))))), (3, .gd false .no), (4, .gd false .no), (5, .gd false .no), (6, .gd false .no), (7, .yes false)] [ps 0 (sv (st s)), ps 2 (.opt 0 0), ps 4 (sv (st (tOf s))), ps 6 (sv (st (qOf s))), ps 7 (iv ((numS (dOf s)).1)), ps 11 (.opt 456 0), ps 12 (nv ((qOf s).length)), ps 68 (bv false), pb 0 25 [(iv 0), (iv 0)], pb 456 25 [(iv (((numS (dOf s)).1) - 1)), (iv ((12 * ((((numS (dOf s)).1) - 1) / 7)) + (Pi.nat7 ((((numS (dOf s)).1) - 1) % 7))))]] (obs_cons (st_eq _ _ : ((st (qOf s)).toList == (st ([77] : List UInt8)).toList) = decide ((qOf s) = ([77] : List UInt8))) (obs_cons (decide_eq_false h13) (obs_cons (decide_eq_false h13) (obs_cons (decide_eq_false h13) (obs_cons (decide_eq_false h13) (obs_cons (decide_eq_false h13) obs_nil)))))) ?_
      refine T_else (b := false) rfl rfl ?_
      refine T_seq ?_
      by_cases h19 : (qOf s) = ([109] : List UInt8)
      · refine T_r mixed [(1, .val (.av (.bool (decide ((qOf s) = ([109] : List UInt8)))))), (3, .gd true (.no)), (4, .gd true (.no)), (5, .gd true (.call [] [(iv (((numS (dOf s)).1) - 1))] [] (bv (perfB (((numS (dOf s)).1) - 1))) [])), (6, .gd true (.no)), (7, .yes true)] [ps 0 (sv (st s)), ps 2 (.opt 0 0), ps 4 (sv (st (tOf s))), ps 6 (sv (st (qOf s))), ps 7 (iv ((numS (dOf s)).1)), ps 11 (.opt 456 0), ps 12 (nv ((qOf s).length)), ps 84 (bv (!(perfB (((numS (dOf s)).1) - 1)))), pb 0 25 [(iv 0), (iv 0)], pb 456 25 [(iv (((numS (dOf s)).1) - 1)), (iv ((12 * ((((numS (dOf s)).1) - 1) / 7)) + (Pi.nat7 ((((numS (dOf s)).1) - 1) % 7))))]] (obs_cons (st_eq _ _ : ((st (qOf s)).toList == (st ([109] : List UInt8)).toList) = decide ((qOf s) = ([109] : List UInt8))) (obs_cons (decide_eq_true h19) (obs_cons (decide_eq_true h19) (obs_cons (by simp only [InK]; omega : InK .i64 (((numS (dOf s)).1) - 1)) (obs_cons (decide_eq_true h19) (obs_cons (perfect_pc (((numS (dOf s)).1) - 1) (by omega)) (obs_cons (rfl : Ren0 672 [(iv (((numS (dOf s)).1) - 1))]) (obs_cons (decide_eq_true h19) (obs_cons (decide_eq_true h19) obs_nil))))))))) ?_
        refine T_th (congrArg Bool.not (Bool.eq_false_iff.2 h7)) ?_
        refine T_r mixed [] [ps 0 (sv (st s)), ps 2 (.opt 0 0), ps 4 (sv (st (tOf s))), ps 11 (.opt 456 0), pb 0 25 [(iv 0), (iv 0)], pb 456 25 [(iv (((numS (dOf s)).1) - 1)), (iv (((12 * ((((numS (dOf s)).1) - 1) / 7)) + (Pi.nat7 ((((numS (dOf s)).1) - 1) % 7))) - 1))]] (obs_cons (by simp only [InK]; omega : InK .i64 (((12 * ((((numS (dOf s)).1) - 1) / 7)) + (Pi.nat7 ((((numS (dOf s)).1) - 1) % 7))) - 1)) obs_nil) ?_
        refine T_blk <| T_seq <| T_seq ?_
        refine T_r mixed [] [ps 0 (sv (st s)), ps 2 (.opt 0 0), ps 11 (.opt 456 0), ps 134 (bv (decide ((((tOf s).length : Nat) : Int) < ((s.length : Nat) : Int)))), pb 0 25 [(iv 0), (iv 0)], pb 456 25 [(iv (((numS (dOf s)).1) - 1)), (iv (((12 * ((((numS (dOf s)).1) - 1) / 7)) + (Pi.nat7 ((((numS (dOf s)).1) - 1) % 7))) - 1))]] (obs_nil) ?_
        by_cases h20 : (((tOf s).length : Nat) : Int) < ((s.length : Nat) : Int)
        · refine T_th (decide_eq_true h20) ?_
          refine T_r mixed [] [ps 0 (sv (st s)), ps 2 (.opt 0 0), ps 11 (.opt 456 0), pb 0 25 [(iv 0), (iv 0)], pb 456 25 [(iv (0 - (((numS (dOf s)).1) - 1))), (iv (0 - (((12 * ((((numS (dOf s)).1) - 1) / 7)) + (Pi.nat7 ((((numS (dOf s)).1) - 1) % 7))) - 1)))]] (obs_cons (by simp only [InK]; omega : InK .i64 (0 - (((numS (dOf s)).1) - 1))) (obs_cons (by simp only [InK]; omega : InK .i64 (0 - (((12 * ((((numS (dOf s)).1) - 1) / 7)) + (Pi.nat7 ((((numS (dOf s)).1) - 1) % 7))) - 1))) obs_nil)) ?_
          refine T_seq <| T_seq ?_
          obtain ⟨x, hx⟩ : ∃ x, x = 0 - (((numS (dOf s)).1) - 1) := ⟨_, rfl⟩
          obtain ⟨y, hy⟩ : ∃ y, y = 0 - (((12 * ((((numS (dOf s)).1) - 1) / 7)) + (Pi.nat7 ((((numS (dOf s)).1) - 1) % 7))) - 1) := ⟨_, rfl⟩
          refine T_wk (Wk.eq (show _ = [ps 0 (sv (st s)), ps 2 (.opt 0 0), ps 11 (.opt 456 0), pb 0 25 [(iv 0), (iv 0)], pb 456 25 [(iv x), (iv y)]] from by rw [hx, hy])) ?_
          refine T_r mixed [(1, .call [] [(.agg [(iv x), (iv y)])] [] (.tup [(sv (st ((nameS x y).1))), (iv ((nameS x y).2))]) [])] [ps 0 (sv (st s)), ps 2 (.opt 0 0), ps 11 (.opt 456 0), ps 13 (sv (st ((nameS x y).1))), ps 14 (iv ((nameS x y).2)), pb 0 25 [(iv 0), (iv 0)], pb 456 25 [(iv x), (iv y)]] (obs_cons (name_pc x y (by unfold Pi.I64; omega) (by unfold Pi.I64; omega)) (obs_cons (rfl : Ren0 872 [(.agg [(iv x), (iv y)])]) obs_nil)) ?_
          refine T_seq ?_
          by_cases h21 : ((nameS x y).2) = 0
          · refine T_r mixed [(3, .gd false (.no)), (4, .gd false (.no)), (5, .gd false (.val (.av (.bool (!decide (((nameS x y).1) = s)))))), (6, .yes false)] [ps 2 (.opt 0 0), ps 11 (.opt 456 0), ps 154 (bv (!(decide (((nameS x y).1) = s)))), pb 0 25 [(iv 0), (iv 0)], pb 456 25 [(iv x), (iv y)]] (obs_cons (bt h21) (obs_cons (bt h21) (obs_cons (bt h21) (obs_cons (st_ne _ _ : (!((st ((nameS x y).1)).toList == (st s).toList)) = !decide (((nameS x y).1) = s)) (obs_cons (bt h21) obs_nil))))) ?_
            by_cases h22 : ((nameS x y).1) = s
            · refine T_el (bt h22) ?_
              refine T_skip <| T_seq ?_
              refine T_r mixed [] [ps 2 (.opt 0 0), ps 3 (iv 0), pb 0 25 [(iv x), (iv y)]] (obs_nil) ?_
              rw [(named_some (s := s) h1 h2 h3 h4 h5 (val_m (fun c => h7 c.2) (fun c => h13 c.1) h19 h7) (j := (x, y)) (by unfold jOf stepsOf; rw [if_pos (by omega)]; exact Prod.ext (by show _ = x; omega) (by show _ = y; omega))).trans (checked_yes h21 h22)]
              exact T_ret fun cx_ a_ hI_ => rt hc0 [ps 2 (.opt 0 0), ps 3 (iv 0), pb 0 25 [(iv x), (iv y)]] [0] hI_
            refine T_th (bf h22) ?_
            refine T_seq ?_
            refine T_r mixed [] [ps 2 (.opt 0 0), ps 3 (iv 2), pb 0 25 [(iv 0), (iv 0)]] (obs_nil) ?_
            rw [(named_some (s := s) h1 h2 h3 h4 h5 (val_m (fun c => h7 c.2) (fun c => h13 c.1) h19 h7) (j := (x, y)) (by unfold jOf stepsOf; rw [if_pos (by omega)]; exact Prod.ext (by show _ = x; omega) (by show _ = y; omega))).trans (checked_no2 h22)]
            exact T_ret fun cx_ a_ hI_ => rt hc0 [ps 2 (.opt 0 0), ps 3 (iv 2), pb 0 25 [(iv 0), (iv 0)]] [0] hI_
          refine T_r mixed [(3, .gd true .no), (4, .gd true .no), (5, .gd true .no), (6, .yes true)] [ps 2 (.opt 0 0), ps 11 (.opt 456 0), ps 154 (bv true), pb 0 25 [(iv 0), (iv 0)], pb 456 25 [(iv x), (iv y)]] (obs_cons (bf h21) (obs_cons (bf h21) (obs_cons (bf h21) (obs_cons (bf h21) obs_nil)))) ?_
          refine T_then (b := true) rfl rfl ?_
          refine T_seq ?_
          refine T_r mixed [] [ps 2 (.opt 0 0), ps 3 (iv 2), pb 0 25 [(iv 0), (iv 0)]] (obs_nil) ?_
          rw [(named_some (s := s) h1 h2 h3 h4 h5 (val_m (fun c => h7 c.2) (fun c => h13 c.1) h19 h7) (j := (x, y)) (by unfold jOf stepsOf; rw [if_pos (by omega)]; exact Prod.ext (by show _ = x; omega) (by show _ = y; omega))).trans (checked_no1 h21)]
          exact T_ret fun cx_ a_ hI_ => rt hc0 [ps 2 (.opt 0 0), ps 3 (iv 2), pb 0 25 [(iv 0), (iv 0)]] [0] hI_
        refine T_el (decide_eq_false h20) ?_
        refine T_skip <| T_seq <| T_seq ?_
        obtain ⟨x, hx⟩ : ∃ x, x = ((numS (dOf s)).1) - 1 := ⟨_, rfl⟩
        obtain ⟨y, hy⟩ : ∃ y, y = ((12 * ((((numS (dOf s)).1) - 1) / 7)) + (Pi.nat7 ((((numS (dOf s)).1) - 1) % 7))) - 1 := ⟨_, rfl⟩
        refine T_wk (Wk.eq (show _ = [ps 0 (sv (st s)), ps 2 (.opt 0 0), ps 11 (.opt 456 0), ps 134 (bv (decide ((((tOf s).length : Nat) : Int) < ((s.length : Nat) : Int)))), pb 0 25 [(iv 0), (iv 0)], pb 456 25 [(iv x), (iv y)]] from by rw [hx, hy])) ?_
        refine T_r mixed [(1, .call [] [(.agg [(iv x), (iv y)])] [] (.tup [(sv (st ((nameS x y).1))), (iv ((nameS x y).2))]) [])] [ps 0 (sv (st s)), ps 2 (.opt 0 0), ps 11 (.opt 456 0), ps 13 (sv (st ((nameS x y).1))), ps 14 (iv ((nameS x y).2)), pb 0 25 [(iv 0), (iv 0)], pb 456 25 [(iv x), (iv y)]] (obs_cons (name_pc x y (by unfold Pi.I64; omega) (by unfold Pi.I64; omega)) (obs_cons (rfl : Ren0 792 [(.agg [(iv x), (iv y)])]) obs_nil)) ?_
        refine T_seq ?_
        by_cases h23 : ((nameS x y).2) = 0
        · refine T_r mixed [(3, .gd false (.no)), (4, .gd false (.no)), (5, .gd false (.val (.av (.bool (!decide (((nameS x y).1) = s)))))), (6, .yes false)] [ps 2 (.opt 0 0), ps 11 (.opt 456 0), ps 154 (bv (!(decide (((nameS x y).1) = s)))), pb 0 25 [(iv 0), (iv 0)], pb 456 25 [(iv x), (iv y)]] (obs_cons (bt h23) (obs_cons (bt h23) (obs_cons (bt h23) (obs_cons (st_ne _ _ : (!((st ((nameS x y).1)).toList == (st s).toList)) = !decide (((nameS x y).1) = s)) (obs_cons (bt h23) obs_nil))))) ?_
          by_cases h24 : ((nameS x y).1) = s
          · refine T_el (bt h24) ?_
            refine T_skip <| T_seq ?_
            refine T_r mixed [] [ps 2 (.opt 0 0), ps 3 (iv 0), pb 0 25 [(iv x), (iv y)]] (obs_nil) ?_
            rw [(named_some (s := s) h1 h2 h3 h4 h5 (val_m (fun c => h7 c.2) (fun c => h13 c.1) h19 h7) (j := (x, y)) (by unfold jOf stepsOf; rw [if_neg (by omega)]; exact Prod.ext (by show _ = x; omega) (by show _ = y; omega))).trans (checked_yes h23 h24)]
            exact T_ret fun cx_ a_ hI_ => rt hc0 [ps 2 (.opt 0 0), ps 3 (iv 0), pb 0 25 [(iv x), (iv y)]] [0] hI_
          refine T_th (bf h24) ?_
          refine T_seq ?_
          refine T_r mixed [] [ps 2 (.opt 0 0), ps 3 (iv 2), pb 0 25 [(iv 0), (iv 0)]] (obs_nil) ?_
          rw [(named_some (s := s) h1 h2 h3 h4 h5 (val_m (fun c => h7 c.2) (fun c => h13 c.1) h19 h7) (j := (x, y)) (by unfold jOf stepsOf; rw [if_neg (by omega)]; exact Prod.ext (by show _ = x; omega) (by show _ = y; omega))).trans (checked_no2 h24)]
          exact T_ret fun cx_ a_ hI_ => rt hc0 [ps 2 (.opt 0 0), ps 3 (iv 2), pb 0 25 [(iv 0), (iv 0)]] [0] hI_
        refine T_r mixed [(3, .gd true .no), (4, .gd true .no), (5, .gd true .no), (6, .yes true)] [ps 2 (.opt 0 0), ps 11 (.opt 456 0), ps 154 (bv true), pb 0 25 [(iv 0), (iv 0)], pb 456 25 [(iv x), (iv y)]] (obs_cons (bf h23) (obs_cons (bf h23) (obs_cons (bf h23) (obs_cons (bf h23) obs_nil)))) ?_
        refine T_then (b := true) rfl rfl ?_
        refine T_seq ?_
        refine T_r mixed [] [ps 2 (.opt 0 0), ps 3 (iv 2), pb 0 25 [(iv 0), (iv 0)]] (obs_nil) ?_
        rw [(named_some (s := s) h1 h2 h3 h4 h5 (val_m (fun c => h7 c.2) (fun c => h13 c.1) h19 h7) (j := (x, y)) (by unfold jOf stepsOf; rw [if_neg (by omega)]; exact Prod.ext (by show _ = x; omega) (by show _ = y; omega))).trans (checked_no1 h23)]
        exact T_ret fun cx_ a_ hI_ => rt hc0 [ps 2 (.opt 0 0), ps 3 (iv 2), pb 0 25 [(iv 0), (iv 0)]] [0] hI_
      refine T_r mixed [(1, .val (.av (.bool (decide ((qOf s) = ([109] : List UInt8)))))), (3, .gd false .no), (4, .gd false .no), (5, .gd false .no), (6, .gd false .no), (7, .yes false)] [ps 0 (sv (st s)), ps 2 (.opt 0 0), ps 4 (sv (st (tOf s))), ps 6 (sv (st (qOf s))), ps 7 (iv ((numS (dOf s)).1)), ps 11 (.opt 456 0), ps 12 (nv ((qOf s).length)), ps 84 (bv false), pb 0 25 [(iv 0), (iv 0)], pb 456 25 [(iv (((numS (dOf s)).1) - 1)), (iv ((12 * ((((numS (dOf s)).1) - 1) / 7)) + (Pi.nat7 ((((numS (dOf s)).1) - 1) % 7))))]] (obs_cons (st_eq _ _ : ((st (qOf s)).toList == (st ([109] : List UInt8)).toList) = decide ((qOf s) = ([109] : List UInt8))) (obs_cons (decide_eq_false h19) (obs_cons (decide_eq_false h19) (obs_cons (decide_eq_false h19) (obs_cons (decide_eq_false h19) (obs_cons (decide_eq_false h19) obs_nil)))))) ?_
      refine T_else (b := false) rfl rfl ?_
      refine T_seq ?_
      refine T_r mixed [(1, .call [] [(sv (st (qOf s))), (sv (st [65]))] [] (sv (st (Lib.trimS (qOf s) [65]))) []), (2, .val (.av (.bool (decide ((Lib.trimS (qOf s) [65]) = ([] : List UInt8))))))] [ps 0 (sv (st s)), ps 2 (.opt 0 0), ps 4 (sv (st (tOf s))), ps 6 (sv (st (qOf s))), ps 7 (iv ((numS (dOf s)).1)), ps 11 (.opt 456 0), ps 12 (nv ((qOf s).length)), ps 97 (bv (decide ((Lib.trimS (qOf s) [65]) = ([] : List UInt8)))), pb 0 25 [(iv 0), (iv 0)], pb 456 25 [(iv (((numS (dOf s)).1) - 1)), (iv ((12 * ((((numS (dOf s)).1) - 1) / 7)) + (Pi.nat7 ((((numS (dOf s)).1) - 1) % 7))))]] (obs_cons (trim_pc (qOf s) [65] (by omega) (by decide) (one_ascii (by decide))) (obs_cons (rfl : [(sv (st (qOf s))), (sv (st ([65] : List UInt8)))] = renL (sigi [] 712) [(sv (st (qOf s))), (sv (st [65]))]) (obs_cons (st_eq _ _ : ((st (Lib.trimS (qOf s) [65])).toList == (st ([] : List UInt8)).toList) = decide ((Lib.trimS (qOf s) [65]) = ([] : List UInt8))) obs_nil))) ?_
      by_cases h25 : (Lib.trimS (qOf s) [65]) = ([] : List UInt8)
      · refine T_th (decide_eq_true h25) ?_
        refine T_r mixed [] [ps 0 (sv (st s)), ps 2 (.opt 0 0), ps 4 (sv (st (tOf s))), ps 11 (.opt 456 0), pb 0 25 [(iv 0), (iv 0)], pb 456 25 [(iv (((numS (dOf s)).1) - 1)), (iv (((12 * ((((numS (dOf s)).1) - 1) / 7)) + (Pi.nat7 ((((numS (dOf s)).1) - 1) % 7))) + (((qOf s).length : Nat) : Int)))]] (obs_cons (by simp only [InK]; omega : InK .i64 (((12 * ((((numS (dOf s)).1) - 1) / 7)) + (Pi.nat7 ((((numS (dOf s)).1) - 1) % 7))) + (((qOf s).length : Nat) : Int))) obs_nil) ?_
        refine T_blk <| T_seq <| T_seq ?_
        refine T_r mixed [] [ps 0 (sv (st s)), ps 2 (.opt 0 0), ps 11 (.opt 456 0), ps 134 (bv (decide ((((tOf s).length : Nat) : Int) < ((s.length : Nat) : Int)))), pb 0 25 [(iv 0), (iv 0)], pb 456 25 [(iv (((numS (dOf s)).1) - 1)), (iv (((12 * ((((numS (dOf s)).1) - 1) / 7)) + (Pi.nat7 ((((numS (dOf s)).1) - 1) % 7))) + (((qOf s).length : Nat) : Int)))]] (obs_nil) ?_
        by_cases h26 : (((tOf s).length : Nat) : Int) < ((s.length : Nat) : Int)
        · refine T_th (decide_eq_true h26) ?_
          refine T_r mixed [] [ps 0 (sv (st s)), ps 2 (.opt 0 0), ps 11 (.opt 456 0), pb 0 25 [(iv 0), (iv 0)], pb 456 25 [(iv (0 - (((numS (dOf s)).1) - 1))), (iv (0 - (((12 * ((((numS (dOf s)).1) - 1) / 7)) + (Pi.nat7 ((((numS (dOf s)).1) - 1) % 7))) + (((qOf s).length : Nat) : Int))))]] (obs_cons (by simp only [InK]; omega : InK .i64 (0 - (((numS (dOf s)).1) - 1))) (obs_cons (by simp only [InK]; omega : InK .i64 (0 - (((12 * ((((numS (dOf s)).1) - 1) / 7)) + (Pi.nat7 ((((numS (dOf s)).1) - 1) % 7))) + (((qOf s).length : Nat) : Int)))) obs_nil)) ?_
          refine T_seq <| T_seq ?_
          obtain ⟨x, hx⟩ : ∃ x, x = 0 - (((numS (dOf s)).1) - 1) := ⟨_, rfl⟩
          obtain ⟨y, hy⟩ : ∃ y, y = 0 - (((12 * ((((numS (dOf s)).1) - 1) / 7)) + (Pi.nat7 ((((numS (dOf s)).1) - 1) % 7))) + (((qOf s).length : Nat) : Int)) := ⟨_, rfl⟩
          refine T_wk (Wk.eq (show _ = [ps 0 (sv (st s)), ps 2 (.opt 0 0), ps 11 (.opt 456 0), pb 0 25 [(iv 0), (iv 0)], pb 456 25 [(iv x), (iv y)]] from by rw [hx, hy])) ?_
          refine T_r mixed [(1, .call [] [(.agg [(iv x), (iv y)])] [] (.tup [(sv (st ((nameS x y).1))), (iv ((nameS x y).2))]) [])] [ps 0 (sv (st s)), ps 2 (.opt 0 0), ps 11 (.opt 456 0), ps 13 (sv (st ((nameS x y).1))), ps 14 (iv ((nameS x y).2)), pb 0 25 [(iv 0), (iv 0)], pb 456 25 [(iv x), (iv y)]] (obs_cons (name_pc x y (by unfold Pi.I64; omega) (by unfold Pi.I64; omega)) (obs_cons (rfl : Ren0 912 [(.agg [(iv x), (iv y)])]) obs_nil)) ?_
          refine T_seq ?_
          by_cases h27 : ((nameS x y).2) = 0
          · refine T_r mixed [(3, .gd false (.no)), (4, .gd false (.no)), (5, .gd false (.val (.av (.bool (!decide (((nameS x y).1) = s)))))), (6, .yes false)] [ps 2 (.opt 0 0), ps 11 (.opt 456 0), ps 154 (bv (!(decide (((nameS x y).1) = s)))), pb 0 25 [(iv 0), (iv 0)], pb 456 25 [(iv x), (iv y)]] (obs_cons (bt h27) (obs_cons (bt h27) (obs_cons (bt h27) (obs_cons (st_ne _ _ : (!((st ((nameS x y).1)).toList == (st s).toList)) = !decide (((nameS x y).1) = s)) (obs_cons (bt h27) obs_nil))))) ?_
            by_cases h28 : ((nameS x y).1) = s
            · refine T_el (bt h28) ?_
              refine T_skip <| T_seq ?_
              refine T_r mixed [] [ps 2 (.opt 0 0), ps 3 (iv 0), pb 0 25 [(iv x), (iv y)]] (obs_nil) ?_
              rw [(named_some (s := s) h1 h2 h3 h4 h5 (val_A (fun c => h7 c.2) (fun c => h13 c.1) (fun c => h19 c.1) h25) (j := (x, y)) (by unfold jOf stepsOf; rw [if_pos (by omega)]; exact Prod.ext (by show _ = x; omega) (by show _ = y; omega))).trans (checked_yes h27 h28)]
              exact T_ret fun cx_ a_ hI_ => rt hc0 [ps 2 (.opt 0 0), ps 3 (iv 0), pb 0 25 [(iv x), (iv y)]] [0] hI_
            refine T_th (bf h28) ?_
            refine T_seq ?_
            refine T_r mixed [] [ps 2 (.opt 0 0), ps 3 (iv 2), pb 0 25 [(iv 0), (iv 0)]] (obs_nil) ?_
            rw [(named_some (s := s) h1 h2 h3 h4 h5 (val_A (fun c => h7 c.2) (fun c => h13 c.1) (fun c => h19 c.1) h25) (j := (x, y)) (by unfold jOf stepsOf; rw [if_pos (by omega)]; exact Prod.ext (by show _ = x; omega) (by show _ = y; omega))).trans (checked_no2 h28)]
            exact T_ret fun cx_ a_ hI_ => rt hc0 [ps 2 (.opt 0 0), ps 3 (iv 2), pb 0 25 [(iv 0), (iv 0)]] [0] hI_
          refine T_r mixed [(3, .gd true .no), (4, .gd true .no), (5, .gd true .no), (6, .yes true)] [ps 2 (.opt 0 0), ps 11 (.opt 456 0), ps 154 (bv true), pb 0 25 [(iv 0), (iv 0)], pb 456 25 [(iv x), (iv y)]] (obs_cons (bf h27) (obs_cons (bf h27) (obs_cons (bf h27) (obs_cons (bf h27) obs_nil)))) ?_
          refine T_then (b := true) rfl rfl ?_
          refine T_seq ?_
          refine T_r mixed [] [ps 2 (.opt 0 0), ps 3 (iv 2), pb 0 25 [(iv 0), (iv 0)]] (obs_nil) ?_
          rw [(named_some (s := s) h1 h2 h3 h4 h5 (val_A (fun c => h7 c.2) (fun c => h13 c.1) (fun c => h19 c.1) h25) (j := (x, y)) (by unfold jOf stepsOf; rw [if_pos (by omega)]; exact Prod.ext (by show _ = x; omega) (by show _ = y; omega))).trans (checked_no1 h27)]
          exact T_ret fun cx_ a_ hI_ => rt hc0 [ps 2 (.opt 0 0), ps 3 (iv 2), pb 0 25 [(iv 0), (iv 0)]] [0] hI_
        refine T_el (decide_eq_false h26) ?_
        refine T_skip <| T_seq <| T_seq ?_
        obtain ⟨x, hx⟩ : ∃ x, x = ((numS (dOf s)).1) - 1 := ⟨_, rfl⟩
        obtain ⟨y, hy⟩ : ∃ y, y = ((12 * ((((numS (dOf s)).1) - 1) / 7)) + (Pi.nat7 ((((numS (dOf s)).1) - 1) % 7))) + (((qOf s).length : Nat) : Int) := ⟨_, rfl⟩
        refine T_wk (Wk.eq (show _ = [ps 0 (sv (st s)), ps 2 (.opt 0 0), ps 11 (.opt 456 0), ps 134 (bv (decide ((((tOf s).length : Nat) : Int) < ((s.length : Nat) : Int)))), pb 0 25 [(iv 0), (iv 0)], pb 456 25 [(iv x), (iv y)]] from by rw [hx, hy])) ?_
        refine T_r mixed [(1, .call [] [(.agg [(iv x), (iv y)])] [] (.tup [(sv (st ((nameS x y).1))), (iv ((nameS x y).2))]) [])] [ps 0 (sv (st s)), ps 2 (.opt 0 0), ps 11 (.opt 456 0), ps 13 (sv (st ((nameS x y).1))), ps 14 (iv ((nameS x y).2)), pb 0 25 [(iv 0), (iv 0)], pb 456 25 [(iv x), (iv y)]] (obs_cons (name_pc x y (by unfold Pi.I64; omega) (by unfold Pi.I64; omega)) (obs_cons (rfl : Ren0 832 [(.agg [(iv x), (iv y)])]) obs_nil)) ?_
        refine T_seq ?_
        by_cases h29 : ((nameS x y).2) = 0
        · refine T_r mixed [(3, .gd false (.no)), (4, .gd false (.no)), (5, .gd false (.val (.av (.bool (!decide (((nameS x y).1) = s)))))), (6, .yes false)] [ps 2 (.opt 0 0), ps 11 (.opt 456 0), ps 154 (bv (!(decide (((nameS x y).1) = s)))), pb 0 25 [(iv 0), (iv 0)], pb 456 25 [(iv x), (iv y)]] (obs_cons (bt h29) (obs_cons (bt h29) (obs_cons (bt h29) (obs_cons (st_ne _ _ : (!((st ((nameS x y).1)).toList == (st s).toList)) = !decide (((nameS x y).1) = s)) (obs_cons (bt h29) obs_nil))))) ?_
          by_cases h30 : ((nameS x y).1) = s
          · refine T_el (bt h30) ?_
            refine T_skip <| T_seq ?_
            refine T_r mixed [] [ps 2 (.opt 0 0), ps 3 (iv 0), pb 0 25 [(iv x), (iv y)]] (obs_nil) ?_
            rw [(named_some (s := s) h1 h2 h3 h4 h5 (val_A (fun c => h7 c.2) (fun c => h13 c.1) (fun c => h19 c.1) h25) (j := (x, y)) (by unfold jOf stepsOf; rw [if_neg (by omega)]; exact Prod.ext (by show _ = x; omega) (by show _ = y; omega))).trans (checked_yes h29 h30)]
            exact T_ret fun cx_ a_ hI_ => rt hc0 [ps 2 (.opt 0 0), ps 3 (iv 0), pb 0 25 [(iv x), (iv y)]] [0] hI_
          refine T_th (bf h30) ?_
          refine T_seq ?_
          refine T_r mixed [] [ps 2 (.opt 0 0), ps 3 (iv 2), pb 0 25 [(iv 0), (iv 0)]] (obs_nil) ?_
          rw [(named_some (s := s) h1 h2 h3 h4 h5 (val_A (fun c => h7 c.2) (fun c => h13 c.1) (fun c => h19 c.1) h25) (j := (x, y)) (by unfold jOf stepsOf; rw [if_neg (by omega)]; exact Prod.ext (by show _ = x; omega) (by show _ = y; omega))).trans (checked_no2 h30)]
          exact T_ret fun cx_ a_ hI_ => rt hc0 [ps 2 (.opt 0 0), ps 3 (iv 2), pb 0 25 [(iv 0), (iv 0)]] [0] hI_
        refine T_r mixed [(3, .gd true .no), (4, .gd true .no), (5, .gd true .no), (6, .yes true)] [ps 2 (.opt 0 0), ps 11 (.opt 456 0), ps 154 (bv true), pb 0 25 [(iv 0), (iv 0)], pb 456 25 [(iv x), (iv y)]] (obs_cons (bf h29) (obs_cons (bf h29) (obs_cons (bf h29) (obs_cons (bf h29) obs_nil)))) ?_
        refine T_then (b := true) rfl rfl ?_
        refine T_seq ?_
        refine T_r mixed [] [ps 2 (.opt 0 0), ps 3 (iv 2), pb 0 25 [(iv 0), (iv 0)]] (obs_nil) ?_
        rw [(named_some (s := s) h1 h2 h3 h4 h5 (val_A (fun c => h7 c.2) (fun c => h13 c.1) (fun c => h19 c.1) h25) (j := (x, y)) (by unfold jOf stepsOf; rw [if_neg (by omega)]; exact Prod.ext (by show _ = x; omega) (by show _ = y; omega))).trans (checked_no1 h29)]
        exact T_ret fun cx_ a_ hI_ => rt hc0 [ps 2 (.opt 0 0), ps 3 (iv 2), pb 0 25 [(iv 0), (iv 0)]] [0] hI_
      refine T_el (decide_eq_false h25) ?_
      refine T_seq ?_
      by_cases h31 : (Lib.trimS (qOf s) [100]) = ([] : List UInt8)
      · refine T_r mixed [(1, .call [] [(sv (st (qOf s))), (sv (st [100]))] [] (sv (st (Lib.trimS (qOf s) [100]))) []), (2, .val (.av (.bool (decide ((Lib.trimS (qOf s) [100]) = ([] : List UInt8)))))), (4, .gd true (.no)), (5, .gd true (.no)), (6, .gd true (.call [] [(iv (((numS (dOf s)).1) - 1))] [] (bv (perfB (((numS (dOf s)).1) - 1))) [])), (7, .yes true)] [ps 0 (sv (st s)), ps 2 (.opt 0 0), ps 4 (sv (st (tOf s))), ps 6 (sv (st (qOf s))), ps 11 (.opt 456 0), ps 12 (nv ((qOf s).length)), ps 106 (bv (perfB (((numS (dOf s)).1) - 1))), pb 0 25 [(iv 0), (iv 0)], pb 456 25 [(iv (((numS (dOf s)).1) - 1)), (iv ((12 * ((((numS (dOf s)).1) - 1) / 7)) + (Pi.nat7 ((((numS (dOf s)).1) - 1) % 7))))]] (obs_cons (trim_pc (qOf s) [100] (by omega) (by decide) (one_ascii (by decide))) (obs_cons (rfl : [(sv (st (qOf s))), (sv (st ([100] : List UInt8)))] = renL (sigi [] 744) [(sv (st (qOf s))), (sv (st [100]))]) (obs_cons (st_eq _ _ : ((st (Lib.trimS (qOf s) [100])).toList == (st ([] : List UInt8)).toList) = decide ((Lib.trimS (qOf s) [100]) = ([] : List UInt8))) (obs_cons (decide_eq_true h31) (obs_cons (decide_eq_true h31) (obs_cons (by simp only [InK]; omega : InK .i64 (((numS (dOf s)).1) - 1)) (obs_cons (decide_eq_true h31) (obs_cons (perfect_pc (((numS (dOf s)).1) - 1) (by omega)) (obs_cons (rfl : Ren0 784 [(iv (((numS (dOf s)).1) - 1))]) (obs_cons (decide_eq_true h31) obs_nil)))))))))) ?_
        refine T_else (b := (perfB (((numS (dOf s)).1) - 1))) rfl (Bool.eq_false_iff.2 h7) ?_
        refine T_seq ?_
        refine T_r mixed [(1, .call [] [(sv (st (qOf s))), (sv (st [100]))] [] (sv (st (Lib.trimS (qOf s) [100]))) []), (2, .val (.av (.bool (decide ((Lib.trimS (qOf s) [100]) = ([] : List UInt8))))))] [ps 0 (sv (st s)), ps 2 (.opt 0 0), ps 4 (sv (st (tOf s))), ps 11 (.opt 456 0), ps 12 (nv ((qOf s).length)), ps 120 (bv (decide ((Lib.trimS (qOf s) [100]) = ([] : List UInt8)))), pb 0 25 [(iv 0), (iv 0)], pb 456 25 [(iv (((numS (dOf s)).1) - 1)), (iv ((12 * ((((numS (dOf s)).1) - 1) / 7)) + (Pi.nat7 ((((numS (dOf s)).1) - 1) % 7))))]] (obs_cons (trim_pc (qOf s) [100] (by omega) (by decide) (one_ascii (by decide))) (obs_cons (rfl : [(sv (st (qOf s))), (sv (st ([100] : List UInt8)))] = renL (sigi [] 816) [(sv (st (qOf s))), (sv (st [100]))]) (obs_cons (st_eq _ _ : ((st (Lib.trimS (qOf s) [100])).toList == (st ([] : List UInt8)).toList) = decide ((Lib.trimS (qOf s) [100]) = ([] : List UInt8))) obs_nil))) ?_
        refine T_th (decide_eq_true h31) ?_
        refine T_r mixed [] [ps 0 (sv (st s)), ps 2 (.opt 0 0), ps 4 (sv (st (tOf s))), ps 11 (.opt 456 0), pb 0 25 [(iv 0), (iv 0)], pb 456 25 [(iv (((numS (dOf s)).1) - 1)), (iv (((12 * ((((numS (dOf s)).1) - 1) / 7)) + (Pi.nat7 ((((numS (dOf s)).1) - 1) % 7))) - ((((qOf s).length : Nat) : Int) + 1)))]] (obs_cons (by simp only [InK]; omega : InK .i64 ((((qOf s).length : Nat) : Int) + 1)) (obs_cons (by simp only [InK]; omega : InK .i64 (((12 * ((((numS (dOf s)).1) - 1) / 7)) + (Pi.nat7 ((((numS (dOf s)).1) - 1) % 7))) - ((((qOf s).length : Nat) : Int) + 1))) obs_nil)) ?_
        refine T_blk <| T_seq <| T_seq ?_
        refine T_r mixed [] [ps 0 (sv (st s)), ps 2 (.opt 0 0), ps 11 (.opt 456 0), ps 134 (bv (decide ((((tOf s).length : Nat) : Int) < ((s.length : Nat) : Int)))), pb 0 25 [(iv 0), (iv 0)], pb 456 25 [(iv (((numS (dOf s)).1) - 1)), (iv (((12 * ((((numS (dOf s)).1) - 1) / 7)) + (Pi.nat7 ((((numS (dOf s)).1) - 1) % 7))) - ((((qOf s).length : Nat) : Int) + 1)))]] (obs_nil) ?_
        by_cases h32 : (((tOf s).length : Nat) : Int) < ((s.length : Nat) : Int)
        · refine T_th (decide_eq_true h32) ?_
          refine T_r mixed [] [ps 0 (sv (st s)), ps 2 (.opt 0 0), ps 11 (.opt 456 0), pb 0 25 [(iv 0), (iv 0)], pb 456 25 [(iv (0 - (((numS (dOf s)).1) - 1))), (iv (0 - (((12 * ((((numS (dOf s)).1) - 1) / 7)) + (Pi.nat7 ((((numS (dOf s)).1) - 1) % 7))) - ((((qOf s).length : Nat) : Int) + 1))))]] (obs_cons (by simp only [InK]; omega : InK .i64 (0 - (((numS (dOf s)).1) - 1))) (obs_cons (by simp only [InK]; omega : InK .i64 (0 - (((12 * ((((numS (dOf s)).1) - 1) / 7)) + (Pi.nat7 ((((numS (dOf s)).1) - 1) % 7))) - ((((qOf s).length : Nat) : Int) + 1)))) obs_nil)) ?_
          refine T_seq <| T_seq ?_
          obtain ⟨x, hx⟩ : ∃ x, x = 0 - (((numS (dOf s)).1) - 1) := ⟨_, rfl⟩
          obtain ⟨y, hy⟩ : ∃ y, y = 0 - (((12 * ((((numS (dOf s)).1) - 1) / 7)) + (Pi.nat7 ((((numS (dOf s)).1) - 1) % 7))) - ((((qOf s).length : Nat) : Int) + 1)) := ⟨_, rfl⟩
          refine T_wk (Wk.eq (show _ = [ps 0 (sv (st s)), ps 2 (.opt 0 0), ps 11 (.opt 456 0), pb 0 25 [(iv 0), (iv 0)], pb 456 25 [(iv x), (iv y)]] from by rw [hx, hy])) ?_
          refine T_r mixed [(1, .call [] [(.agg [(iv x), (iv y)])] [] (.tup [(sv (st ((nameS x y).1))), (iv ((nameS x y).2))]) [])] [ps 0 (sv (st s)), ps 2 (.opt 0 0), ps 11 (.opt 456 0), ps 13 (sv (st ((nameS x y).1))), ps 14 (iv ((nameS x y).2)), pb 0 25 [(iv 0), (iv 0)], pb 456 25 [(iv x), (iv y)]] (obs_cons (name_pc x y (by unfold Pi.I64; omega) (by unfold Pi.I64; omega)) (obs_cons (rfl : Ren0 1024 [(.agg [(iv x), (iv y)])]) obs_nil)) ?_
          refine T_seq ?_
          by_cases h33 : ((nameS x y).2) = 0
          · refine T_r mixed [(3, .gd false (.no)), (4, .gd false (.no)), (5, .gd false (.val (.av (.bool (!decide (((nameS x y).1) = s)))))), (6, .yes false)] [ps 2 (.opt 0 0), ps 11 (.opt 456 0), ps 154 (bv (!(decide (((nameS x y).1) = s)))), pb 0 25 [(iv 0), (iv 0)], pb 456 25 [(iv x), (iv y)]] (obs_cons (bt h33) (obs_cons (bt h33) (obs_cons (bt h33) (obs_cons (st_ne _ _ : (!((st ((nameS x y).1)).toList == (st s).toList)) = !decide (((nameS x y).1) = s)) (obs_cons (bt h33) obs_nil))))) ?_
            by_cases h34 : ((nameS x y).1) = s
            · refine T_el (bt h34) ?_
              refine T_skip <| T_seq ?_
              refine T_r mixed [] [ps 2 (.opt 0 0), ps 3 (iv 0), pb 0 25 [(iv x), (iv y)]] (obs_nil) ?_
              rw [(named_some (s := s) h1 h2 h3 h4 h5 (val_dd (fun c => h7 c.2) (fun c => h13 c.1) (fun c => h19 c.1) h25 h31 h7) (j := (x, y)) (by unfold jOf stepsOf; rw [if_pos (by omega)]; exact Prod.ext (by show _ = x; omega) (by show _ = y; omega))).trans (checked_yes h33 h34)]
              exact T_ret fun cx_ a_ hI_ => rt hc0 [ps 2 (.opt 0 0), ps 3 (iv 0), pb 0 25 [(iv x), (iv y)]] [0] hI_
            refine T_th (bf h34) ?_
            refine T_seq ?_
            refine T_r mixed [] [ps 2 (.opt 0 0), ps 3 (iv 2), pb 0 25 [(iv 0), (iv 0)]] (obs_nil) ?_
            rw [(named_some (s := s) h1 h2 h3 h4 h5 (val_dd (fun c => h7 c.2) (fun c => h13 c.1) (fun c => h19 c.1) h25 h31 h7) (j := (x, y)) (by unfold jOf stepsOf; rw [if_pos (by omega)]; exact Prod.ext (by show _ = x; omega) (by show _ = y; omega))).trans (checked_no2 h34)]
            exact T_ret fun cx_ a_ hI_ => rt hc0 [ps 2 (.opt 0 0), ps 3 (iv 2), pb 0 25 [(iv 0), (iv 0)]] [0] hI_
          refine T_r mixed [(3, .gd true .no), (4, .gd true .no), (5, .gd true .no), (6, .yes true)] [ps 2 (.opt 0 0), ps 11 (.opt 456 0), ps 154 (bv true), pb 0 25 [(iv 0), (iv 0)], pb 456 25 [(iv x), (iv y)]] (obs_cons (bf h33) (obs_cons (bf h33) (obs_cons (bf h33) (obs_cons (bf h33) obs_nil)))) ?_
          refine T_then (b := true) rfl rfl ?_
          refine T_seq ?_
          refine T_r mixed [] [ps 2 (.opt 0 0), ps 3 (iv 2), pb 0 25 [(iv 0), (iv 0)]] (obs_nil) ?_
          rw [(named_some (s := s) h1 h2 h3 h4 h5 (val_dd (fun c => h7 c.2) (fun c => h13 c.1) (fun c => h19 c.1) h25 h31 h7) (j := (x, y)) (by unfold jOf stepsOf; rw [if_pos (by omega)]; exact Prod.ext (by show _ = x; omega) (by show _ = y; omega))).trans (checked_no1 h33)]
          exact T_ret fun cx_ a_ hI_ => rt hc0 [ps 2 (.opt 0 0), ps 3 (iv 2), pb 0 25 [(iv 0), (iv 0)]] [0] hI_
        refine T_el (decide_eq_false h32) ?_
        refine T_skip <| T_seq <| T_seq ?_
        obtain ⟨x, hx⟩ : ∃ x, x = ((numS (dOf s)).1) - 1 := ⟨_, rfl⟩
        obtain ⟨y, hy⟩ : ∃ y, y = ((12 * ((((numS (dOf s)).1) - 1) / 7)) + (Pi.nat7 ((((numS (dOf s)).1) - 1) % 7))) - ((((qOf s).length : Nat) : Int) + 1) := ⟨_, rfl⟩
        refine T_wk (Wk.eq (show _ = [ps 0 (sv (st s)), ps 2 (.opt 0 0), ps 11 (.opt 456 0), ps 134 (bv (decide ((((tOf s).length : Nat) : Int) < ((s.length : Nat) : Int)))), pb 0 25 [(iv 0), (iv 0)], pb 456 25 [(iv x), (iv y)]] from by rw [hx, hy])) ?_
        refine T_r mixed [(1, .call [] [(.agg [(iv x), (iv y)])] [] (.tup [(sv (st ((nameS x y).1))), (iv ((nameS x y).2))]) [])] [ps 0 (sv (st s)), ps 2 (.opt 0 0), ps 11 (.opt 456 0), ps 13 (sv (st ((nameS x y).1))), ps 14 (iv ((nameS x y).2)), pb 0 25 [(iv 0), (iv 0)], pb 456 25 [(iv x), (iv y)]] (obs_cons (name_pc x y (by unfold Pi.I64; omega) (by unfold Pi.I64; omega)) (obs_cons (rfl : Ren0 944 [(.agg [(iv x), (iv y)])]) obs_nil)) ?_
        refine T_seq ?_
        by_cases h35 : ((nameS x y).2) = 0
        · refine T_r mixed [(3, .gd false (.no)), (4, .gd false (.no)), (5, .gd false (.val (.av (.bool (!decide (((nameS x y).1) = s)))))), (6, .yes false)] [ps 2 (.opt 0 0), ps 11 (.opt 456 0), ps 154 (bv (!(decide (((nameS x y).1) = s)))), pb 0 25 [(iv 0), (iv 0)], pb 456 25 [(iv x), (iv y)]] (obs_cons (bt h35) (obs_cons (bt h35) (obs_cons (bt h35) (obs_cons (st_ne _ _ : (!((st ((nameS x y).1)).toList == (st s).toList)) = !decide (((nameS x y).1) = s)) (obs_cons (bt h35) obs_nil))))) ?_
          by_cases h36 : ((nameS x y).1) = s
          · refine T_el (bt h36) ?_
            refine T_skip <| T_seq ?_
            refine T_r mixed [] [ps 2 (.opt 0 0), ps 3 (iv 0), pb 0 25 [(iv x), (iv y)]] (obs_nil) ?_
            rw [(named_some (s := s) h1 h2 h3 h4 h5 (val_dd (fun c => h7 c.2) (fun c => h13 c.1) (fun c => h19 c.1) h25 h31 h7) (j := (x, y)) (by unfold jOf stepsOf; rw [if_neg (by omega)]; exact Prod.ext (by show _ = x; omega) (by show _ = y; omega))).trans (checked_yes h35 h36)]
            exact T_ret fun cx_ a_ hI_ => rt hc0 [ps 2 (.opt 0 0), ps 3 (iv 0), pb 0 25 [(iv x), (iv y)]] [0] hI_
          refine T_th (bf h36) ?_
          refine T_seq ?_
          refine T_r mixed [] [ps 2 (.opt 0 0), ps 3 (iv 2), pb 0 25 [(iv 0), (iv 0)]] (obs_nil) ?_
          rw [(named_some (s := s) h1 h2 h3 h4 h5 (val_dd (fun c => h7 c.2) (fun c => h13 c.1) (fun c => h19 c.1) h25 h31 h7) (j := (x, y)) (by unfold jOf stepsOf; rw [if_neg (by omega)]; exact Prod.ext (by show _ = x; omega) (by show _ = y; omega))).trans (checked_no2 h36)]
          exact T_ret fun cx_ a_ hI_ => rt hc0 [ps 2 (.opt 0 0), ps 3 (iv 2), pb 0 25 [(iv 0), (iv 0)]] [0] hI_
        refine T_r mixed [(3, .gd true .no), (4, .gd true .no), (5, .gd true .no), (6, .yes true)] [ps 2 (.opt 0 0), ps 11 (.opt 456 0), ps 154 (bv true), pb 0 25 [(iv 0), (iv 0)], pb 456 25 [(iv x), (iv y)]] (obs_cons (bf h35) (obs_cons (bf h35) (obs_cons (bf h35) (obs_cons (bf h35) obs_nil)))) ?_
        refine T_then (b := true) rfl rfl ?_
        refine T_seq ?_
        refine T_r mixed [] [ps 2 (.opt 0 0), ps 3 (iv 2), pb 0 25 [(iv 0), (iv 0)]] (obs_nil) ?_
        rw [(named_some (s := s) h1 h2 h3 h4 h5 (val_dd (fun c => h7 c.2) (fun c => h13 c.1) (fun c => h19 c.1) h25 h31 h7) (j := (x, y)) (by unfold jOf stepsOf; rw [if_neg (by omega)]; exact Prod.ext (by show _ = x; omega) (by show _ = y; omega))).trans (checked_no1 h35)]
        exact T_ret fun cx_ a_ hI_ => rt hc0 [ps 2 (.opt 0 0), ps 3 (iv 2), pb 0 25 [(iv 0), (iv 0)]] [0] hI_
      refine T_r mixed [(1, .call [] [(sv (st (qOf s))), (sv (st [100]))] [] (sv (st (Lib.trimS (qOf s) [100]))) []), (2, .val (.av (.bool (decide ((Lib.trimS (qOf s) [100]) = ([] : List UInt8)))))), (4, .gd false .no), (5, .gd false .no), (6, .gd false .no), (7, .yes false)] [ps 0 (sv (st s)), ps 2 (.opt 0 0), ps 4 (sv (st (tOf s))), ps 6 (sv (st (qOf s))), ps 11 (.opt 456 0), ps 12 (nv ((qOf s).length)), ps 106 (bv false), pb 0 25 [(iv 0), (iv 0)], pb 456 25 [(iv (((numS (dOf s)).1) - 1)), (iv ((12 * ((((numS (dOf s)).1) - 1) / 7)) + (Pi.nat7 ((((numS (dOf s)).1) - 1) % 7))))]] (obs_cons (trim_pc (qOf s) [100] (by omega) (by decide) (one_ascii (by decide))) (obs_cons (rfl : [(sv (st (qOf s))), (sv (st ([100] : List UInt8)))] = renL (sigi [] 744) [(sv (st (qOf s))), (sv (st [100]))]) (obs_cons (st_eq _ _ : ((st (Lib.trimS (qOf s) [100])).toList == (st ([] : List UInt8)).toList) = decide ((Lib.trimS (qOf s) [100]) = ([] : List UInt8))) (obs_cons (decide_eq_false h31) (obs_cons (decide_eq_false h31) (obs_cons (decide_eq_false h31) (obs_cons (decide_eq_false h31) obs_nil))))))) ?_
      refine T_else (b := false) rfl rfl ?_
      refine T_seq ?_
      refine T_r mixed [(1, .call [] [(sv (st (qOf s))), (sv (st [100]))] [] (sv (st (Lib.trimS (qOf s) [100]))) []), (2, .val (.av (.bool (decide ((Lib.trimS (qOf s) [100]) = ([] : List UInt8))))))] [ps 0 (sv (st s)), ps 2 (.opt 0 0), ps 4 (sv (st (tOf s))), ps 11 (.opt 456 0), ps 12 (nv ((qOf s).length)), ps 120 (bv (decide ((Lib.trimS (qOf s) [100]) = ([] : List UInt8)))), pb 0 25 [(iv 0), (iv 0)], pb 456 25 [(iv (((numS (dOf s)).1) - 1)), (iv ((12 * ((((numS (dOf s)).1) - 1) / 7)) + (Pi.nat7 ((((numS (dOf s)).1) - 1) % 7))))]] (obs_cons (trim_pc (qOf s) [100] (by omega) (by decide) (one_ascii (by decide))) (obs_cons (rfl : [(sv (st (qOf s))), (sv (st ([100] : List UInt8)))] = renL (sigi [] 816) [(sv (st (qOf s))), (sv (st [100]))]) (obs_cons (st_eq _ _ : ((st (Lib.trimS (qOf s) [100])).toList == (st ([] : List UInt8)).toList) = decide ((Lib.trimS (qOf s) [100]) = ([] : List UInt8))) obs_nil))) ?_
      refine T_el (decide_eq_false h31) ?_
      refine T_seq ?_
      refine T_r mixed [] [ps 2 (.opt 0 0), ps 3 (iv 2), pb 0 25 [(iv 0), (iv 0)]] (obs_nil) ?_
      rw [named_none (s := s) h1 h2 h3 h4 h5 (val_no (fun c => h7 c.2) (fun c => h13 c.1) (fun c => h19 c.1) h25 h31)]
      exact T_ret fun cx_ a_ hI_ => rt hc0 [ps 2 (.opt 0 0), ps 3 (iv 2), pb 0 25 [(iv 0), (iv 0)]] [0] hI_
    refine T_r mixed [(1, .val (.av (.bool (decide ((qOf s) = ([80] : List UInt8)))))), (3, .gd false .no), (4, .gd false .no), (5, .gd false .no), (6, .yes false)] [ps 0 (sv (st s)), ps 2 (.opt 0 0), ps 4 (sv (st (tOf s))), ps 6 (sv (st (qOf s))), ps 7 (iv ((numS (dOf s)).1)), ps 11 (.opt 456 0), ps 12 (nv ((qOf s).length)), ps 68 (bv false), pb 0 25 [(iv 0), (iv 0)], pb 456 25 [(iv (((numS (dOf s)).1) - 1)), (iv ((12 * ((((numS (dOf s)).1) - 1) / 7)) + (Pi.nat7 ((((numS (dOf s)).1) - 1) % 7))))]] (obs_cons (st_eq _ _ : ((st (qOf s)).toList == (st ([80] : List UInt8)).toList) = decide ((qOf s) = ([80] : List UInt8))) (obs_cons (decide_eq_false h6) (obs_cons (decide_eq_false h6) (obs_cons (decide_eq_false h6) (obs_cons (decide_eq_false h6) obs_nil))))) ?_
    refine T_else (b := false) rfl rfl ?_
    by_cases h37 : (qOf s) = ([77] : List UInt8)
    · refine T_r mixed [(1, .val (.av (.bool (decide ((qOf s) = ([77] : List UInt8)))))), (3, .gd true (.no)), (4, .gd true (.no)), (5, .gd true (.call [] [(iv (((numS (dOf s)).1) - 1))] [] (bv (perfB (((numS (dOf s)).1) - 1))) [])), (6, .gd true (.no)), (7, .yes true)] [ps 0 (sv (st s)), ps 2 (.opt 0 0), ps 4 (sv (st (tOf s))), ps 6 (sv (st (qOf s))), ps 7 (iv ((numS (dOf s)).1)), ps 11 (.opt 456 0), ps 12 (nv ((qOf s).length)), ps 68 (bv (!(perfB (((numS (dOf s)).1) - 1)))), pb 0 25 [(iv 0), (iv 0)], pb 456 25 [(iv (((numS (dOf s)).1) - 1)), (iv ((12 * ((((numS (dOf s)).1) - 1) / 7)) + (Pi.nat7 ((((numS (dOf s)).1) - 1) % 7))))]] (obs_cons (st_eq _ _ : ((st (qOf s)).toList == (st ([77] : List UInt8)).toList) = decide ((qOf s) = ([77] : List UInt8))) (obs_cons (decide_eq_true h37) (obs_cons (decide_eq_true h37) (obs_cons (by simp only [InK]; omega : InK .i64 (((numS (dOf s)).1) - 1)) (obs_cons (decide_eq_true h37) (obs_cons (perfect_pc (((numS (dOf s)).1) - 1) (by omega)) (obs_cons (rfl : Ren0 600 [(iv (((numS (dOf s)).1) - 1))]) (obs_cons (decide_eq_true h37) (obs_cons (decide_eq_true h37) obs_nil))))))))) ?_
      by_cases h38 : (perfB (((numS (dOf s)).1) - 1)) = true
      · refine T_el (congrArg Bool.not h38) ?_
        refine T_seq ?_
        by_cases h39 : (qOf s) = ([109] : List UInt8)
        · refine T_r mixed [(1, .val (.av (.bool (decide ((qOf s) = ([109] : List UInt8)))))), (3, .gd true (.no)), (4, .gd true (.no)), (5, .gd true (.call [] [(iv (((numS (dOf s)).1) - 1))] [] (bv (perfB (((numS (dOf s)).1) - 1))) [])), (6, .gd true (.no)), (7, .yes true)] [ps 0 (sv (st s)), ps 2 (.opt 0 0), ps 4 (sv (st (tOf s))), ps 6 (sv (st (qOf s))), ps 7 (iv ((numS (dOf s)).1)), ps 11 (.opt 456 0), ps 12 (nv ((qOf s).length)), ps 84 (bv (!(perfB (((numS (dOf s)).1) - 1)))), pb 0 25 [(iv 0), (iv 0)], pb 456 25 [(iv (((numS (dOf s)).1) - 1)), (iv ((12 * ((((numS (dOf s)).1) - 1) / 7)) + (Pi.nat7 ((((numS (dOf s)).1) - 1) % 7))))]] (obs_cons (st_eq _ _ : ((st (qOf s)).toList == (st ([109] : List UInt8)).toList) = decide ((qOf s) = ([109] : List UInt8))) (obs_cons (decide_eq_true h39) (obs_cons (decide_eq_true h39) (obs_cons (by simp only [InK]; omega : InK .i64 (((numS (dOf s)).1) - 1)) (obs_cons (decide_eq_true h39) (obs_cons (perfect_pc (((numS (dOf s)).1) - 1) (by omega)) (obs_cons (rfl : Ren0 672 [(iv (((numS (dOf s)).1) - 1))]) (obs_cons (decide_eq_true h39) (obs_cons (decide_eq_true h39) obs_nil))))))))) ?_
          refine T_el (congrArg Bool.not h38) ?_
          refine T_seq ?_
          refine T_r mixed [(1, .call [] [(sv (st (qOf s))), (sv (st [65]))] [] (sv (st (Lib.trimS (qOf s) [65]))) []), (2, .val (.av (.bool (decide ((Lib.trimS (qOf s) [65]) = ([] : List UInt8))))))] [ps 0 (sv (st s)), ps 2 (.opt 0 0), ps 4 (sv (st (tOf s))), ps 6 (sv (st (qOf s))), ps 7 (iv ((numS (dOf s)).1)), ps 11 (.opt 456 0), ps 12 (nv ((qOf s).length)), ps 97 (bv (decide ((Lib.trimS (qOf s) [65]) = ([] : List UInt8)))), pb 0 25 [(iv 0), (iv 0)], pb 456 25 [(iv (((numS (dOf s)).1) - 1)), (iv ((12 * ((((numS (dOf s)).1) - 1) / 7)) + (Pi.nat7 ((((numS (dOf s)).1) - 1) % 7))))]] (obs_cons (trim_pc (qOf s) [65] (by omega) (by decide) (one_ascii (by decide))) (obs_cons (rfl : [(sv (st (qOf s))), (sv (st ([65] : List UInt8)))] = renL (sigi [] 712) [(sv (st (qOf s))), (sv (st [65]))]) (obs_cons (st_eq _ _ : ((st (Lib.trimS (qOf s) [65])).toList == (st ([] : List UInt8)).toList) = decide ((Lib.trimS (qOf s) [65]) = ([] : List UInt8))) obs_nil))) ?_
          by_cases h40 : (Lib.trimS (qOf s) [65]) = ([] : List UInt8)
          · refine T_th (decide_eq_true h40) ?_
            refine T_r mixed [] [ps 0 (sv (st s)), ps 2 (.opt 0 0), ps 4 (sv (st (tOf s))), ps 11 (.opt 456 0), pb 0 25 [(iv 0), (iv 0)], pb 456 25 [(iv (((numS (dOf s)).1) - 1)), (iv (((12 * ((((numS (dOf s)).1) - 1) / 7)) + (Pi.nat7 ((((numS (dOf s)).1) - 1) % 7))) + (((qOf s).length : Nat) : Int)))]] (obs_cons (by simp only [InK]; omega : InK .i64 (((12 * ((((numS (dOf s)).1) - 1) / 7)) + (Pi.nat7 ((((numS (dOf s)).1) - 1) % 7))) + (((qOf s).length : Nat) : Int))) obs_nil) ?_
            refine T_blk <| T_seq <| T_seq ?_
            refine T_r mixed [] [ps 0 (sv (st s)), ps 2 (.opt 0 0), ps 11 (.opt 456 0), ps 134 (bv (decide ((((tOf s).length : Nat) : Int) < ((s.length : Nat) : Int)))), pb 0 25 [(iv 0), (iv 0)], pb 456 25 [(iv (((numS (dOf s)).1) - 1)), (iv (((12 * ((((numS (dOf s)).1) - 1) / 7)) + (Pi.nat7 ((((numS (dOf s)).1) - 1) % 7))) + (((qOf s).length : Nat) : Int)))]] (obs_nil) ?_
            by_cases h41 : (((tOf s).length : Nat) : Int) < ((s.length : Nat) : Int)
            · refine T_th (decide_eq_true h41) ?_
              refine T_r mixed [] [ps 0 (sv (st s)), ps 2 (.opt 0 0), ps 11 (.opt 456 0), pb 0 25 [(iv 0), (iv 0)], pb 456 25 [(iv (0 - (((numS (dOf s)).1) - 1))), (iv (0 - (((12 * ((((numS (dOf s)).1) - 1) / 7)) + (Pi.nat7 ((((numS (dOf s)).1) - 1) % 7))) + (((qOf s).length : Nat) : Int))))]] (obs_cons (by simp only [InK]; omega : InK .i64 (0 - (((numS (dOf s)).1) - 1))) (obs_cons (by simp only [InK]; omega : InK .i64 (0 - (((12 * ((((numS (dOf s)).1) - 1) / 7)) + (Pi.nat7 ((((numS (dOf s)).1) - 1) % 7))) + (((qOf s).length : Nat) : Int)))) obs_nil)) ?_
              refine T_seq <| T_seq ?_
              obtain ⟨x, hx⟩ : ∃ x, x = 0 - (((numS (dOf s)).1) - 1) := ⟨_, rfl⟩
              obtain ⟨y, hy⟩ : ∃ y, y = 0 - (((12 * ((((numS (dOf s)).1) - 1) / 7)) + (Pi.nat7 ((((numS (dOf s)).1) - 1) % 7))) + (((qOf s).length : Nat) : Int)) := ⟨_, rfl⟩
              refine T_wk (Wk.eq (show _ = [ps 0 (sv (st s)), ps 2 (.opt 0 0), ps 11 (.opt 456 0), pb 0 25 [(iv 0), (iv 0)], pb 456 25 [(iv x), (iv y)]] from by rw [hx, hy])) ?_
              refine T_r mixed [(1, .call [] [(.agg [(iv x), (iv y)])] [] (.tup [(sv (st ((nameS x y).1))), (iv ((nameS x y).2))]) [])] [ps 0 (sv (st s)), ps 2 (.opt 0 0), ps 11 (.opt 456 0), ps 13 (sv (st ((nameS x y).1))), ps 14 (iv ((nameS x y).2)), pb 0 25 [(iv 0), (iv 0)], pb 456 25 [(iv x), (iv y)]] (obs_cons (name_pc x y (by unfold Pi.I64; omega) (by unfold Pi.I64; omega)) (obs_cons (rfl : Ren0 912 [(.agg [(iv x), (iv y)])]) obs_nil)) ?_
              refine T_seq ?_
              by_cases h42 : ((nameS x y).2) = 0
              · refine T_r mixed [(3, .gd false (.no)), (4, .gd false (.no)), (5, .gd false (.val (.av (.bool (!decide (((nameS x y).1) = s)))))), (6, .yes false)] [ps 2 (.opt 0 0), ps 11 (.opt 456 0), ps 154 (bv (!(decide (((nameS x y).1) = s)))), pb 0 25 [(iv 0), (iv 0)], pb 456 25 [(iv x), (iv y)]] (obs_cons (bt h42) (obs_cons (bt h42) (obs_cons (bt h42) (obs_cons (st_ne _ _ : (!((st ((nameS x y).1)).toList == (st s).toList)) = !decide (((nameS x y).1) = s)) (obs_cons (bt h42) obs_nil))))) ?_
                by_cases h43 : ((nameS x y).1) = s
                · refine T_el (bt h43) ?_
                  refine T_skip <| T_seq ?_
                  refine T_r mixed [] [ps 2 (.opt 0 0), ps 3 (iv 0), pb 0 25 [(iv x), (iv y)]] (obs_nil) ?_
                  rw [(named_some (s := s) h1 h2 h3 h4 h5 (val_A (fun c => h6 c.1) (fun c => c.2 h38) (fun c => c.2 h38) h40) (j := (x, y)) (by unfold jOf stepsOf; rw [if_pos (by omega)]; exact Prod.ext (by show _ = x; omega) (by show _ = y; omega))).trans (checked_yes h42 h43)]
                  exact T_ret fun cx_ a_ hI_ => rt hc0 [ps 2 (.opt 0 0), ps 3 (iv 0), pb 0 25 [(iv x), (iv y)]] [0] hI_
                refine T_th (bf h43) ?_
                refine T_seq ?_
                refine T_r mixed [] [ps 2 (.opt 0 0), ps 3 (iv 2), pb 0 25 [(iv 0), (iv 0)]] (obs_nil) ?_
                rw [(named_some (s := s) h1 h2 h3 h4 h5 (val_A (fun c => h6 c.1) (fun c => c.2 h38) (fun c => c.2 h38) h40) (j := (x, y)) (by unfold jOf stepsOf; rw [if_pos (by omega)]; exact Prod.ext (by show _ = x; omega) (by show _ = y; omega))).trans (checked_no2 h43)]
                exact T_ret fun cx_ a_ hI_ => rt hc0 [ps 2 (.opt 0 0), ps 3 (iv 2), pb 0 25 [(iv 0), (iv 0)]] [0] hI_
              refine T_r mixed [(3, .gd true .no), (4, .gd true .no), (5, .gd true .no), (6, .yes true)] [ps 2 (.opt 0 0), ps 11 (.opt 456 0), ps 154 (bv true), pb 0 25 [(iv 0), (iv 0)], pb 456 25 [(iv x), (iv y)]] (obs_cons (bf h42) (obs_cons (bf h42) (obs_cons (bf h42) (obs_cons (bf h42) obs_nil)))) ?_
              refine T_then (b := true) rfl rfl ?_
              refine T_seq ?_
              refine T_r mixed [] [ps 2 (.opt 0 0), ps 3 (iv 2), pb 0 25 [(iv 0), (iv 0)]] (obs_nil) ?_
              rw [(named_some (s := s) h1 h2 h3 h4 h5 (val_A (fun c => h6 c.1) (fun c => c.2 h38) (fun c => c.2 h38) h40) (j := (x, y)) (by unfold jOf stepsOf; rw [if_pos (by omega)]; exact Prod.ext (by show _ = x; omega) (by show _ = y; omega))).trans (checked_no1 h42)]
              exact T_ret fun cx_ a_ hI_ => rt hc0 [ps 2 (.opt 0 0), ps 3 (iv 2), pb 0 25 [(iv 0), (iv 0)]] [0] hI_
            refine T_el (decide_eq_false h41) ?_
            refine T_skip <| T_seq <| T_seq ?_
            obtain ⟨x, hx⟩ : ∃ x, x = ((numS (dOf s)).1) - 1 := ⟨_, rfl⟩
            obtain ⟨y, hy⟩ : ∃ y, y = ((12 * ((((numS (dOf s)).1) - 1) / 7)) + (Pi.nat7 ((((numS (dOf s)).1) - 1) % 7))) + (((qOf s).length : Nat) : Int) := ⟨_, rfl⟩
            refine T_wk (Wk.eq (show _ = [ps 0 (sv (st s)), ps 2 (.opt 0 0), ps 11 (.opt 456 0), ps 134 (bv (decide ((((tOf s).length : Nat) : Int) < ((s.length : Nat) : Int)))), pb 0 25 [(iv 0), (iv 0)], pb 456 25 [(iv x), (iv y)]] from by rw [hx, hy])) ?_
            refine T_r mixed [(1, .call [] [(.agg [(iv x), (iv y)])] [] (.tup [(sv (st ((nameS x y).1))), (iv ((nameS x y).2))]) [])] [ps 0 (sv (st s)), ps 2 (.opt 0 0), ps 11 (.opt 456 0), ps 13 (sv (st ((nameS x y).1))), ps 14 (iv ((nameS x y).2)), pb 0 25 [(iv 0), (iv 0)], pb 456 25 [(iv x), (iv y)]] (obs_cons (name_pc x y (by unfold Pi.I64; omega) (by unfold Pi.I64; omega)) (obs_cons (rfl : Ren0 832 [(.agg [(iv x), (iv y)])]) obs_nil)) ?_
            refine T_seq ?_
            by_cases h44 : ((nameS x y).2) = 0
            · refine T_r mixed [(3, .gd false (.no)), (4, .gd false (.no)), (5, .gd false (.val (.av (.bool (!decide (((nameS x y).1) = s)))))), (6, .yes false)] [ps 2 (.opt 0 0), ps 11 (.opt 456 0), ps 154 (bv (!(decide (((nameS x y).1) = s)))), pb 0 25 [(iv 0), (iv 0)], pb 456 25 [(iv x), (iv y)]] (obs_cons (bt h44) (obs_cons (bt h44) (obs_cons (bt h44) (obs_cons (st_ne _ _ : (!((st ((nameS x y).1)).toList == (st s).toList)) = !decide (((nameS x y).1) = s)) (obs_cons (bt h44) obs_nil))))) ?_
              by_cases h45 : ((nameS x y).1) = s
              · refine T_el (bt h45) ?_
                refine T_skip <| T_seq ?_
                refine T_r mixed [] [ps 2 (.opt 0 0), ps 3 (iv 0), pb 0 25 [(iv x), (iv y)]] (obs_nil) ?_
                rw [(named_some (s := s) h1 h2 h3 h4 h5 (val_A (fun c => h6 c.1) (fun c => c.2 h38) (fun c => c.2 h38) h40) (j := (x, y)) (by unfold jOf stepsOf; rw [if_neg (by omega)]; exact Prod.ext (by show _ = x; omega) (by show _ = y; omega))).trans (checked_yes h44 h45)]
                exact T_ret fun cx_ a_ hI_ => rt hc0 [ps 2 (.opt 0 0), ps 3 (iv 0), pb 0 25 [(iv x), (iv y)]] [0] hI_
              refine T_th (bf h45) ?_
              refine T_seq ?_
              refine T_r mixed [] [ps 2 (.opt 0 0), ps 3 (iv 2), pb 0 25 [(iv 0), (iv 0)]] (obs_nil) ?_
              rw [(named_some (s := s) h1 h2 h3 h4 h5 (val_A (fun c => h6 c.1) (fun c => c.2 h38) (fun c => c.2 h38) h40) (j := (x, y)) (by unfold jOf stepsOf; rw [if_neg (by omega)]; exact Prod.ext (by show _ = x; omega) (by show _ = y; omega))).trans (checked_no2 h45)]
              exact T_ret fun cx_ a_ hI_ => rt hc0 [ps 2 (.opt 0 0), ps 3 (iv 2), pb 0 25 [(iv 0), (iv 0)]] [0] hI_
            refine T_r mixed [(3, .gd true .no), (4, .gd true .no), (5, .gd true .no), (6, .yes true)] [ps 2 (.opt 0 0), ps 11 (.opt 456 0), ps 154 (bv true), pb 0 25 [(iv 0), (iv 0)], pb 456 25 [(iv x), (iv y)]] (obs_cons (bf h44) (obs_cons (bf h44) (obs_cons (bf h44) (obs_cons (bf h44) obs_nil)))) ?_
            refine T_then (b := true) rfl rfl ?_
            refine T_seq ?_
            refine T_r mixed [] [ps 2 (.opt 0 0), ps 3 (iv 2), pb 0 25 [(iv 0), (iv 0)]] (obs_nil) ?_
            rw [(named_some (s := s) h1 h2 h3 h4 h5 (val_A (fun c => h6 c.1) (fun c => c.2 h38) (fun c => c.2 h38) h40) (j := (x, y)) (by unfold jOf stepsOf; rw [if_neg (by omega)]; exact Prod.ext (by show _ = x; omega) (by show _ = y; omega))).trans (checked_no1 h44)]
            exact T_ret fun cx_ a_ hI_ => rt hc0 [ps 2 (.opt 0 0), ps 3 (iv 2), pb 0 25 [(iv 0), (iv 0)]] [0] hI_
          refine T_el (decide_eq_false h40) ?_
          refine T_seq ?_
          by_cases h46 : (Lib.trimS (qOf s) [100]) = ([] : List UInt8)
          · refine T_r mixed [(1, .call [] [(sv (st (qOf s))), (sv (st [100]))] [] (sv (st (Lib.trimS (qOf s) [100]))) []), (2, .val (.av (.bool (decide ((Lib.trimS (qOf s) [100]) = ([] : List UInt8)))))), (4, .gd true (.no)), (5, .gd true (.no)), (6, .gd true (.call [] [(iv (((numS (dOf s)).1) - 1))] [] (bv (perfB (((numS (dOf s)).1) - 1))) [])), (7, .yes true)] [ps 0 (sv (st s)), ps 2 (.opt 0 0), ps 4 (sv (st (tOf s))), ps 6 (sv (st (qOf s))), ps 11 (.opt 456 0), ps 12 (nv ((qOf s).length)), ps 106 (bv (perfB (((numS (dOf s)).1) - 1))), pb 0 25 [(iv 0), (iv 0)], pb 456 25 [(iv (((numS (dOf s)).1) - 1)), (iv ((12 * ((((numS (dOf s)).1) - 1) / 7)) + (Pi.nat7 ((((numS (dOf s)).1) - 1) % 7))))]] (obs_cons (trim_pc (qOf s) [100] (by omega) (by decide) (one_ascii (by decide))) (obs_cons (rfl : [(sv (st (qOf s))), (sv (st ([100] : List UInt8)))] = renL (sigi [] 744) [(sv (st (qOf s))), (sv (st [100]))]) (obs_cons (st_eq _ _ : ((st (Lib.trimS (qOf s) [100])).toList == (st ([] : List UInt8)).toList) = decide ((Lib.trimS (qOf s) [100]) = ([] : List UInt8))) (obs_cons (decide_eq_true h46) (obs_cons (decide_eq_true h46) (obs_cons (by simp only [InK]; omega : InK .i64 (((numS (dOf s)).1) - 1)) (obs_cons (decide_eq_true h46) (obs_cons (perfect_pc (((numS (dOf s)).1) - 1) (by omega)) (obs_cons (rfl : Ren0 784 [(iv (((numS (dOf s)).1) - 1))]) (obs_cons (decide_eq_true h46) obs_nil)))))))))) ?_
            refine T_then (b := (perfB (((numS (dOf s)).1) - 1))) rfl h38 ?_
            refine T_r mixed [] [ps 0 (sv (st s)), ps 2 (.opt 0 0), ps 4 (sv (st (tOf s))), ps 11 (.opt 456 0), pb 0 25 [(iv 0), (iv 0)], pb 456 25 [(iv (((numS (dOf s)).1) - 1)), (iv (((12 * ((((numS (dOf s)).1) - 1) / 7)) + (Pi.nat7 ((((numS (dOf s)).1) - 1) % 7))) - (((qOf s).length : Nat) : Int)))]] (obs_cons (by simp only [InK]; omega : InK .i64 (((12 * ((((numS (dOf s)).1) - 1) / 7)) + (Pi.nat7 ((((numS (dOf s)).1) - 1) % 7))) - (((qOf s).length : Nat) : Int))) obs_nil) ?_
            refine T_blk <| T_seq <| T_seq ?_
            refine T_r mixed [] [ps 0 (sv (st s)), ps 2 (.opt 0 0), ps 11 (.opt 456 0), ps 134 (bv (decide ((((tOf s).length : Nat) : Int) < ((s.length : Nat) : Int)))), pb 0 25 [(iv 0), (iv 0)], pb 456 25 [(iv (((numS (dOf s)).1) - 1)), (iv (((12 * ((((numS (dOf s)).1) - 1) / 7)) + (Pi.nat7 ((((numS (dOf s)).1) - 1) % 7))) - (((qOf s).length : Nat) : Int)))]] (obs_nil) ?_
            by_cases h47 : (((tOf s).length : Nat) : Int) < ((s.length : Nat) : Int)
            · refine T_th (decide_eq_true h47) ?_
              refine T_r mixed [] [ps 0 (sv (st s)), ps 2 (.opt 0 0), ps 11 (.opt 456 0), pb 0 25 [(iv 0), (iv 0)], pb 456 25 [(iv (0 - (((numS (dOf s)).1) - 1))), (iv (0 - (((12 * ((((numS (dOf s)).1) - 1) / 7)) + (Pi.nat7 ((((numS (dOf s)).1) - 1) % 7))) - (((qOf s).length : Nat) : Int))))]] (obs_cons (by simp only [InK]; omega : InK .i64 (0 - (((numS (dOf s)).1) - 1))) (obs_cons (by simp only [InK]; omega : InK .i64 (0 - (((12 * ((((numS (dOf s)).1) - 1) / 7)) + (Pi.nat7 ((((numS (dOf s)).1) - 1) % 7))) - (((qOf s).length : Nat) : Int)))) obs_nil)) ?_
              refine T_seq <| T_seq ?_
              obtain ⟨x, hx⟩ : ∃ x, x = 0 - (((numS (dOf s)).1) - 1) := ⟨_, rfl⟩
              obtain ⟨y, hy⟩ : ∃ y, y = 0 - (((12 * ((((numS (dOf s)).1) - 1) / 7)) + (Pi.nat7 ((((numS (dOf s)).1) - 1) % 7))) - (((qOf s).length : Nat) : Int)) := ⟨_, rfl⟩
              refine T_wk (Wk.eq (show _ = [ps 0 (sv (st s)), ps 2 (.opt 0 0), ps 11 (.opt 456 0), pb 0 25 [(iv 0), (iv 0)], pb 456 25 [(iv x), (iv y)]] from by rw [hx, hy])) ?_
              refine T_r mixed [(1, .call [] [(.agg [(iv x), (iv y)])] [] (.tup [(sv (st ((nameS x y).1))), (iv ((nameS x y).2))]) [])] [ps 0 (sv (st s)), ps 2 (.opt 0 0), ps 11 (.opt 456 0), ps 13 (sv (st ((nameS x y).1))), ps 14 (iv ((nameS x y).2)), pb 0 25 [(iv 0), (iv 0)], pb 456 25 [(iv x), (iv y)]] (obs_cons (name_pc x y (by unfold Pi.I64; omega) (by unfold Pi.I64; omega)) (obs_cons (rfl : Ren0 984 [(.agg [(iv x), (iv y)])]) obs_nil)) ?_
              refine T_seq ?_
              by_cases h48 : ((nameS x y).2) = 0
              · refine T_r mixed [(3, .gd false (.no)), (4, .gd false (.no)), (5, .gd false (.val (.av (.bool (!decide (((nameS x y).1) = s)))))), (6, .yes false)] [ps 2 (.opt 0 0), ps 11 (.opt 456 0), ps 154 (bv (!(decide (((nameS x y).1) = s)))), pb 0 25 [(iv 0), (iv 0)], pb 456 25 [(iv x), (iv y)]] (obs_cons (bt h48) (obs_cons (bt h48) (obs_cons (bt h48) (obs_cons (st_ne _ _ : (!((st ((nameS x y).1)).toList == (st s).toList)) = !decide (((nameS x y).1) = s)) (obs_cons (bt h48) obs_nil))))) ?_
                by_cases h49 : ((nameS x y).1) = s
                · refine T_el (bt h49) ?_
                  refine T_skip <| T_seq ?_
                  refine T_r mixed [] [ps 2 (.opt 0 0), ps 3 (iv 0), pb 0 25 [(iv x), (iv y)]] (obs_nil) ?_
                  rw [(named_some (s := s) h1 h2 h3 h4 h5 (val_d (fun c => h6 c.1) (fun c => c.2 h38) (fun c => c.2 h38) h40 h46 h38) (j := (x, y)) (by unfold jOf stepsOf; rw [if_pos (by omega)]; exact Prod.ext (by show _ = x; omega) (by show _ = y; omega))).trans (checked_yes h48 h49)]
                  exact T_ret fun cx_ a_ hI_ => rt hc0 [ps 2 (.opt 0 0), ps 3 (iv 0), pb 0 25 [(iv x), (iv y)]] [0] hI_
                refine T_th (bf h49) ?_
                refine T_seq ?_
                refine T_r mixed [] [ps 2 (.opt 0 0), ps 3 (iv 2), pb 0 25 [(iv 0), (iv 0)]] (obs_nil) ?_
                rw [(named_some (s := s) h1 h2 h3 h4 h5 (val_d (fun c => h6 c.1) (fun c => c.2 h38) (fun c => c.2 h38) h40 h46 h38) (j := (x, y)) (by unfold jOf stepsOf; rw [if_pos (by omega)]; exact Prod.ext (by show _ = x; omega) (by show _ = y; omega))).trans (checked_no2 h49)]
                exact T_ret fun cx_ a_ hI_ => rt hc0 [ps 2 (.opt 0 0), ps 3 (iv 2), pb 0 25 [(iv 0), (iv 0)]] [0] hI_
              refine T_r mixed [(3, .gd true .no), (4, .gd true .no), (5, .gd true .no), (6, .yes true)] [ps 2 (.opt 0 0), ps 11 (.opt 456 0), ps 154 (bv true), pb 0 25 [(iv 0), (iv 0)], pb 456 25 [(iv x), (iv y)]] (obs_cons (bf h48) (obs_cons (bf h48) (obs_cons (bf h48) (obs_cons (bf h48) obs_nil)))) ?_
              refine T_then (b := true) rfl rfl ?_
              refine T_seq ?_
              refine T_r mixed [] [ps 2 (.opt 0 0), ps 3 (iv 2), pb 0 25 [(iv 0), (iv 0)]] (obs_nil) ?_
              rw [(named_some (s := s) h1 h2 h3 h4 h5 (val_d (fun c => h6 c.1) (fun c => c.2 h38) (fun c => c.2 h38) h40 h46 h38) (j := (x, y)) (by unfold jOf stepsOf; rw [if_pos (by omega)]; exact Prod.ext (by show _ = x; omega) (by show _ = y; omega))).trans (checked_no1 h48)]
              exact T_ret fun cx_ a_ hI_ => rt hc0 [ps 2 (.opt 0 0), ps 3 (iv 2), pb 0 25 [(iv 0), (iv 0)]] [0] hI_
            refine T_el (decide_eq_false h47) ?_
            refine T_skip <| T_seq <| T_seq ?_
            obtain ⟨x, hx⟩ : ∃ x, x = ((numS (dOf s)).1) - 1 := ⟨_, rfl⟩
            obtain ⟨y, hy⟩ : ∃ y, y = ((12 * ((((numS (dOf s)).1) - 1) / 7)) + (Pi.nat7 ((((numS (dOf s)).1) - 1) % 7))) - (((qOf s).length : Nat) : Int) := ⟨_, rfl⟩
            refine T_wk (Wk.eq (show _ = [ps 0 (sv (st s)), ps 2 (.opt 0 0), ps 11 (.opt 456 0), ps 134 (bv (decide ((((tOf s).length : Nat) : Int) < ((s.length : Nat) : Int)))), pb 0 25 [(iv 0), (iv 0)], pb 456 25 [(iv x), (iv y)]] from by rw [hx, hy])) ?_
            refine T_r mixed [(1, .call [] [(.agg [(iv x), (iv y)])] [] (.tup [(sv (st ((nameS x y).1))), (iv ((nameS x y).2))]) [])] [ps 0 (sv (st s)), ps 2 (.opt 0 0), ps 11 (.opt 456 0), ps 13 (sv (st ((nameS x y).1))), ps 14 (iv ((nameS x y).2)), pb 0 25 [(iv 0), (iv 0)], pb 456 25 [(iv x), (iv y)]] (obs_cons (name_pc x y (by unfold Pi.I64; omega) (by unfold Pi.I64; omega)) (obs_cons (rfl : Ren0 904 [(.agg [(iv x), (iv y)])]) obs_nil)) ?_
            refine T_seq ?_
            by_cases h50 : ((nameS x y).2) = 0
            · refine T_r mixed [(3, .gd false (.no)), (4, .gd false (.no)), (5, .gd false (.val (.av (.bool (!decide (((nameS x y).1) = s)))))), (6, .yes false)] [ps 2 (.opt 0 0), ps 11 (.opt 456 0), ps 154 (bv (!(decide (((nameS x y).1) = s)))), pb 0 25 [(iv 0), (iv 0)], pb 456 25 [(iv x), (iv y)]] (obs_cons (bt h50) (obs_cons (bt h50) (obs_cons (bt h50) (obs_cons (st_ne _ _ : (!((st ((nameS x y).1)).toList == (st s).toList)) = !decide (((nameS x y).1) = s)) (obs_cons (bt h50) obs_nil))))) ?_
              by_cases h51 : ((nameS x y).1) = s
              · refine T_el (bt h51) ?_
                refine T_skip <| T_seq ?_
                refine T_r mixed [] [ps 2 (.opt 0 0), ps 3 (iv 0), pb 0 25 [(iv x), (iv y)]] (obs_nil) ?_
                rw [(named_some (s := s) h1 h2 h3 h4 h5 (val_d (fun c => h6 c.1) (fun c => c.2 h38) (fun c => c.2 h38) h40 h46 h38) (j := (x, y)) (by unfold jOf stepsOf; rw [if_neg (by omega)]; exact Prod.ext (by show _ = x; omega) (by show _ = y; omega))).trans (checked_yes h50 h51)]
                exact T_ret fun cx_ a_ hI_ => rt hc0 [ps 2 (.opt 0 0), ps 3 (iv 0), pb 0 25 [(iv x), (iv y)]] [0] hI_
              refine T_th (bf h51) ?_
              refine T_seq ?_
              refine T_r mixed [] [ps 2 (.opt 0 0), ps 3 (iv 2), pb 0 25 [(iv 0), (iv 0)]] (obs_nil) ?_
              rw [(named_some (s := s) h1 h2 h3 h4 h5 (val_d (fun c => h6 c.1) (fun c => c.2 h38) (fun c => c.2 h38) h40 h46 h38) (j := (x, y)) (by unfold jOf stepsOf; rw [if_neg (by omega)]; exact Prod.ext (by show _ = x; omega) (by show _ = y; omega))).trans (checked_no2 h51)]
              exact T_ret fun cx_ a_ hI_ => rt hc0 [ps 2 (.opt 0 0), ps 3 (iv 2), pb 0 25 [(iv 0), (iv 0)]] [0] hI_
            refine T_r mixed [(3, .gd true .no), (4, .gd true .no), (5, .gd true .no), (6, .yes true)] [ps 2 (.opt 0 0), ps 11 (.opt 456 0), ps 154 (bv true), pb 0 25 [(iv 0), (iv 0)], pb 456 25 [(iv x), (iv y)]] (obs_cons (bf h50) (obs_cons (bf h50) (obs_cons (bf h50) (obs_cons (bf h50) obs_nil)))) ?_
            refine T_then (b := true) rfl rfl ?_
            refine T_seq ?_
            refine T_r mixed [] [ps 2 (.opt 0 0), ps 3 (iv 2), pb 0 25 [(iv 0), (iv 0)]] (obs_nil) ?_
            rw [(named_some (s := s) h1 h2 h3 h4 h5 (val_d (fun c => h6 c.1) (fun c => c.2 h38) (fun c => c.2 h38) h40 h46 h38) (j := (x, y)) (by unfold jOf stepsOf; rw [if_neg (by omega)]; exact Prod.ext (by show _ = x; omega) (by show _ = y; omega))).trans (checked_no1 h50)]
            exact T_ret fun cx_ a_ hI_ => rt hc0 [ps 2 (.opt 0 0), ps 3 (iv 2), pb 0 25 [(iv 0), (iv 0)]] [0] hI_
          refine T_r mixed [(1, .call [] [(sv (st (qOf s))), (sv (st [100]))] [] (sv (st (Lib.trimS (qOf s) [100]))) []), (2, .val (.av (.bool (decide ((Lib.trimS (qOf s) [100]) = ([] : List UInt8)))))), (4, .gd false .no), (5, .gd false .no), (6, .gd false .no), (7, .yes false)] [ps 0 (sv (st s)), ps 2 (.opt 0 0), ps 4 (sv (st (tOf s))), ps 6 (sv (st (qOf s))), ps 11 (.opt 456 0), ps 12 (nv ((qOf s).length)), ps 106 (bv false), pb 0 25 [(iv 0), (iv 0)], pb 456 25 [(iv (((numS (dOf s)).1) - 1)), (iv ((12 * ((((numS (dOf s)).1) - 1) / 7)) + (Pi.nat7 ((((numS (dOf s)).1) - 1) % 7))))]] (obs_cons (trim_pc (qOf s) [100] (by omega) (by decide) (one_ascii (by decide))) (obs_cons (rfl : [(sv (st (qOf s))), (sv (st ([100] : List UInt8)))] = renL (sigi [] 744) [(sv (st (qOf s))), (sv (st [100]))]) (obs_cons (st_eq _ _ : ((st (Lib.trimS (qOf s) [100])).toList == (st ([] : List UInt8)).toList) = decide ((Lib.trimS (qOf s) [100]) = ([] : List UInt8))) (obs_cons (decide_eq_false h46) (obs_cons (decide_eq_false h46) (obs_cons (decide_eq_false h46) (obs_cons (decide_eq_false h46) obs_nil))))))) ?_
          refine T_else (b := false) rfl rfl ?_
          refine T_seq ?_
          refine T_r mixed [(1, .call [] [(sv (st (qOf s))), (sv (st [100]))] [] (sv (st (Lib.trimS (qOf s) [100]))) []), (2, .val (.av (.bool (decide ((Lib.trimS (qOf s) [100]) = ([] : List UInt8))))))] [ps 0 (sv (st s)), ps 2 (.opt 0 0), ps 4 (sv (st (tOf s))), ps 11 (.opt 456 0), ps 12 (nv ((qOf s).length)), ps 120 (bv (decide ((Lib.trimS (qOf s) [100]) = ([] : List UInt8)))), pb 0 25 [(iv 0), (iv 0)], pb 456 25 [(iv (((numS (dOf s)).1) - 1)), (iv ((12 * ((((numS (dOf s)).1) - 1) / 7)) + (Pi.nat7 ((((numS (dOf s)).1) - 1) % 7))))]] (obs_cons (trim_pc (qOf s) [100] (by omega) (by decide) (one_ascii (by decide))) (obs_cons (rfl : [(sv (st (qOf s))), (sv (st ([100] : List UInt8)))] = renL (sigi [] 816) [(sv (st (qOf s))), (sv (st [100]))]) (obs_cons (st_eq _ _ : ((st (Lib.trimS (qOf s) [100])).toList == (st ([] : List UInt8)).toList) = decide ((Lib.trimS (qOf s) [100]) = ([] : List UInt8))) obs_nil))) ?_
          refine T_el (decide_eq_false h46) ?_
          refine T_seq ?_
          refine T_r mixed [] [ps 2 (.opt 0 0), ps 3 (iv 2), pb 0 25 [(iv 0), (iv 0)]] (obs_nil) ?_
          rw [named_none (s := s) h1 h2 h3 h4 h5 (val_no (fun c => h6 c.1) (fun c => c.2 h38) (fun c => c.2 h38) h40 h46)]
          exact T_ret fun cx_ a_ hI_ => rt hc0 [ps 2 (.opt 0 0), ps 3 (iv 2), pb 0 25 [(iv 0), (iv 0)]] [0] hI_
        refine T_r mixed [(1, .val (.av (.bool (decide ((qOf s) = ([109] : List UInt8)))))), (3, .gd false .no), (4, .gd false .no), (5, .gd false .no), (6, .gd false .no), (7, .yes false)] [ps 0 (sv (st s)), ps 2 (.opt 0 0), ps 4 (sv (st (tOf s))), ps 6 (sv (st (qOf s))), ps 7 (iv ((numS (dOf s)).1)), ps 11 (.opt 456 0), ps 12 (nv ((qOf s).length)), ps 84 (bv false), pb 0 25 [(iv 0), (iv 0)], pb 456 25 [(iv (((numS (dOf s)).1) - 1)), (iv ((12 * ((((numS (dOf s)).1) - 1) / 7)) + (Pi.nat7 ((((numS (dOf s)).1) - 1) % 7))))]] (obs_cons (st_eq _ _ : ((st (qOf s)).toList == (st ([109] : List UInt8)).toList) = decide ((qOf s) = ([109] : List UInt8))) (obs_cons (decide_eq_false h39) (obs_cons (decide_eq_false h39) (obs_cons (decide_eq_false h39) (obs_cons (decide_eq_false h39) (obs_cons (decide_eq_false h39) obs_nil)))))) ?_
        refine T_else (b := false) rfl rfl ?_
        refine T_seq ?_
        refine T_r mixed [(1, .call [] [(sv (st (qOf s))), (sv (st [65]))] [] (sv (st (Lib.trimS (qOf s) [65]))) []), (2, .val (.av (.bool (decide ((Lib.trimS (qOf s) [65]) = ([] : List UInt8))))))] [ps 0 (sv (st s)), ps 2 (.opt 0 0), ps 4 (sv (st (tOf s))), ps 6 (sv (st (qOf s))), ps 7 (iv ((numS (dOf s)).1)), ps 11 (.opt 456 0), ps 12 (nv ((qOf s).length)), ps 97 (bv (decide ((Lib.trimS (qOf s) [65]) = ([] : List UInt8)))), pb 0 25 [(iv 0), (iv 0)], pb 456 25 [(iv (((numS (dOf s)).1) - 1)), (iv ((12 * ((((numS (dOf s)).1) - 1) / 7)) + (Pi.nat7 ((((numS (dOf s)).1) - 1) % 7))))]] (obs_cons (trim_pc (qOf s) [65] (by omega) (by decide) (one_ascii (by decide))) (obs_cons (rfl : [(sv (st (qOf s))), (sv (st ([65] : List UInt8)))] = renL (sigi [] 712) [(sv (st (qOf s))), (sv (st [65]))]) (obs_cons (st_eq _ _ : ((st (Lib.trimS (qOf s) [65])).toList == (st ([] : List UInt8)).toList) = decide ((Lib.trimS (qOf s) [65]) = ([] : List UInt8))) obs_nil))) ?_
        by_cases h52 : (Lib.trimS (qOf s) [65]) = ([] : List UInt8)
        · refine T_th (decide_eq_true h52) ?_
          refine T_r mixed [] [ps 0 (sv (st s)), ps 2 (.opt 0 0), ps 4 (sv (st (tOf s))), ps 11 (.opt 456 0), pb 0 25 [(iv 0), (iv 0)], pb 456 25 [(iv (((numS (dOf s)).1) - 1)), (iv (((12 * ((((numS (dOf s)).1) - 1) / 7)) + (Pi.nat7 ((((numS (dOf s)).1) - 1) % 7))) + (((qOf s).length : Nat) : Int)))]] (obs_cons (by simp only [InK]; omega : InK .i64 (((12 * ((((numS (dOf s)).1) - 1) / 7)) + (Pi.nat7 ((((numS (dOf s)).1) - 1) % 7))) + (((qOf s).length : Nat) : Int))) obs_nil) ?_
          refine T_blk <| T_seq <| T_seq ?_
          refine T_r mixed [] [ps 0 (sv (st s)), ps 2 (.opt 0 0), ps 11 (.opt 456 0), ps 134 (bv (decide ((((tOf s).length : Nat) : Int) < ((s.length : Nat) : Int)))), pb 0 25 [(iv 0), (iv 0)], pb 456 25 [(iv (((numS (dOf s)).1) - 1)), (iv (((12 * ((((numS (dOf s)).1) - 1) / 7)) + (Pi.nat7 ((((numS (dOf s)).1) - 1) % 7))) + (((qOf s).length : Nat) : Int)))]] (obs_nil) ?_
          by_cases h53 : (((tOf s).length : Nat) : Int) < ((s.length : Nat) : Int)
          · refine T_th (decide_eq_true h53) ?_
            refine T_r mixed [] [ps 0 (sv (st s)), ps 2 (.opt 0 0), ps 11 (.opt 456 0), pb 0 25 [(iv 0), (iv 0)], pb 456 25 [(iv (0 - (((numS (dOf s)).1) - 1))), (iv (0 - (((12 * ((((numS (dOf s)).1) - 1) / 7)) + (Pi.nat7 ((((numS (dOf s)).1) - 1) % 7))) + (((qOf s).length : Nat) : Int))))]] (obs_cons (by simp only [InK]; omega : InK .i64 (0 - (((numS (dOf s)).1) - 1))) (obs_cons (by simp only [InK]; omega : InK .i64 (0 - (((12 * ((((numS (dOf s)).1) - 1) / 7)) + (Pi.nat7 ((((numS (dOf s)).1) - 1) % 7))) + (((qOf s).length : Nat) : Int)))) obs_nil)) ?_
            refine T_seq <| T_seq ?_
            obtain ⟨x, hx⟩ : ∃ x, x = 0 - (((numS (dOf s)).1) - 1) := ⟨_, rfl⟩
            obtain ⟨y, hy⟩ : ∃ y, y = 0 - (((12 * ((((numS (dOf s)).1) - 1) / 7)) + (Pi.nat7 ((((numS (dOf s)).1) - 1) % 7))) + (((qOf s).length : Nat) : Int)) := ⟨_, rfl⟩
            refine T_wk (Wk.eq (show _ = [ps 0 (sv (st s)), ps 2 (.opt 0 0), ps 11 (.opt 456 0), pb 0 25 [(iv 0), (iv 0)], pb 456 25 [(iv x), (iv y)]] from by rw [hx, hy])) ?_
            refine T_r mixed [(1, .call [] [(.agg [(iv x), (iv y)])] [] (.tup [(sv (st ((nameS x y).1))), (iv ((nameS x y).2))]) [])] [ps 0 (sv (st s)), ps 2 (.opt 0 0), ps 11 (.opt 456 0), ps 13 (sv (st ((nameS x y).1))), ps 14 (iv ((nameS x y).2)), pb 0 25 [(iv 0), (iv 0)], pb 456 25 [(iv x), (iv y)]] (obs_cons (name_pc x y (by unfold Pi.I64; omega) (by unfold Pi.I64; omega)) (obs_cons (rfl : Ren0 912 [(.agg [(iv x), (iv y)])]) obs_nil)) ?_
            refine T_seq ?_
            by_cases h54 : ((nameS x y).2) = 0
            · refine T_r mixed [(3, .gd false (.no)), (4, .gd false (.no)), (5, .gd false (.val (.av (.bool (!decide (((nameS x y).1) = s)))))), (6, .yes false)] [ps 2 (.opt 0 0), ps 11 (.opt 456 0), ps 154 (bv (!(decide (((nameS x y).1) = s)))), pb 0 25 [(iv 0), (iv 0)], pb 456 25 [(iv x), (iv y)]] (obs_cons (bt h54) (obs_cons (bt h54) (obs_cons (bt h54) (obs_cons (st_ne _ _ : (!((st ((nameS x y).1)).toList == (st s).toList)) = !decide (((nameS x y).1) = s)) (obs_cons (bt h54) obs_nil))))) ?_
              by_cases h55 : ((nameS x y).1) = s
              · refine T_el (bt h55) ?_
                refine T_skip <| T_seq ?_
                refine T_r mixed [] [ps 2 (.opt 0 0), ps 3 (iv 0), pb 0 25 [(iv x), (iv y)]] (obs_nil) ?_
                rw [(named_some (s := s) h1 h2 h3 h4 h5 (val_A (fun c => h6 c.1) (fun c => c.2 h38) (fun c => h39 c.1) h52) (j := (x, y)) (by unfold jOf stepsOf; rw [if_pos (by omega)]; exact Prod.ext (by show _ = x; omega) (by show _ = y; omega))).trans (checked_yes h54 h55)]
                exact T_ret fun cx_ a_ hI_ => rt hc0 [ps 2 (.opt 0 0), ps 3 (iv 0), pb 0 25 [(iv x), (iv y)]] [0] hI_
              refine T_th (bf h55) ?_
              refine T_seq ?_
              refine T_r mixed [] [ps 2 (.opt 0 0), ps 3 (iv 2), pb 0 25 [(iv 0), (iv 0)]] (obs_nil) ?_
              rw [(named_some (s := s) h1 h2 h3 h4 h5 (val_A (fun c => h6 c.1) (fun c => c.2 h38) (fun c => h39 c.1) h52) (j := (x, y)) (by unfold jOf stepsOf; rw [if_pos (by omega)]; exact Prod.ext (by show _ = x; omega) (by show _ = y; omega))).trans (checked_no2 h55)]
              exact T_ret fun cx_ a_ hI_ => rt hc0 [ps 2 (.opt 0 0), ps 3 (iv 2), pb 0 25 [(iv 0), (iv 0)]] [0] hI_
            refine T_r mixed [(3, .gd true .no), (4, .gd true .no), (5, .gd true .no), (6, .yes true)] [ps 2 (.opt 0 0), ps 11 (.opt 456 0), ps 154 (bv true), pb 0 25 [(iv 0), (iv 0)], pb 456 25 [(iv x), (iv y)]] (obs_cons (bf h54) (obs_cons (bf h54) (obs_cons (bf h54) (obs_cons (bf h54) obs_nil)))) ?_
            refine T_then (b := true) rfl rfl ?_
            refine T_seq ?_
            refine T_r mixed [] [ps 2 (.opt 0 0), ps 3 (iv 2), pb 0 25 [(iv 0), (iv 0)]] (obs_nil) ?_
            rw [(named_some (s := s) h1 h2 h3 h4 h5 (val_A (fun c => h6 c.1) (fun c => c.2 h38) (fun c => h39 c.1) h52) (j := (x, y)) (by unfold jOf stepsOf; rw [if_pos (by omega)]; exact Prod.ext (by show _ = x; omega) (by show _ = y; omega))).trans (checked_no1 h54)]
            exact T_ret fun cx_ a_ hI_ => rt hc0 [ps 2 (.opt 0 0), ps 3 (iv 2), pb 0 25 [(iv 0), (iv 0)]] [0] hI_
          refine T_el (decide_eq_false h53) ?_
          refine T_skip <| T_seq <| T_seq ?_
          obtain ⟨x, hx⟩ : ∃ x, x = ((numS (dOf s)).1) - 1 := ⟨_, rfl⟩
          obtain ⟨y, hy⟩ : ∃ y, y = ((12 * ((((numS (dOf s)).1) - 1) / 7)) + (Pi.nat7 ((((numS (dOf s)).1) - 1) % 7))) + (((qOf s).length : Nat) : Int) := ⟨_, rfl⟩
          refine T_wk (Wk.eq (show _ = [ps 0 (sv (st s)), ps 2 (.opt 0 0), ps 11 (.opt 456 0), ps 134 (bv (decide ((((tOf s).length : Nat) : Int) < ((s.length : Nat) : Int)))), pb 0 25 [(iv 0), (iv 0)], pb 456 25 [(iv x), (iv y)]] from by rw [hx, hy])) ?_
          refine T_r mixed [(1, .call [] [(.agg [(iv x), (iv y)])] [] (.tup [(sv (st ((nameS x y).1))), (iv ((nameS x y).2))]) [])] [ps 0 (sv (st s)), ps 2 (.opt 0 0), ps 11 (.opt 456 0), ps 13 (sv (st ((nameS x y).1))), ps 14 (iv ((nameS x y).2)), pb 0 25 [(iv 0), (iv 0)], pb 456 25 [(iv x), (iv y)]] (obs_cons (name_pc x y (by unfold Pi.I64; omega) (by unfold Pi.I64; omega)) (obs_cons (rfl : Ren0 832 [(.agg [(iv x), (iv y)])]) obs_nil)) ?_
          refine T_seq ?_
          by_cases h56 : ((nameS x y).2) = 0
          · refine T_r mixed [(3, .gd false (.no)), (4, .gd false (.no)), (5, .gd false (.val (.av (.bool (!decide (((nameS x y).1) = s)))))), (6, .yes false)] [ps 2 (.opt 0 0), ps 11 (.opt 456 0), ps 154 (bv (!(decide (((nameS x y).1) = s)))), pb 0 25 [(iv 0), (iv 0)], pb 456 25 [(iv x), (iv y)]] (obs_cons (bt h56) (obs_cons (bt h56) (obs_cons (bt h56) (obs_cons (st_ne _ _ : (!((st ((nameS x y).1)).toList == (st s).toList)) = !decide (((nameS x y).1) = s)) (obs_cons (bt h56) obs_nil))))) ?_
            by_cases h57 : ((nameS x y).1) = s
            · refine T_el (bt h57) ?_
              refine T_skip <| T_seq ?_
              refine T_r mixed [] [ps 2 (.opt 0 0), ps 3 (iv 0), pb 0 25 [(iv x), (iv y)]] (obs_nil) ?_
              rw [(named_some (s := s) h1 h2 h3 h4 h5 (val_A (fun c => h6 c.1) (fun c => c.2 h38) (fun c => h39 c.1) h52) (j := (x, y)) (by unfold jOf stepsOf; rw [if_neg (by omega)]; exact Prod.ext (by show _ = x; omega) (by show _ = y; omega))).trans (checked_yes h56 h57)]
              exact T_ret fun cx_ a_ hI_ => rt hc0 [ps 2 (.opt 0 0), ps 3 (iv 0), pb 0 25 [(iv x), (iv y)]] [0] hI_
            refine T_th (bf h57) ?_
            refine T_seq ?_
            refine T_r mixed [] [ps 2 (.opt 0 0), ps 3 (iv 2), pb 0 25 [(iv 0), (iv 0)]] (obs_nil) ?_
            rw [(named_some (s := s) h1 h2 h3 h4 h5 (val_A (fun c => h6 c.1) (fun c => c.2 h38) (fun c => h39 c.1) h52) (j := (x, y)) (by unfold jOf stepsOf; rw [if_neg (by omega)]; exact Prod.ext (by show _ = x; omega) (by show _ = y; omega))).trans (checked_no2 h57)]
            exact T_ret fun cx_ a_ hI_ => rt hc0 [ps 2 (.opt 0 0), ps 3 (iv 2), pb 0 25 [(iv 0), (iv 0)]] [0] hI_
          refine T_r mixed [(3, .gd true .no), (4, .gd true .no), (5, .gd true .no), (6, .yes true)] [ps 2 (.opt 0 0), ps 11 (.opt 456 0), ps 154 (bv true), pb 0 25 [(iv 0), (iv 0)], pb 456 25 [(iv x), (iv y)]] (obs_cons (bf h56) (obs_cons (bf h56) (obs_cons (bf h56) (obs_cons (bf h56) obs_nil)))) ?_
          refine T_then (b := true) rfl rfl ?_
          refine T_seq ?_
          refine T_r mixed [] [ps 2 (.opt 0 0), ps 3 (iv 2), pb 0 25 [(iv 0), (iv 0)]] (obs_nil) ?_
          rw [(named_some (s := s) h1 h2 h3 h4 h5 (val_A (fun c => h6 c.1) (fun c => c.2 h38) (fun c => h39 c.1) h52) (j := (x, y)) (by unfold jOf stepsOf; rw [if_neg (by omega)]; exact Prod.ext (by show _ = x; omega) (by show _ = y; omega))).trans (checked_no1 h56)]
          exact T_ret fun cx_ a_ hI_ => rt hc0 [ps 2 (.opt 0 0), ps 3 (iv 2), pb 0 25 [(iv 0), (iv 0)]] [0] hI_
        refine T_el (decide_eq_false h52) ?_
        refine T_seq ?_
        by_cases h58 : (Lib.trimS (qOf s) [100]) = ([] : List UInt8)
        · refine T_r mixed [(1, .call [] [(sv (st (qOf s))), (sv (st [100]))] [] (sv (st (Lib.trimS (qOf s) [100]))) []), (2, .val (.av (.bool (decide ((Lib.trimS (qOf s) [100]) = ([] : List UInt8)))))), (4, .gd true (.no)), (5, .gd true (.no)), (6, .gd true (.call [] [(iv (((numS (dOf s)).1) - 1))] [] (bv (perfB (((numS (dOf s)).1) - 1))) [])), (7, .yes true)] [ps 0 (sv (st s)), ps 2 (.opt 0 0), ps 4 (sv (st (tOf s))), ps 6 (sv (st (qOf s))), ps 11 (.opt 456 0), ps 12 (nv ((qOf s).length)), ps 106 (bv (perfB (((numS (dOf s)).1) - 1))), pb 0 25 [(iv 0), (iv 0)], pb 456 25 [(iv (((numS (dOf s)).1) - 1)), (iv ((12 * ((((numS (dOf s)).1) - 1) / 7)) + (Pi.nat7 ((((numS (dOf s)).1) - 1) % 7))))]] (obs_cons (trim_pc (qOf s) [100] (by omega) (by decide) (one_ascii (by decide))) (obs_cons (rfl : [(sv (st (qOf s))), (sv (st ([100] : List UInt8)))] = renL (sigi [] 744) [(sv (st (qOf s))), (sv (st [100]))]) (obs_cons (st_eq _ _ : ((st (Lib.trimS (qOf s) [100])).toList == (st ([] : List UInt8)).toList) = decide ((Lib.trimS (qOf s) [100]) = ([] : List UInt8))) (obs_cons (decide_eq_true h58) (obs_cons (decide_eq_true h58) (obs_cons (by simp only [InK]; omega : InK .i64 (((numS (dOf s)).1) - 1)) (obs_cons (decide_eq_true h58) (obs_cons (perfect_pc (((numS (dOf s)).1) - 1) (by omega)) (obs_cons (rfl : Ren0 784 [(iv (((numS (dOf s)).1) - 1))]) (obs_cons (decide_eq_true h58) obs_nil)))))))))) ?_
          refine T_then (b := (perfB (((numS (dOf s)).1) - 1))) rfl h38 ?_
          refine T_r mixed [] [ps 0 (sv (st s)), ps 2 (.opt 0 0), ps 4 (sv (st (tOf s))), ps 11 (.opt 456 0), pb 0 25 [(iv 0), (iv 0)], pb 456 25 [(iv (((numS (dOf s)).1) - 1)), (iv (((12 * ((((numS (dOf s)).1) - 1) / 7)) + (Pi.nat7 ((((numS (dOf s)).1) - 1) % 7))) - (((qOf s).length : Nat) : Int)))]] (obs_cons (by simp only [InK]; omega : InK .i64 (((12 * ((((numS (dOf s)).1) - 1) / 7)) + (Pi.nat7 ((((numS (dOf s)).1) - 1) % 7))) - (((qOf s).length : Nat) : Int))) obs_nil) ?_
          refine T_blk <| T_seq <| T_seq ?_
          refine T_r mixed [] [ps 0 (sv (st s)), ps 2 (.opt 0 0), ps 11 (.opt 456 0), ps 134 (bv (decide ((((tOf s).length : Nat) : Int) < ((s.length : Nat) : Int)))), pb 0 25 [(iv 0), (iv 0)], pb 456 25 [(iv (((numS (dOf s)).1) - 1)), (iv (((12 * ((((numS (dOf s)).1) - 1) / 7)) + (Pi.nat7 ((((numS (dOf s)).1) - 1) % 7))) - (((qOf s).length : Nat) : Int)))]] (obs_nil) ?_
          by_cases h59 : (((tOf s).length : Nat) : Int) < ((s.length : Nat) : Int)
          · refine T_th (decide_eq_true h59) ?_
            refine T_r mixed [] [ps 0 (sv (st s)), ps 2 (.opt 0 0), ps 11 (.opt 456 0), pb 0 25 [(iv 0), (iv 0)], pb 456 25 [(iv (0 - (((numS (dOf s)).1) - 1))), (iv (0 - (((12 * ((((numS (dOf s)).1) - 1) / 7)) + (Pi.nat7 ((((numS (dOf s)).1) - 1) % 7))) - (((qOf s).length : Nat) : Int))))]] (obs_cons (by simp only [InK]; omega : InK .i64 (0 - (((numS (dOf s)).1) - 1))) (obs_cons (by simp only [InK]; omega : InK .i64 (0 - (((12 * ((((numS (dOf s)).1) - 1) / 7)) + (Pi.nat7 ((((numS (dOf s)).1) - 1) % 7))) - (((qOf s).length : Nat) : Int)))) obs_nil)) ?_
            refine T_seq <| T_seq ?_
            obtain ⟨x, hx⟩ : ∃ x, x = 0 - (((numS (dOf s)).1) - 1) := ⟨_, rfl⟩
            obtain ⟨y, hy⟩ : ∃ y, y = 0 - (((12 * ((((numS (dOf s)).1) - 1) / 7)) + (Pi.nat7 ((((numS (dOf s)).1) - 1) % 7))) - (((qOf s).length : Nat) : Int)) := ⟨_, rfl⟩
            refine T_wk (Wk.eq (show _ = [ps 0 (sv (st s)), ps 2 (.opt 0 0), ps 11 (.opt 456 0), pb 0 25 [(iv 0), (iv 0)], pb 456 25 [(iv x), (iv y)]] from by rw [hx, hy])) ?_
            refine T_r mixed [(1, .call [] [(.agg [(iv x), (iv y)])] [] (.tup [(sv (st ((nameS x y).1))), (iv ((nameS x y).2))]) [])] [ps 0 (sv (st s)), ps 2 (.opt 0 0), ps 11 (.opt 456 0), ps 13 (sv (st ((nameS x y).1))), ps 14 (iv ((nameS x y).2)), pb 0 25 [(iv 0), (iv 0)], pb 456 25 [(iv x), (iv y)]] (obs_cons (name_pc x y (by unfold Pi.I64; omega) (by unfold Pi.I64; omega)) (obs_cons (rfl : Ren0 984 [(.agg [(iv x), (iv y)])]) obs_nil)) ?_
            refine T_seq ?_
            by_cases h60 : ((nameS x y).2) = 0
            · refine T_r mixed [(3, .gd false (.no)), (4, .gd false (.no)), (5, .gd false (.val (.av (.bool (!decide (((nameS x y).1) = s)))))), (6, .yes false)] [ps 2 (.opt 0 0), ps 11 (.opt 456 0), ps 154 (bv (!(decide (((nameS x y).1) = s)))), pb 0 25 [(iv 0), (iv 0)], pb 456 25 [(iv x), (iv y)]] (obs_cons (bt h60) (obs_cons (bt h60) (obs_cons (bt h60) (obs_cons (st_ne _ _ : (!((st ((nameS x y).1)).toList == (st s).toList)) = !decide (((nameS x y).1) = s)) (obs_cons (bt h60) obs_nil))))) ?_
              by_cases h61 : ((nameS x y).1) = s
              · refine T_el (bt h61) ?_
                refine T_skip <| T_seq ?_
                refine T_r mixed [] [ps 2 (.opt 0 0), ps 3 (iv 0), pb 0 25 [(iv x), (iv y)]] (obs_nil) ?_
                rw [(named_some (s := s) h1 h2 h3 h4 h5 (val_d (fun c => h6 c.1) (fun c => c.2 h38) (fun c => h39 c.1) h52 h58 h38) (j := (x, y)) (by unfold jOf stepsOf; rw [if_pos (by omega)]; exact Prod.ext (by show _ = x; omega) (by show _ = y; omega))).trans (checked_yes h60 h61)]
                exact T_ret fun cx_ a_ hI_ => rt hc0 [ps 2 (.opt 0 0), ps 3 (iv 0), pb 0 25 [(iv x), (iv y)]] [0] hI_
              refine T_th (bf h61) ?_
              refine T_seq ?_
              refine T_r mixed [] [ps 2 (.opt 0 0), ps 3 (iv 2), pb 0 25 [(iv 0), (iv 0)]] (obs_nil) ?_
              rw [(named_some (s := s) h1 h2 h3 h4 h5 (val_d (fun c => h6 c.1) (fun c => c.2 h38) (fun c => h39 c.1) h52 h58 h38) (j := (x, y)) (by unfold jOf stepsOf; rw [if_pos (by omega)]; exact Prod.ext (by show _ = x; omega) (by show _ = y; omega))).trans (checked_no2 h61)]
              exact T_ret fun cx_ a_ hI_ => rt hc0 [ps 2 (.opt 0 0), ps 3 (iv 2), pb 0 25 [(iv 0), (iv 0)]] [0] hI_
            refine T_r mixed [(3, .gd true .no), (4, .gd true .no), (5, .gd true .no), (6, .yes true)] [ps 2 (.opt 0 0), ps 11 (.opt 456 0), ps 154 (bv true), pb 0 25 [(iv 0), (iv 0)], pb 456 25 [(iv x), (iv y)]] (obs_cons (bf h60) (obs_cons (bf h60) (obs_cons (bf h60) (obs_cons (bf h60) obs_nil)))) ?_
            refine T_then (b := true) rfl rfl ?_
            refine T_seq ?_
            refine T_r mixed [] [ps 2 (.opt 0 0), ps 3 (iv 2), pb 0 25 [(iv 0), (iv 0)]] (obs_nil) ?_
            rw [(named_some (s := s) h1 h2 h3 h4 h5 (val_d (fun c => h6 c.1) (fun c => c.2 h38) (fun c => h39 c.1) h52 h58 h38) (j := (x, y)) (by unfold jOf stepsOf; rw [if_pos (by omega)]; exact Prod.ext (by show _ = x; omega) (by show _ = y; omega))).trans (checked_no1 h60)]
            exact T_ret fun cx_ a_ hI_ => rt hc0 [ps 2 (.opt 0 0), ps 3 (iv 2), pb 0 25 [(iv 0), (iv 0)]] [0] hI_
          refine T_el (decide_eq_false h59) ?_
          refine T_skip <| T_seq <| T_seq ?_
          obtain ⟨x, hx⟩ : ∃ x, x = ((numS (dOf s)).1) - 1 := ⟨_, rfl⟩
          obtain ⟨y, hy⟩ : ∃ y, y = ((12 * ((((numS (dOf s)).1) - 1) / 7)) + (Pi.nat7 ((((numS (dOf s)).1) - 1) % 7))) - (((qOf s).length : Nat) : Int) := ⟨_, rfl⟩
          refine T_wk (Wk.eq (show _ = [ps 0 (sv (st s)), ps 2 (.opt 0 0), ps 11 (.opt 456 0), ps 134 (bv (decide ((((tOf s).length : Nat) : Int) < ((s.length : Nat) : Int)))), pb 0 25 [(iv 0), (iv 0)], pb 456 25 [(iv x), (iv y)]] from by rw [hx, hy])) ?_
          refine T_r mixed [(1, .call [] [(.agg [(iv x), (iv y)])] [] (.tup [(sv (st ((nameS x y).1))), (iv ((nameS x y).2))]) [])] [ps 0 (sv (st s)), ps 2 (.opt 0 0), ps 11 (.opt 456 0), ps 13 (sv (st ((nameS x y).1))), ps 14 (iv ((nameS x y).2)), pb 0 25 [(iv 0), (iv 0)], pb 456 25 [(iv x), (iv y)]] (obs_cons (name_pc x y (by unfold Pi.I64; omega) (by unfold Pi.I64; omega)) (obs_cons (rfl : Ren0 904 [(.agg [(iv x), (iv y)])]) obs_nil)) ?_
          refine T_seq ?_
          by_cases h62 : ((nameS x y).2) = 0
          · refine T_r mixed [(3, .gd false (.no)), (4, .gd false (.no)), (5, .gd false (.val (.av (.bool (!decide (((nameS x y).1) = s)))))), (6, .yes false)] [ps 2 (.opt 0 0), ps 11 (.opt 456 0), ps 154 (bv (!(decide (((nameS x y).1) = s)))), pb 0 25 [(iv 0), (iv 0)], pb 456 25 [(iv x), (iv y)]] (obs_cons (bt h62) (obs_cons (bt h62) (obs_cons (bt h62) (obs_cons (st_ne _ _ : (!((st ((nameS x y).1)).toList == (st s).toList)) = !decide (((nameS x y).1) = s)) (obs_cons (bt h62) obs_nil))))) ?_
            by_cases h63 : ((nameS x y).1) = s
            · refine T_el (bt h63) ?_
              refine T_skip <| T_seq ?_
              refine T_r mixed [] [ps 2 (.opt 0 0), ps 3 (iv 0), pb 0 25 [(iv x), (iv y)]] (obs_nil) ?_
              rw [(named_some (s := s) h1 h2 h3 h4 h5 (val_d (fun c => h6 c.1) (fun c => c.2 h38) (fun c => h39 c.1) h52 h58 h38) (j := (x, y)) (by unfold jOf stepsOf; rw [if_neg (by omega)]; exact Prod.ext (by show _ = x; omega) (by show _ = y; omega))).trans (checked_yes h62 h63)]
              exact T_ret fun cx_ a_ hI_ => rt hc0 [ps 2 (.opt 0 0), ps 3 (iv 0), pb 0 25 [(iv x), (iv y)]] [0] hI_
            refine T_th (bf h63) ?_
            refine T_seq ?_
            refine T_r mixed [] [ps 2 (.opt 0 0), ps 3 (iv 2), pb 0 25 [(iv 0), (iv 0)]] (obs_nil) ?_
            rw [(named_some (s := s) h1 h2 h3 h4 h5 (val_d (fun c => h6 c.1) (fun c => c.2 h38) (fun c => h39 c.1) h52 h58 h38) (j := (x, y)) (by unfold jOf stepsOf; rw [if_neg (by omega)]; exact Prod.ext (by show _ = x; omega) (by show _ = y; omega))).trans (checked_no2 h63)]
            exact T_ret fun cx_ a_ hI_ => rt hc0 [ps 2 (.opt 0 0), ps 3 (iv 2), pb 0 25 [(iv 0), (iv 0)]] [0] hI_
          refine T_r mixed [(3, .gd true .no), (4, .gd true .no), (5, .gd true .no), (6, .yes true)] [ps 2 (.opt 0 0), ps 11 (.opt 456 0), ps 154 (bv true), pb 0 25 [(iv 0), (iv 0)], pb 456 25 [(iv x), (iv y)]] (obs_cons (bf h62) (obs_cons (bf h62) (obs_cons (bf h62) (obs_cons (bf h62) obs_nil)))) ?_
          refine T_then (b := true) rfl rfl ?_
          refine T_seq ?_
          refine T_r mixed [] [ps 2 (.opt 0 0), ps 3 (iv 2), pb 0 25 [(iv 0), (iv 0)]] (obs_nil) ?_
          rw [(named_some (s := s) h1 h2 h3 h4 h5 (val_d (fun c => h6 c.1) (fun c => c.2 h38) (fun c => h39 c.1) h52 h58 h38) (j := (x, y)) (by unfold jOf stepsOf; rw [if_neg (by omega)]; exact Prod.ext (by show _ = x; omega) (by show _ = y; omega))).trans (checked_no1 h62)]
          exact T_ret fun cx_ a_ hI_ => rt hc0 [ps 2 (.opt 0 0), ps 3 (iv 2), pb 0 25 [(iv 0), (iv 0)]] [0] hI_
        refine T_r mixed [(1, .call [] [(sv (st (qOf s))), (sv (st [100]))] [] (sv (st (Lib.trimS (qOf s) [100]))) []), (2, .val (.av (.bool (decide ((Lib.trimS (qOf s) [100]) = ([] : List UInt8)))))), (4, .gd false .no), (5, .gd false .no), (6, .gd false .no), (7, .yes false)] [ps 0 (sv (st s)), ps 2 (.opt 0 0), ps 4 (sv (st (tOf s))), ps 6 (sv (st (qOf s))), ps 11 (.opt 456 0), ps 12 (nv ((qOf s).length)), ps 106 (bv false), pb 0 25 [(iv 0), (iv 0)], pb 456 25 [(iv (((numS (dOf s)).1) - 1)), (iv ((12 * ((((numS (dOf s)).1) - 1) / 7)) + (Pi.nat7 ((((numS (dOf s)).1) - 1) % 7))))]] (obs_cons (trim_pc (qOf s) [100] (by omega) (by decide) (one_ascii (by decide))) (obs_cons (rfl : [(sv (st (qOf s))), (sv (st ([100] : List UInt8)))] = renL (sigi [] 744) [(sv (st (qOf s))), (sv (st [100]))]) (obs_cons (st_eq _ _ : ((st (Lib.trimS (qOf s) [100])).toList == (st ([] : List UInt8)).toList) = decide ((Lib.trimS (qOf s) [100]) = ([] : List UInt8))) (obs_cons (decide_eq_false h58) (obs_cons (decide_eq_false h58) (obs_cons (decide_eq_false h58) (obs_cons (decide_eq_false h58) obs_nil))))))) ?_
        refine T_else (b := false) rfl rfl ?_
        refine T_seq ?_
        refine T_r mixed [(1, .call [] [(sv (st (qOf s))), (sv (st [100]))] [] (sv (st (Lib.trimS (qOf s) [100]))) []), (2, .val (.av (.bool (decide ((Lib.trimS (qOf s) [100]) = ([] : List UInt8))))))] [ps 0 (sv (st s)), ps 2 (.opt 0 0), ps 4 (sv (st (tOf s))), ps 11 (.opt 456 0), ps 12 (nv ((qOf s).length)), ps 120 (bv (decide ((Lib.trimS (qOf s) [100]) = ([] : List UInt8)))), pb 0 25 [(iv 0), (iv 0)], pb 456 25 [(iv (((numS (dOf s)).1) - 1)), (iv ((12 * ((((numS (dOf s)).1) - 1) / 7)) + (Pi.nat7 ((((numS (dOf s)).1) - 1) % 7))))]] (obs_cons (trim_pc (qOf s) [100] (by omega) (by decide) (one_ascii (by decide))) (obs_cons (rfl : [(sv (st (qOf s))), (sv (st ([100] : List UInt8)))] = renL (sigi [] 816) [(sv (st (qOf s))), (sv (st [100]))]) (obs_cons (st_eq _ _ : ((st (Lib.trimS (qOf s) [100])).toList == (st ([] : List UInt8)).toList) = decide ((Lib.trimS (qOf s) [100]) = ([] : List UInt8))) obs_nil))) ?_
        refine T_el (decide_eq_false h58) ?_
        refine T_seq ?_
        refine T_r mixed [] [ps 2 (.opt 0 0), ps 3 (iv 2), pb 0 25 [(iv 0), (iv 0)]] (obs_nil) ?_
        rw [named_none (s := s) h1 h2 h3 h4 h5 (val_no (fun c => h6 c.1) (fun c => c.2 h38) (fun c => h39 c.1) h52 h58)]
        exact T_ret fun cx_ a_ hI_ => rt hc0 [ps 2 (.opt 0 0), ps 3 (iv 2), pb 0 25 [(iv 0), (iv 0)]] [0] hI_
      refine T_th (congrArg Bool.not (Bool.eq_false_iff.2 h38)) ?_
      refine T_skip <| T_blk <| T_seq <| T_seq ?_
      refine T_r mixed [] [ps 0 (sv (st s)), ps 2 (.opt 0 0), ps 11 (.opt 456 0), ps 134 (bv (decide ((((tOf s).length : Nat) : Int) < ((s.length : Nat) : Int)))), pb 0 25 [(iv 0), (iv 0)], pb 456 25 [(iv (((numS (dOf s)).1) - 1)), (iv ((12 * ((((numS (dOf s)).1) - 1) / 7)) + (Pi.nat7 ((((numS (dOf s)).1) - 1) % 7))))]] (obs_nil) ?_
      by_cases h64 : (((tOf s).length : Nat) : Int) < ((s.length : Nat) : Int)
      · refine T_th (decide_eq_true h64) ?_
        refine T_r mixed [] [ps 0 (sv (st s)), ps 2 (.opt 0 0), ps 11 (.opt 456 0), pb 0 25 [(iv 0), (iv 0)], pb 456 25 [(iv (0 - (((numS (dOf s)).1) - 1))), (iv (0 - ((12 * ((((numS (dOf s)).1) - 1) / 7)) + (Pi.nat7 ((((numS (dOf s)).1) - 1) % 7)))))]] (obs_cons (by simp only [InK]; omega : InK .i64 (0 - (((numS (dOf s)).1) - 1))) (obs_cons (by simp only [InK]; omega : InK .i64 (0 - ((12 * ((((numS (dOf s)).1) - 1) / 7)) + (Pi.nat7 ((((numS (dOf s)).1) - 1) % 7))))) obs_nil)) ?_
        refine T_seq <| T_seq ?_
        obtain ⟨x, hx⟩ : ∃ x, x = 0 - (((numS (dOf s)).1) - 1) := ⟨_, rfl⟩
        obtain ⟨y, hy⟩ : ∃ y, y = 0 - ((12 * ((((numS (dOf s)).1) - 1) / 7)) + (Pi.nat7 ((((numS (dOf s)).1) - 1) % 7))) := ⟨_, rfl⟩
        refine T_wk (Wk.eq (show _ = [ps 0 (sv (st s)), ps 2 (.opt 0 0), ps 11 (.opt 456 0), pb 0 25 [(iv 0), (iv 0)], pb 456 25 [(iv x), (iv y)]] from by rw [hx, hy])) ?_
        refine T_r mixed [(1, .call [] [(.agg [(iv x), (iv y)])] [] (.tup [(sv (st ((nameS x y).1))), (iv ((nameS x y).2))]) [])] [ps 0 (sv (st s)), ps 2 (.opt 0 0), ps 11 (.opt 456 0), ps 13 (sv (st ((nameS x y).1))), ps 14 (iv ((nameS x y).2)), pb 0 25 [(iv 0), (iv 0)], pb 456 25 [(iv x), (iv y)]] (obs_cons (name_pc x y (by unfold Pi.I64; omega) (by unfold Pi.I64; omega)) (obs_cons (rfl : Ren0 760 [(.agg [(iv x), (iv y)])]) obs_nil)) ?_
        refine T_seq ?_
        by_cases h65 : ((nameS x y).2) = 0
        · refine T_r mixed [(3, .gd false (.no)), (4, .gd false (.no)), (5, .gd false (.val (.av (.bool (!decide (((nameS x y).1) = s)))))), (6, .yes false)] [ps 2 (.opt 0 0), ps 11 (.opt 456 0), ps 154 (bv (!(decide (((nameS x y).1) = s)))), pb 0 25 [(iv 0), (iv 0)], pb 456 25 [(iv x), (iv y)]] (obs_cons (bt h65) (obs_cons (bt h65) (obs_cons (bt h65) (obs_cons (st_ne _ _ : (!((st ((nameS x y).1)).toList == (st s).toList)) = !decide (((nameS x y).1) = s)) (obs_cons (bt h65) obs_nil))))) ?_
          by_cases h66 : ((nameS x y).1) = s
          · refine T_el (bt h66) ?_
            refine T_skip <| T_seq ?_
            refine T_r mixed [] [ps 2 (.opt 0 0), ps 3 (iv 0), pb 0 25 [(iv x), (iv y)]] (obs_nil) ?_
            rw [(named_some (s := s) h1 h2 h3 h4 h5 (val_M h37 h38) (j := (x, y)) (by unfold jOf stepsOf; rw [if_pos (by omega)]; exact Prod.ext (by show _ = x; omega) (by show _ = y; omega))).trans (checked_yes h65 h66)]
            exact T_ret fun cx_ a_ hI_ => rt hc0 [ps 2 (.opt 0 0), ps 3 (iv 0), pb 0 25 [(iv x), (iv y)]] [0] hI_
          refine T_th (bf h66) ?_
          refine T_seq ?_
          refine T_r mixed [] [ps 2 (.opt 0 0), ps 3 (iv 2), pb 0 25 [(iv 0), (iv 0)]] (obs_nil) ?_
          rw [(named_some (s := s) h1 h2 h3 h4 h5 (val_M h37 h38) (j := (x, y)) (by unfold jOf stepsOf; rw [if_pos (by omega)]; exact Prod.ext (by show _ = x; omega) (by show _ = y; omega))).trans (checked_no2 h66)]
          exact T_ret fun cx_ a_ hI_ => rt hc0 [ps 2 (.opt 0 0), ps 3 (iv 2), pb 0 25 [(iv 0), (iv 0)]] [0] hI_
        refine T_r mixed [(3, .gd true .no), (4, .gd true .no), (5, .gd true .no), (6, .yes true)] [ps 2 (.opt 0 0), ps 11 (.opt 456 0), ps 154 (bv true), pb 0 25 [(iv 0), (iv 0)], pb 456 25 [(iv x), (iv y)]] (obs_cons (bf h65) (obs_cons (bf h65) (obs_cons (bf h65) (obs_cons (bf h65) obs_nil)))) ?_
        refine T_then (b := true) rfl rfl ?_
        refine T_seq ?_
        refine T_r mixed [] [ps 2 (.opt 0 0), ps 3 (iv 2), pb 0 25 [(iv 0), (iv 0)]] (obs_nil) ?_
        rw [(named_some (s := s) h1 h2 h3 h4 h5 (val_M h37 h38) (j := (x, y)) (by unfold jOf stepsOf; rw [if_pos (by omega)]; exact Prod.ext (by show _ = x; omega) (by show _ = y; omega))).trans (checked_no1 h65)]
        exact T_ret fun cx_ a_ hI_ => rt hc0 [ps 2 (.opt 0 0), ps 3 (iv 2), pb 0 25 [(iv 0), (iv 0)]] [0] hI_
      refine T_el (decide_eq_false h64) ?_
      refine T_skip <| T_seq <| T_seq ?_
      obtain ⟨x, hx⟩ : ∃ x, x = ((numS (dOf s)).1) - 1 := ⟨_, rfl⟩
      obtain ⟨y, hy⟩ : ∃ y, y = (12 * ((((numS (dOf s)).1) - 1) / 7)) + (Pi.nat7 ((((numS (dOf s)).1) - 1) % 7)) := ⟨_, rfl⟩
      refine T_wk (Wk.eq (show _ = [ps 0 (sv (st s)), ps 2 (.opt 0 0), ps 11 (.opt 456 0), ps 134 (bv (decide ((((tOf s).length : Nat) : Int) < ((s.length : Nat) : Int)))), pb 0 25 [(iv 0), (iv 0)], pb 456 25 [(iv x), (iv y)]] from by rw [hx, hy])) ?_
      refine T_r mixed [(1, .call [] [(.agg [(iv x), (iv y)])] [] (.tup [(sv (st ((nameS x y).1))), (iv ((nameS x y).2))]) [])] [ps 0 (sv (st s)), ps 2 (.opt 0 0), ps 11 (.opt 456 0), ps 13 (sv (st ((nameS x y).1))), ps 14 (iv ((nameS x y).2)), pb 0 25 [(iv 0), (iv 0)], pb 456 25 [(iv x), (iv y)]] (obs_cons (name_pc x y (by unfold Pi.I64; omega) (by unfold Pi.I64; omega)) (obs_cons (rfl : Ren0 680 [(.agg [(iv x), (iv y)])]) obs_nil)) ?_
      refine T_seq ?_
      by_cases h67 : ((nameS x y).2) = 0
      · refine T_r mixed [(3, .gd false (.no)), (4, .gd false (.no)), (5, .gd false (.val (.av (.bool (!decide (((nameS x y).1) = s)))))), (6, .yes false)] [ps 2 (.opt 0 0), ps 11 (.opt 456 0), ps 154 (bv (!(decide (((nameS x y).1) = s)))), pb 0 25 [(iv 0), (iv 0)], pb 456 25 [(iv x), (iv y)]] (obs_cons (bt h67) (obs_cons (bt h67) (obs_cons (bt h67) (obs_cons (st_ne _ _ : (!((st ((nameS x y).1)).toList == (st s).toList)) = !decide (((nameS x y).1) = s)) (obs_cons (bt h67) obs_nil))))) ?_
        by_cases h68 : ((nameS x y).1) = s
        · refine T_el (bt h68) ?_
          refine T_skip <| T_seq ?_
          refine T_r mixed [] [ps 2 (.opt 0 0), ps 3 (iv 0), pb 0 25 [(iv x), (iv y)]] (obs_nil) ?_
          rw [(named_some (s := s) h1 h2 h3 h4 h5 (val_M h37 h38) (j := (x, y)) (by unfold jOf stepsOf; rw [if_neg (by omega)]; exact Prod.ext (by show _ = x; omega) (by show _ = y; omega))).trans (checked_yes h67 h68)]
          exact T_ret fun cx_ a_ hI_ => rt hc0 [ps 2 (.opt 0 0), ps 3 (iv 0), pb 0 25 [(iv x), (iv y)]] [0] hI_
        refine T_th (bf h68) ?_
        refine T_seq ?_
        refine T_r mixed [] [ps 2 (.opt 0 0), ps 3 (iv 2), pb 0 25 [(iv 0), (iv 0)]] (obs_nil) ?_
        rw [(named_some (s := s) h1 h2 h3 h4 h5 (val_M h37 h38) (j := (x, y)) (by unfold jOf stepsOf; rw [if_neg (by omega)]; exact Prod.ext (by show _ = x; omega) (by show _ = y; omega))).trans (checked_no2 h68)]
        exact T_ret fun cx_ a_ hI_ => rt hc0 [ps 2 (.opt 0 0), ps 3 (iv 2), pb 0 25 [(iv 0), (iv 0)]] [0] hI_
      refine T_r mixed [(3, .gd true .no), (4, .gd true .no), (5, .gd true .no), (6, .yes true)] [ps 2 (.opt 0 0), ps 11 (.opt 456 0), ps 154 (bv true), pb 0 25 [(iv 0), (iv 0)], pb 456 25 [(iv x), (iv y)]] (obs_cons (bf h67) (obs_cons (bf h67) (obs_cons (bf h67) (obs_cons (bf h67) obs_nil)))) ?_
      refine T_then (b := true) rfl rfl ?_
      refine T_seq ?_
      refine T_r mixed [] [ps 2 (.opt 0 0), ps 3 (iv 2), pb 0 25 [(iv 0), (iv 0)]] (obs_nil) ?_
      rw [(named_some (s := s) h1 h2 h3 h4 h5 (val_M h37 h38) (j := (x, y)) (by unfold jOf stepsOf; rw [if_neg (by omega)]; exact Prod.ext (by show _ = x; omega) (by show _ = y; omega))).trans (checked_no1 h67)]
      exact T_ret fun cx_ a_ hI_ => rt hc0 [ps 2 (.opt 0 0), ps 3 (iv 2), pb 0 25 [(iv 0), (iv 0)]] [0] hI_
    refine T_r mixed [(1, .val (.av (.bool (decide ((qOf s) = ([77] : List UInt8)))))), (3, .gd false .no), (4, .gd false .no), (5, .gd false .no), (6, .gd false .no), (7, .yes false)] [ps 0 (sv (st s)), ps 2 (.opt 0 0), ps 4 (sv (st (tOf s))), ps 6 (sv (st (qOf s))), ps 7 (iv ((numS (dOf s)).1)), ps 11 (.opt 456 0), ps 12 (nv ((qOf s).length)), ps 68 (bv false), pb 0 25 [(iv 0), (iv 0)], pb 456 25 [(iv (((numS (dOf s)).1) - 1)), (iv ((12 * ((((numS (dOf s)).1) - 1) / 7)) + (Pi.nat7 ((((numS (dOf s)).1) - 1) % 7))))]] (obs_cons (st_eq _ _ : ((st (qOf s)).toList == (st ([77] : List UInt8)).toList) = decide ((qOf s) = ([77] : List UInt8))) (obs_cons (decide_eq_false h37) (obs_cons (decide_eq_false h37) (obs_cons (decide_eq_false h37) (obs_cons (decide_eq_false h37) (obs_cons (decide_eq_false h37) obs_nil)))))) ?_
    refine T_else (b := false) rfl rfl ?_
    refine T_seq ?_
    by_cases h69 : (qOf s) = ([109] : List UInt8)
    · refine T_r mixed [(1, .val (.av (.bool (decide ((qOf s) = ([109] : List UInt8)))))), (3, .gd true (.no)), (4, .gd true (.no)), (5, .gd true (.call [] [(iv (((numS (dOf s)).1) - 1))] [] (bv (perfB (((numS (dOf s)).1) - 1))) [])), (6, .gd true (.no)), (7, .yes true)] [ps 0 (sv (st s)), ps 2 (.opt 0 0), ps 4 (sv (st (tOf s))), ps 6 (sv (st (qOf s))), ps 7 (iv ((numS (dOf s)).1)), ps 11 (.opt 456 0), ps 12 (nv ((qOf s).length)), ps 84 (bv (!(perfB (((numS (dOf s)).1) - 1)))), pb 0 25 [(iv 0), (iv 0)], pb 456 25 [(iv (((numS (dOf s)).1) - 1)), (iv ((12 * ((((numS (dOf s)).1) - 1) / 7)) + (Pi.nat7 ((((numS (dOf s)).1) - 1) % 7))))]] (obs_cons (st_eq _ _ : ((st (qOf s)).toList == (st ([109] : List UInt8)).toList) = decide ((qOf s) = ([109] : List UInt8))) (obs_cons (decide_eq_true h69) (obs_cons (decide_eq_true h69) (obs_cons (by simp only [InK]; omega : InK .i64 (((numS (dOf s)).1) - 1)) (obs_cons (decide_eq_true h69) (obs_cons (perfect_pc (((numS (dOf s)).1) - 1) (by omega)) (obs_cons (rfl : Ren0 672 [(iv (((numS (dOf s)).1) - 1))]) (obs_cons (decide_eq_true h69) (obs_cons (decide_eq_true h69) obs_nil))))))))) ?_
      by_cases h70 : (perfB (((numS (dOf s)).1) - 1)) = true
      · refine T_el (congrArg Bool.not h70) ?_
        refine T_seq ?_
        refine T_r mixed [(1, .call [] [(sv (st (qOf s))), (sv (st [65]))] [] (sv (st (Lib.trimS (qOf s) [65]))) []), (2, .val (.av (.bool (decide ((Lib.trimS (qOf s) [65]) = ([] : List UInt8))))))] [ps 0 (sv (st s)), ps 2 (.opt 0 0), ps 4 (sv (st (tOf s))), ps 6 (sv (st (qOf s))), ps 7 (iv ((numS (dOf s)).1)), ps 11 (.opt 456 0), ps 12 (nv ((qOf s).length)), ps 97 (bv (decide ((Lib.trimS (qOf s) [65]) = ([] : List UInt8)))), pb 0 25 [(iv 0), (iv 0)], pb 456 25 [(iv (((numS (dOf s)).1) - 1)), (iv ((12 * ((((numS (dOf s)).1) - 1) / 7)) + (Pi.nat7 ((((numS (dOf s)).1) - 1) % 7))))]] (obs_cons (trim_pc (qOf s) [65] (by omega) (by decide) (one_ascii (by decide))) (obs_cons (rfl : [(sv (st (qOf s))), (sv (st ([65] : List UInt8)))] = renL (sigi [] 712) [(sv (st (qOf s))), (sv (st [65]))]) (obs_cons (st_eq _ _ : ((st (Lib.trimS (qOf s) [65])).toList == (st ([] : List UInt8)).toList) = decide ((Lib.trimS (qOf s) [65]) = ([] : List UInt8))) obs_nil))) ?_
        by_cases h71 : (Lib.trimS (qOf s) [65]) = ([] : List UInt8)
        · refine T_th (decide_eq_true h71) ?_
          refine T_r mixed [] [ps 0 (sv (st s)), ps 2 (.opt 0 0), ps 4 (sv (st (tOf s))), ps 11 (.opt 456 0), pb 0 25 [(iv 0), (iv 0)], pb 456 25 [(iv (((numS (dOf s)).1) - 1)), (iv (((12 * ((((numS (dOf s)).1) - 1) / 7)) + (Pi.nat7 ((((numS (dOf s)).1) - 1) % 7))) + (((qOf s).length : Nat) : Int)))]] (obs_cons (by simp only [InK]; omega : InK .i64 (((12 * ((((numS (dOf s)).1) - 1) / 7)) + (Pi.nat7 ((((numS (dOf s)).1) - 1) % 7))) + (((qOf s).length : Nat) : Int))) obs_nil) ?_
          refine T_blk <| T_seq <| T_seq ?_
          refine T_r mixed [] [ps 0 (sv (st s)), ps 2 (.opt 0 0), ps 11 (.opt 456 0), ps 134 (bv (decide ((((tOf s).length : Nat) : Int) < ((s.length : Nat) : Int)))), pb 0 25 [(iv 0), (iv 0)], pb 456 25 [(iv (((numS (dOf s)).1) - 1)), (iv (((12 * ((((numS (dOf s)).1) - 1) / 7)) + (Pi.nat7 ((((numS (dOf s)).1) - 1) % 7))) + (((qOf s).length : Nat) : Int)))]] (obs_nil) ?_
          by_cases h72 : (((tOf s).length : Nat) : Int) < ((s.length : Nat) : Int)
          · refine T_th (decide_eq_true h72) ?_
            refine T_r mixed [] [ps 0 (sv (st s)), ps 2 (.opt 0 0), ps 11 (.opt 456 0), pb 0 25 [(iv 0), (iv 0)], pb 456 25 [(iv (0 - (((numS (dOf s)).1) - 1))), (iv (0 - (((12 * ((((numS (dOf s)).1) - 1) / 7)) + (Pi.nat7 ((((numS (dOf s)).1) - 1) % 7))) + (((qOf s).length : Nat) : Int))))]] (obs_cons (by simp only [InK]; omega : InK .i64 (0 - (((numS (dOf s)).1) - 1))) (obs_cons (by simp only [InK]; omega : InK .i64 (0 - (((12 * ((((numS (dOf s)).1) - 1) / 7)) + (Pi.nat7 ((((numS (dOf s)).1) - 1) % 7))) + (((qOf s).length : Nat) : Int)))) obs_nil)) ?_
            refine T_seq <| T_seq ?_
            obtain ⟨x, hx⟩ : ∃ x, x = 0 - (((numS (dOf s)).1) - 1) := ⟨_, rfl⟩
            obtain ⟨y, hy⟩ : ∃ y, y = 0 - (((12 * ((((numS (dOf s)).1) - 1) / 7)) + (Pi.nat7 ((((numS (dOf s)).1) - 1) % 7))) + (((qOf s).length : Nat) : Int)) := ⟨_, rfl⟩
            refine T_wk (Wk.eq (show _ = [ps 0 (sv (st s)), ps 2 (.opt 0 0), ps 11 (.opt 456 0), pb 0 25 [(iv 0), (iv 0)], pb 456 25 [(iv x), (iv y)]] from by rw [hx, hy])) ?_
            refine T_r mixed [(1, .call [] [(.agg [(iv x), (iv y)])] [] (.tup [(sv (st ((nameS x y).1))), (iv ((nameS x y).2))]) [])] [ps 0 (sv (st s)), ps 2 (.opt 0 0), ps 11 (.opt 456 0), ps 13 (sv (st ((nameS x y).1))), ps 14 (iv ((nameS x y).2)), pb 0 25 [(iv 0), (iv 0)], pb 456 25 [(iv x), (iv y)]] (obs_cons (name_pc x y (by unfold Pi.I64; omega) (by unfold Pi.I64; omega)) (obs_cons (rfl : Ren0 912 [(.agg [(iv x), (iv y)])]) obs_nil)) ?_
            refine T_seq ?_
            by_cases h73 : ((nameS x y).2) = 0
            · refine T_r mixed [(3, .gd false (.no)), (4, .gd false (.no)), (5, .gd false (.val (.av (.bool (!decide (((nameS x y).1) = s)))))), (6, .yes false)] [ps 2 (.opt 0 0), ps 11 (.opt 456 0), ps 154 (bv (!(decide (((nameS x y).1) = s)))), pb 0 25 [(iv 0), (iv 0)], pb 456 25 [(iv x), (iv y)]] (obs_cons (bt h73) (obs_cons (bt h73) (obs_cons (bt h73) (obs_cons (st_ne _ _ : (!((st ((nameS x y).1)).toList == (st s).toList)) = !decide (((nameS x y).1) = s)) (obs_cons (bt h73) obs_nil))))) ?_
              by_cases h74 : ((nameS x y).1) = s
              · refine T_el (bt h74) ?_
                refine T_skip <| T_seq ?_
                refine T_r mixed [] [ps 2 (.opt 0 0), ps 3 (iv 0), pb 0 25 [(iv x), (iv y)]] (obs_nil) ?_
                rw [(named_some (s := s) h1 h2 h3 h4 h5 (val_A (fun c => h6 c.1) (fun c => h37 c.1) (fun c => c.2 h70) h71) (j := (x, y)) (by unfold jOf stepsOf; rw [if_pos (by omega)]; exact Prod.ext (by show _ = x; omega) (by show _ = y; omega))).trans (checked_yes h73 h74)]
                exact T_ret fun cx_ a_ hI_ => rt hc0 [ps 2 (.opt 0 0), ps 3 (iv 0), pb 0 25 [(iv x), (iv y)]] [0] hI_
              refine T_th (bf h74) ?_
              refine T_seq ?_
              refine T_r mixed [] [ps 2 (.opt 0 0), ps 3 (iv 2), pb 0 25 [(iv 0), (iv 0)]] (obs_nil) ?_
              rw [(named_some (s := s) h1 h2 h3 h4 h5 (val_A (fun c => h6 c.1) (fun c => h37 c.1) (fun c => c.2 h70) h71) (j := (x, y)) (by unfold jOf stepsOf; rw [if_pos (by omega)]; exact Prod.ext (by show _ = x; omega) (by show _ = y; omega))).trans (checked_no2 h74)]
              exact T_ret fun cx_ a_ hI_ => rt hc0 [ps 2 (.opt 0 0), ps 3 (iv 2), pb 0 25 [(iv 0), (iv 0)]] [0] hI_
            refine T_r mixed [(3, .gd true .no), (4, .gd true .no), (5, .gd true .no), (6, .yes true)] [ps 2 (.opt 0 0), ps 11 (.opt 456 0), ps 154 (bv true), pb 0 25 [(iv 0), (iv 0)], pb 456 25 [(iv x), (iv y)]] (obs_cons (bf h73) (obs_cons (bf h73) (obs_cons (bf h73) (obs_cons (bf h73) obs_nil)))) ?_
            refine T_then (b := true) rfl rfl ?_
            refine T_seq ?_
            refine T_r mixed [] [ps 2 (.opt 0 0), ps 3 (iv 2), pb 0 25 [(iv 0), (iv 0)]] (obs_nil) ?_
            rw [(named_some (s := s) h1 h2 h3 h4 h5 (val_A (fun c => h6 c.1) (fun c => h37 c.1) (fun c => c.2 h70) h71) (j := (x, y)) (by unfold jOf stepsOf; rw [if_pos (by omega)]; exact Prod.ext (by show _ = x; omega) (by show _ = y; omega))).trans (checked_no1 h73)]
            exact T_ret fun cx_ a_ hI_ => rt hc0 [ps 2 (.opt 0 0), ps 3 (iv 2), pb 0 25 [(iv 0), (iv 0)]] [0] hI_
          refine T_el (decide_eq_false h72) ?_
          refine T_skip <| T_seq <| T_seq ?_
          obtain ⟨x, hx⟩ : ∃ x, x = ((numS (dOf s)).1) - 1 := ⟨_, rfl⟩
          obtain ⟨y, hy⟩ : ∃ y, y = ((12 * ((((numS (dOf s)).1) - 1) / 7)) + (Pi.nat7 ((((numS (dOf s)).1) - 1) % 7))) + (((qOf s).length : Nat) : Int) := ⟨_, rfl⟩
          refine T_wk (Wk.eq (show _ = [ps 0 (sv (st s)), ps 2 (.opt 0 0), ps 11 (.opt 456 0), ps 134 (bv (decide ((((tOf s).length : Nat) : Int) < ((s.length : Nat) : Int)))), pb 0 25 [(iv 0), (iv 0)], pb 456 25 [(iv x), (iv y)]] from by rw [hx, hy])) ?_
          refine T_r mixed [(1, .call [] [(.agg [(iv x), (iv y)])] [] (.tup [(sv (st ((nameS x y).1))), (iv ((nameS x y).2))]) [])] [ps 0 (sv (st s)), ps 2 (.opt 0 0), ps 11 (.opt 456 0), ps 13 (sv (st ((nameS x y).1))), ps 14 (iv ((nameS x y).2)), pb 0 25 [(iv 0), (iv 0)], pb 456 25 [(iv x), (iv y)]] (obs_cons (name_pc x y (by unfold Pi.I64; omega) (by unfold Pi.I64; omega)) (obs_cons (rfl : Ren0 832 [(.agg [(iv x), (iv y)])]) obs_nil)) ?_
          refine T_seq ?_
          by_cases h75 : ((nameS x y).2) = 0
          · refine T_r mixed [(3, .gd false (.no)), (4, .gd false (.no)), (5, .gd false (.val (.av (.bool (!decide (((nameS x y).1) = s)))))), (6, .yes false)] [ps 2 (.opt 0 0), ps 11 (.opt 456 0), ps 154 (bv (!(decide (((nameS x y).1) = s)))), pb 0 25 [(iv 0), (iv 0)], pb 456 25 [(iv x), (iv y)]] (obs_cons (bt h75) (obs_cons (bt h75) (obs_cons (bt h75) (obs_cons (st_ne _ _ : (!((st ((nameS x y).1)).toList == (st s).toList)) = !decide (((nameS x y).1) = s)) (obs_cons (bt h75) obs_nil))))) ?_
            by_cases h76 : ((nameS x y).1) = s
            · refine T_el (bt h76) ?_
              refine T_skip <| T_seq ?_
              refine T_r mixed [] [ps 2 (.opt 0 0), ps 3 (iv 0), pb 0 25 [(iv x), (iv y)]] (obs_nil) ?_
              rw [(named_some (s := s) h1 h2 h3 h4 h5 (val_A (fun c => h6 c.1) (fun c => h37 c.1) (fun c => c.2 h70) h71) (j := (x, y)) (by unfold jOf stepsOf; rw [if_neg (by omega)]; exact Prod.ext (by show _ = x; omega) (by show _ = y; omega))).trans (checked_yes h75 h76)]
              exact T_ret fun cx_ a_ hI_ => rt hc0 [ps 2 (.opt 0 0), ps 3 (iv 0), pb 0 25 [(iv x), (iv y)]] [0] hI_
            refine T_th (bf h76) ?_
            refine T_seq ?_
            refine T_r mixed [] [ps 2 (.opt 0 0), ps 3 (iv 2), pb 0 25 [(iv 0), (iv 0)]] (obs_nil) ?_
            rw [(named_some (s := s) h1 h2 h3 h4 h5 (val_A (fun c => h6 c.1) (fun c => h37 c.1) (fun c => c.2 h70) h71) (j := (x, y)) (by unfold jOf stepsOf; rw [if_neg (by omega)]; exact Prod.ext (by show _ = x; omega) (by show _ = y; omega))).trans (checked_no2 h76)]
            exact T_ret fun cx_ a_ hI_ => rt hc0 [ps 2 (.opt 0 0), ps 3 (iv 2), pb 0 25 [(iv 0), (iv 0)]] [0] hI_
          refine T_r mixed [(3, .gd true .no), (4, .gd true .no), (5, .gd true .no), (6, .yes true)] [ps 2 (.opt 0 0), ps 11 (.opt 456 0), ps 154 (bv true), pb 0 25 [(iv 0), (iv 0)], pb 456 25 [(iv x), (iv y)]] (obs_cons (bf h75) (obs_cons (bf h75) (obs_cons (bf h75) (obs_cons (bf h75) obs_nil)))) ?_
          refine T_then (b := true) rfl rfl ?_
          refine T_seq ?_
          refine T_r mixed [] [ps 2 (.opt 0 0), ps 3 (iv 2), pb 0 25 [(iv 0), (iv 0)]] (obs_nil) ?_
          rw [(named_some (s := s) h1 h2 h3 h4 h5 (val_A (fun c => h6 c.1) (fun c => h37 c.1) (fun c => c.2 h70) h71) (j := (x, y)) (by unfold jOf stepsOf; rw [if_neg (by omega)]; exact Prod.ext (by show _ = x; omega) (by show _ = y; omega))).trans (checked_no1 h75)]
          exact T_ret fun cx_ a_ hI_ => rt hc0 [ps 2 (.opt 0 0), ps 3 (iv 2), pb 0 25 [(iv 0), (iv 0)]] [0] hI_
        refine T_el (decide_eq_false h71) ?_
        refine T_seq ?_
        by_cases h77 : (Lib.trimS (qOf s) [100]) = ([] : List UInt8)
        · refine T_r mixed [(1, .call [] [(sv (st (qOf s))), (sv (st [100]))] [] (sv (st (Lib.trimS (qOf s) [100]))) []), (2, .val (.av (.bool (decide ((Lib.trimS (qOf s) [100]) = ([] : List UInt8)))))), (4, .gd true (.no)), (5, .gd true (.no)), (6, .gd true (.call [] [(iv (((numS (dOf s)).1) - 1))] [] (bv (perfB (((numS (dOf s)).1) - 1))) [])), (7, .yes true)] [ps 0 (sv (st s)), ps 2 (.opt 0 0), ps 4 (sv (st (tOf s))), ps 6 (sv (st (qOf s))), ps 11 (.opt 456 0), ps 12 (nv ((qOf s).length)), ps 106 (bv (perfB (((numS (dOf s)).1) - 1))), pb 0 25 [(iv 0), (iv 0)], pb 456 25 [(iv (((numS (dOf s)).1) - 1)), (iv ((12 * ((((numS (dOf s)).1) - 1) / 7)) + (Pi.nat7 ((((numS (dOf s)).1) - 1) % 7))))]] (obs_cons (trim_pc (qOf s) [100] (by omega) (by decide) (one_ascii (by decide))) (obs_cons (rfl : [(sv (st (qOf s))), (sv (st ([100] : List UInt8)))] = renL (sigi [] 744) [(sv (st (qOf s))), (sv (st [100]))]) (obs_cons (st_eq _ _ : ((st (Lib.trimS (qOf s) [100])).toList == (st ([] : List UInt8)).toList) = decide ((Lib.trimS (qOf s) [100]) = ([] : List UInt8))) (obs_cons (decide_eq_true h77) (obs_cons (decide_eq_true h77) (obs_cons (by simp only [InK]; omega : InK .i64 (((numS (dOf s)).1) - 1)) (obs_cons (decide_eq_true h77) (obs_cons (perfect_pc (((numS (dOf s)).1) - 1) (by omega)) (obs_cons (rfl : Ren0 784 [(iv (((numS (dOf s)).1) - 1))]) (obs_cons (decide_eq_true h77) obs_nil)))))))))) ?_
          refine T_then (b := (perfB (((numS (dOf s)).1) - 1))) rfl h70 ?_
          refine T_r mixed [] [ps 0 (sv (st s)), ps 2 (.opt 0 0), ps 4 (sv (st (tOf s))), ps 11 (.opt 456 0), pb 0 25 [(iv 0), (iv 0)], pb 456 25 [(iv (((numS (dOf s)).1) - 1)), (iv (((12 * ((((numS (dOf s)).1) - 1) / 7)) + (Pi.nat7 ((((numS (dOf s)).1) - 1) % 7))) - (((qOf s).length : Nat) : Int)))]] (obs_cons (by simp only [InK]; omega : InK .i64 (((12 * ((((numS (dOf s)).1) - 1) / 7)) + (Pi.nat7 ((((numS (dOf s)).1) - 1) % 7))) - (((qOf s).length : Nat) : Int))) obs_nil) ?_
          refine T_blk <| T_seq <| T_seq ?_
          refine T_r mixed [] [ps 0 (sv (st s)), ps 2 (.opt 0 0), ps 11 (.opt 456 0), ps 134 (bv (decide ((((tOf s).length : Nat) : Int) < ((s.length : Nat) : Int)))), pb 0 25 [(iv 0), (iv 0)], pb 456 25 [(iv (((numS (dOf s)).1) - 1)), (iv (((12 * ((((numS (dOf s)).1) - 1) / 7)) + (Pi.nat7 ((((numS (dOf s)).1) - 1) % 7))) - (((qOf s).length : Nat) : Int)))]] (obs_nil) ?_
          by_cases h78 : (((tOf s).length : Nat) : Int) < ((s.length : Nat) : Int)
          · refine T_th (decide_eq_true h78) ?_
            refine T_r mixed [] [ps 0 (sv (st s)), ps 2 (.opt 0 0), ps 11 (.opt 456 0), pb 0 25 [(iv 0), (iv 0)], pb 456 25 [(iv (0 - (((numS (dOf s)).1) - 1))), (iv (0 - (((12 * ((((numS (dOf s)).1) - 1) / 7)) + (Pi.nat7 ((((numS (dOf s)).1) - 1) % 7))) - (((qOf s).length : Nat) : Int))))]] (obs_cons (by simp only [InK]; omega : InK .i64 (0 - (((numS (dOf s)).1) - 1))) (obs_cons (by simp only [InK]; omega : InK .i64 (0 - (((12 * ((((numS (dOf s)).1) - 1) / 7)) + (Pi.nat7 ((((numS (dOf s)).1) - 1) % 7))) - (((qOf s).length : Nat) : Int)))) obs_nil)) ?_
            refine T_seq <| T_seq ?_
            obtain ⟨x, hx⟩ : ∃ x, x = 0 - (((numS (dOf s)).1) - 1) := ⟨_, rfl⟩
            obtain ⟨y, hy⟩ : ∃ y, y = 0 - (((12 * ((((numS (dOf s)).1) - 1) / 7)) + (Pi.nat7 ((((numS (dOf s)).1) - 1) % 7))) - (((qOf s).length : Nat) : Int)) := ⟨_, rfl⟩
            refine T_wk (Wk.eq (show _ = [ps 0 (sv (st s)), ps 2 (.opt 0 0), ps 11 (.opt 456 0), pb 0 25 [(iv 0), (iv 0)], pb 456 25 [(iv x), (iv y)]] from by rw [hx, hy])) ?_
            refine T_r mixed [(1, .call [] [(.agg [(iv x), (iv y)])] [] (.tup [(sv (st ((nameS x y).1))), (iv ((nameS x y).2))]) [])] [ps 0 (sv (st s)), ps 2 (.opt 0 0), ps 11 (.opt 456 0), ps 13 (sv (st ((nameS x y).1))), ps 14 (iv ((nameS x y).2)), pb 0 25 [(iv 0), (iv 0)], pb 456 25 [(iv x), (iv y)]] (obs_cons (name_pc x y (by unfold Pi.I64; omega) (by unfold Pi.I64; omega)) (obs_cons (rfl : Ren0 984 [(.agg [(iv x), (iv y)])]) obs_nil)) ?_
            refine T_seq ?_
            by_cases h79 : ((nameS x y).2) = 0
            · refine T_r mixed [(3, .gd false (.no)), (4, .gd false (.no)), (5, .gd false (.val (.av (.bool (!decide (((nameS x y).1) = s)))))), (6, .yes false)] [ps 2 (.opt 0 0), ps 11 (.opt 456 0), ps 154 (bv (!(decide (((nameS x y).1) = s)))), pb 0 25 [(iv 0), (iv 0)], pb 456 25 [(iv x), (iv y)]] (obs_cons (bt h79) (obs_cons (bt h79) (obs_cons (bt h79) (obs_cons (st_ne _ _ : (!((st ((nameS x y).1)).toList == (st s).toList)) = !decide (((nameS x y).1) = s)) (obs_cons (bt h79) obs_nil))))) ?_
              by_cases h80 : ((nameS x y).1) = s
              · refine T_el (bt h80) ?_
                refine T_skip <| T_seq ?_
                refine T_r mixed [] [ps 2 (.opt 0 0), ps 3 (iv 0), pb 0 25 [(iv x), (iv y)]] (obs_nil) ?_
                rw [(named_some (s := s) h1 h2 h3 h4 h5 (val_d (fun c => h6 c.1) (fun c => h37 c.1) (fun c => c.2 h70) h71 h77 h70) (j := (x, y)) (by unfold jOf stepsOf; rw [if_pos (by omega)]; exact Prod.ext (by show _ = x; omega) (by show _ = y; omega))).trans (checked_yes h79 h80)]
                exact T_ret fun cx_ a_ hI_ => rt hc0 [ps 2 (.opt 0 0), ps 3 (iv 0), pb 0 25 [(iv x), (iv y)]] [0] hI_
              refine T_th (bf h80) ?_
              refine T_seq ?_
              refine T_r mixed [] [ps 2 (.opt 0 0), ps 3 (iv 2), pb 0 25 [(iv 0), (iv 0)]] (obs_nil) ?_
              rw [(named_some (s := s) h1 h2 h3 h4 h5 (val_d (fun c => h6 c.1) (fun c => h37 c.1) (fun c => c.2 h70) h71 h77 h70) (j := (x, y)) (by unfold jOf stepsOf; rw [if_pos (by omega)]; exact Prod.ext (by show _ = x; omega) (by show _ = y; omega))).trans (checked_no2 h80)]
              exact T_ret fun cx_ a_ hI_ => rt hc0 [ps 2 (.opt 0 0), ps 3 (iv 2), pb 0 25 [(iv 0), (iv 0)]] [0] hI_
            refine T_r mixed [(3, .gd true .no), (4, .gd true .no), (5, .gd true .no), (6, .yes true)] [ps 2 (.opt 0 0), ps 11 (.opt 456 0), ps 154 (bv true), pb 0 25 [(iv 0), (iv 0)], pb 456 25 [(iv x), (iv y)]] (obs_cons (bf h79) (obs_cons (bf h79) (obs_cons (bf h79) (obs_cons (bf h79) obs_nil)))) ?_
            refine T_then (b := true) rfl rfl ?_
            refine T_seq ?_
            refine T_r mixed [] [ps 2 (.opt 0 0), ps 3 (iv 2), pb 0 25 [(iv 0), (iv 0)]] (obs_nil) ?_
            rw [(named_some (s := s) h1 h2 h3 h4 h5 (val_d (fun c => h6 c.1) (fun c => h37 c.1) (fun c => c.2 h70) h71 h77 h70) (j := (x, y)) (by unfold jOf stepsOf; rw [if_pos (by omega)]; exact Prod.ext (by show _ = x; omega) (by show _ = y; omega))).trans (checked_no1 h79)]
            exact T_ret fun cx_ a_ hI_ => rt hc0 [ps 2 (.opt 0 0), ps 3 (iv 2), pb 0 25 [(iv 0), (iv 0)]] [0] hI_
          refine T_el (decide_eq_false h78) ?_
          refine T_skip <| T_seq <| T_seq ?_
          obtain ⟨x, hx⟩ : ∃ x, x = ((numS (dOf s)).1) - 1 := ⟨_, rfl⟩
          obtain ⟨y, hy⟩ : ∃ y, y = ((12 * ((((numS (dOf s)).1) - 1) / 7)) + (Pi.nat7 ((((numS (dOf s)).1) - 1) % 7))) - (((qOf s).length : Nat) : Int) := ⟨_, rfl⟩
          refine T_wk (Wk.eq (show _ = [ps 0 (sv (st s)), ps 2 (.opt 0 0), ps 11 (.opt 456 0), ps 134 (bv (decide ((((tOf s).length : Nat) : Int) < ((s.length : Nat) : Int)))), pb 0 25 [(iv 0), (iv 0)], pb 456 25 [(iv x), (iv y)]] from by rw [hx, hy])) ?_
          refine T_r mixed [(1, .call [] [(.agg [(iv x), (iv y)])] [] (.tup [(sv (st ((nameS x y).1))), (iv ((nameS x y).2))]) [])] [ps 0 (sv (st s)), ps 2 (.opt 0 0), ps 11 (.opt 456 0), ps 13 (sv (st ((nameS x y).1))), ps 14 (iv ((nameS x y).2)), pb 0 25 [(iv 0), (iv 0)], pb 456 25 [(iv x), (iv y)]] (obs_cons (name_pc x y (by unfold Pi.I64; omega) (by unfold Pi.I64; omega)) (obs_cons (rfl : Ren0 904 [(.agg [(iv x), (iv y)])]) obs_nil)) ?_
          refine T_seq ?_
          by_cases h81 : ((nameS x y).2) = 0
          · refine T_r mixed [(3, .gd false (.no)), (4, .gd false (.no)), (5, .gd false (.val (.av (.bool (!decide (((nameS x y).1) = s)))))), (6, .yes false)] [ps 2 (.opt 0 0), ps 11 (.opt 456 0), ps 154 (bv (!(decide (((nameS x y).1) = s)))), pb 0 25 [(iv 0), (iv 0)], pb 456 25 [(iv x), (iv y)]] (obs_cons (bt h81) (obs_cons (bt h81) (obs_cons (bt h81) (obs_cons (st_ne _ _ : (!((st ((nameS x y).1)).toList == (st s).toList)) = !decide (((nameS x y).1) = s)) (obs_cons (bt h81) obs_nil))))) ?_
            by_cases h82 : ((nameS x y).1) = s
            · refine T_el (bt h82) ?_
              refine T_skip <| T_seq ?_
              refine T_r mixed [] [ps 2 (.opt 0 0), ps 3 (iv 0), pb 0 25 [(iv x), (iv y)]] (obs_nil) ?_
              rw [(named_some (s := s) h1 h2 h3 h4 h5 (val_d (fun c => h6 c.1) (fun c => h37 c.1) (fun c => c.2 h70) h71 h77 h70) (j := (x, y)) (by unfold jOf stepsOf; rw [if_neg (by omega)]; exact Prod.ext (by show _ = x; omega) (by show _ = y; omega))).trans (checked_yes h81 h82)]
              exact T_ret fun cx_ a_ hI_ => rt hc0 [ps 2 (.opt 0 0), ps 3 (iv 0), pb 0 25 [(iv x), (iv y)]] [0] hI_
            refine T_th (bf h82) ?_
            refine T_seq ?_
            refine T_r mixed [] [ps 2 (.opt 0 0), ps 3 (iv 2), pb 0 25 [(iv 0), (iv 0)]] (obs_nil) ?_
            rw [(named_some (s := s) h1 h2 h3 h4 h5 (val_d (fun c => h6 c.1) (fun c => h37 c.1) (fun c => c.2 h70) h71 h77 h70) (j := (x, y)) (by unfold jOf stepsOf; rw [if_neg (by omega)]; exact Prod.ext (by show _ = x; omega) (by show _ = y; omega))).trans (checked_no2 h82)]
            exact T_ret fun cx_ a_ hI_ => rt hc0 [ps 2 (.opt 0 0), ps 3 (iv 2), pb 0 25 [(iv 0), (iv 0)]] [0] hI_
          refine T_r mixed [(3, .gd true .no), (4, .gd true .no), (5, .gd true .no), (6, .yes true)] [ps 2 (.opt 0 0), ps 11 (.opt 456 0), ps 154 (bv true), pb 0 25 [(iv 0), (iv 0)], pb 456 25 [(iv x), (iv y)]] (obs_cons (bf h81) (obs_cons (bf h81) (obs_cons (bf h81) (obs_cons (bf h81) obs_nil)))) ?_
          refine T_then (b := true) rfl rfl ?_
          refine T_seq ?_
          refine T_r mixed [] [ps 2 (.opt 0 0), ps 3 (iv 2), pb 0 25 [(iv 0), (iv 0)]] (obs_nil) ?_
          rw [(named_some (s := s) h1 h2 h3 h4 h5 (val_d (fun c => h6 c.1) (fun c => h37 c.1) (fun c => c.2 h70) h71 h77 h70) (j := (x, y)) (by unfold jOf stepsOf; rw [if_neg (by omega)]; exact Prod.ext (by show _ = x; omega) (by show _ = y; omega))).trans (checked_no1 h81)]
          exact T_ret fun cx_ a_ hI_ => rt hc0 [ps 2 (.opt 0 0), ps 3 (iv 2), pb 0 25 [(iv 0), (iv 0)]] [0] hI_
        refine T_r mixed [(1, .call [] [(sv (st (qOf s))), (sv (st [100]))] [] (sv (st (Lib.trimS (qOf s) [100]))) []), (2, .val (.av (.bool (decide ((Lib.trimS (qOf s) [100]) = ([] : List UInt8)))))), (4, .gd false .no), (5, .gd false .no), (6, .gd false .no), (7, .yes false)] [ps 0 (sv (st s)), ps 2 (.opt 0 0), ps 4 (sv (st (tOf s))), ps 6 (sv (st (qOf s))), ps 11 (.opt 456 0), ps 12 (nv ((qOf s).length)), ps 106 (bv false), pb 0 25 [(iv 0), (iv 0)], pb 456 25 [(iv (((numS (dOf s)).1) - 1)), (iv ((12 * ((((numS (dOf s)).1) - 1) / 7)) + (Pi.nat7 ((((numS (dOf s)).1) - 1) % 7))))]] (obs_cons (trim_pc (qOf s) [100] (by omega) (by decide) (one_ascii (by decide))) (obs_cons (rfl : [(sv (st (qOf s))), (sv (st ([100] : List UInt8)))] = renL (sigi [] 744) [(sv (st (qOf s))), (sv (st [100]))]) (obs_cons (st_eq _ _ : ((st (Lib.trimS (qOf s) [100])).toList == (st ([] : List UInt8)).toList) = decide ((Lib.trimS (qOf s) [100]) = ([] : List UInt8))) (obs_cons (decide_eq_false h77) (obs_cons (decide_eq_false h77) (obs_cons (decide_eq_false h77) (obs_cons (decide_eq_false h77) obs_nil))))))) ?_
        refine T_else (b := false) rfl rfl ?_
        refine T_seq ?_
        refine T_r mixed [(1, .call [] [(sv (st (qOf s))), (sv (st [100]))] [] (sv (st (Lib.trimS (qOf s) [100]))) []), (2, .val (.av (.bool (decide ((Lib.trimS (qOf s) [100]) = ([] : List UInt8))))))] [ps 0 (sv (st s)), ps 2 (.opt 0 0), ps 4 (sv (st (tOf s))), ps 11 (.opt 456 0), ps 12 (nv ((qOf s).length)), ps 120 (bv (decide ((Lib.trimS (qOf s) [100]) = ([] : List UInt8)))), pb 0 25 [(iv 0), (iv 0)], pb 456 25 [(iv (((numS (dOf s)).1) - 1)), (iv ((12 * ((((numS (dOf s)).1) - 1) / 7)) + (Pi.nat7 ((((numS (dOf s)).1) - 1) % 7))))]] (obs_cons (trim_pc (qOf s) [100] (by omega) (by decide) (one_ascii (by decide))) (obs_cons (rfl : [(sv (st (qOf s))), (sv (st ([100] : List UInt8)))] = renL (sigi [] 816) [(sv (st (qOf s))), (sv (st [100]))]) (obs_cons (st_eq _ _ : ((st (Lib.trimS (qOf s) [100])).toList == (st ([] : List UInt8)).toList) = decide ((Lib.trimS (qOf s) [100]) = ([] : List UInt8))) obs_nil))) ?_
        refine T_el (decide_eq_false h77) ?_
        refine T_seq ?_
        refine T_r mixed [] [ps 2 (.opt 0 0), ps 3 (iv 2), pb 0 25 [(iv 0), (iv 0)]] (obs_nil) ?_
        rw [named_none (s := s) h1 h2 h3 h4 h5 (val_no (fun c => h6 c.1) (fun c => h37 c.1) (fun c => c.2 h70) h71 h77)]
        exact T_ret fun cx_ a_ hI_ => rt hc0 [ps 2 (.opt 0 0), ps 3 (iv 2), pb 0 25 [(iv 0), (iv 0)]] [0] hI_
      refine T_th (congrArg Bool.not (Bool.eq_false_iff.2 h70)) ?_
      refine T_r mixed [] [ps 0 (sv (st s)), ps 2 (.opt 0 0), ps 4 (sv (st (tOf s))), ps 11 (.opt 456 0), pb 0 25 [(iv 0), (iv 0)], pb 456 25 [(iv (((numS (dOf s)).1) - 1)), (iv (((12 * ((((numS (dOf s)).1) - 1) / 7)) + (Pi.nat7 ((((numS (dOf s)).1) - 1) % 7))) - 1))]] (obs_cons (by simp only [InK]; omega : InK .i64 (((12 * ((((numS (dOf s)).1) - 1) / 7)) + (Pi.nat7 ((((numS (dOf s)).1) - 1) % 7))) - 1)) obs_nil) ?_
      refine T_blk <| T_seq <| T_seq ?_
      refine T_r mixed [] [ps 0 (sv (st s)), ps 2 (.opt 0 0), ps 11 (.opt 456 0), ps 134 (bv (decide ((((tOf s).length : Nat) : Int) < ((s.length : Nat) : Int)))), pb 0 25 [(iv 0), (iv 0)], pb 456 25 [(iv (((numS (dOf s)).1) - 1)), (iv (((12 * ((((numS (dOf s)).1) - 1) / 7)) + (Pi.nat7 ((((numS (dOf s)).1) - 1) % 7))) - 1))]] (obs_nil) ?_
      by_cases h83 : (((tOf s).length : Nat) : Int) < ((s.length : Nat) : Int)
      · refine T_th (decide_eq_true h83) ?_
        refine T_r mixed [] [ps 0 (sv (st s)), ps 2 (.opt 0 0), ps 11 (.opt 456 0), pb 0 25 [(iv 0), (iv 0)], pb 456 25 [(iv (0 - (((numS (dOf s)).1) - 1))), (iv (0 - (((12 * ((((numS (dOf s)).1) - 1) / 7)) + (Pi.nat7 ((((numS (dOf s)).1) - 1) % 7))) - 1)))]] (obs_cons (by simp only [InK]; omega : InK .i64 (0 - (((numS (dOf s)).1) - 1))) (obs_cons (by simp only [InK]; omega : InK .i64 (0 - (((12 * ((((numS (dOf s)).1) - 1) / 7)) + (Pi.nat7 ((((numS (dOf s)).1) - 1) % 7))) - 1))) obs_nil)) ?_
        refine T_seq <| T_seq ?_
        obtain ⟨x, hx⟩ : ∃ x, x = 0 - (((numS (dOf s)).1) - 1) := ⟨_, rfl⟩
        obtain ⟨y, hy⟩ : ∃ y, y = 0 - (((12 * ((((numS (dOf s)).1) - 1) / 7)) + (Pi.nat7 ((((numS (dOf s)).1) - 1) % 7))) - 1) := ⟨_, rfl⟩
        refine T_wk (Wk.eq (show _ = [ps 0 (sv (st s)), ps 2 (.opt 0 0), ps 11 (.opt 456 0), pb 0 25 [(iv 0), (iv 0)], pb 456 25 [(iv x), (iv y)]] from by rw [hx, hy])) ?_
        refine T_r mixed [(1, .call [] [(.agg [(iv x), (iv y)])] [] (.tup [(sv (st ((nameS x y).1))), (iv ((nameS x y).2))]) [])] [ps 0 (sv (st s)), ps 2 (.opt 0 0), ps 11 (.opt 456 0), ps 13 (sv (st ((nameS x y).1))), ps 14 (iv ((nameS x y).2)), pb 0 25 [(iv 0), (iv 0)], pb 456 25 [(iv x), (iv y)]] (obs_cons (name_pc x y (by unfold Pi.I64; omega) (by unfold Pi.I64; omega)) (obs_cons (rfl : Ren0 872 [(.agg [(iv x), (iv y)])]) obs_nil)) ?_
        refine T_seq ?_
        by_cases h84 : ((nameS x y).2) = 0
        · refine T_r mixed [(3, .gd false (.no)), (4, .gd false (.no)), (5, .gd false (.val (.av (.bool (!decide (((nameS x y).1) = s)))))), (6, .yes false)] [ps 2 (.opt 0 0), ps 11 (.opt 456 0), ps 154 (bv (!(decide (((nameS x y).1) = s)))), pb 0 25 [(iv 0), (iv 0)], pb 456 25 [(iv x), (iv y)]] (obs_cons (bt h84) (obs_cons (bt h84) (obs_cons (bt h84) (obs_cons (st_ne _ _ : (!((st ((nameS x y).1)).toList == (st s).toList)) = !decide (((nameS x y).1) = s)) (obs_cons (bt h84) obs_nil))))) ?_
          by_cases h85 : ((nameS x y).1) = s
          · refine T_el (bt h85) ?_
            refine T_skip <| T_seq ?_
            refine T_r mixed [] [ps 2 (.opt 0 0), ps 3 (iv 0), pb 0 25 [(iv x), (iv y)]] (obs_nil) ?_
            rw [(named_some (s := s) h1 h2 h3 h4 h5 (val_m (fun c => h6 c.1) (fun c => h37 c.1) h69 h70) (j := (x, y)) (by unfold jOf stepsOf; rw [if_pos (by omega)]; exact Prod.ext (by show _ = x; omega) (by show _ = y; omega))).trans (checked_yes h84 h85)]
            exact T_ret fun cx_ a_ hI_ => rt hc0 [ps 2 (.opt 0 0), ps 3 (iv 0), pb 0 25 [(iv x), (iv y)]] [0] hI_
          refine T_th (bf h85) ?_
          refine T_seq ?_
          refine T_r mixed [] [ps 2 (.opt 0 0), ps 3 (iv 2), pb 0 25 [(iv 0), (iv 0)]] (obs_nil) ?_
          rw [(named_some (s := s) h1 h2 h3 h4 h5 (val_m (fun c => h6 c.1) (fun c => h37 c.1) h69 h70) (j := (x, y)) (by unfold jOf stepsOf; rw [if_pos (by omega)]; exact Prod.ext (by show _ = x; omega) (by show _ = y; omega))).trans (checked_no2 h85)]
          exact T_ret fun cx_ a_ hI_ => rt hc0 [ps 2 (.opt 0 0), ps 3 (iv 2), pb 0 25 [(iv 0), (iv 0)]] [0] hI_
        refine T_r mixed [(3, .gd true .no), (4, .gd true .no), (5, .gd true .no), (6, .yes true)] [ps 2 (.opt 0 0), ps 11 (.opt 456 0), ps 154 (bv true), pb 0 25 [(iv 0), (iv 0)], pb 456 25 [(iv x), (iv y)]] (obs_cons (bf h84) (obs_cons (bf h84) (obs_cons (bf h84) (obs_cons (bf h84) obs_nil)))) ?_
        refine T_then (b := true) rfl rfl ?_
        refine T_seq ?_
        refine T_r mixed [] [ps 2 (.opt 0 0), ps 3 (iv 2), pb 0 25 [(iv 0), (iv 0)]] (obs_nil) ?_
        rw [(named_some (s := s) h1 h2 h3 h4 h5 (val_m (fun c => h6 c.1) (fun c => h37 c.1) h69 h70) (j := (x, y)) (by unfold jOf stepsOf; rw [if_pos (by omega)]; exact Prod.ext (by show _ = x; omega) (by show _ = y; omega))).trans (checked_no1 h84)]
        exact T_ret fun cx_ a_ hI_ => rt hc0 [ps 2 (.opt 0 0), ps 3 (iv 2), pb 0 25 [(iv 0), (iv 0)]] [0] hI_
      refine T_el (decide_eq_false h83) ?_
      refine T_skip <| T_seq <| T_seq ?_
      obtain ⟨x, hx⟩ : ∃ x, x = ((numS (dOf s)).1) - 1 := ⟨_, rfl⟩
      obtain ⟨y, hy⟩ : ∃ y, y = ((12 * ((((numS (dOf s)).1) - 1) / 7)) + (Pi.nat7 ((((numS (dOf s)).1) - 1) % 7))) - 1 := ⟨_, rfl⟩
      refine T_wk (Wk.eq (show _ = [ps 0 (sv (st s)), ps 2 (.opt 0 0), ps 11 (.opt 456 0), ps 134 (bv (decide ((((tOf s).length : Nat) : Int) < ((s.length : Nat) : Int)))), pb 0 25 [(iv 0), (iv 0)], pb 456 25 [(iv x), (iv y)]] from by rw [hx, hy])) ?_
      refine T_r mixed [(1, .call [] [(.agg [(iv x), (iv y)])] [] (.tup [(sv (st ((nameS x y).1))), (iv ((nameS x y).2))]) [])] [ps 0 (sv (st s)), ps 2 (.opt 0 0), ps 11 (.opt 456 0), ps 13 (sv (st ((nameS x y).1))), ps 14 (iv ((nameS x y).2)), pb 0 25 [(iv 0), (iv 0)], pb 456 25 [(iv x), (iv y)]] (obs_cons (name_pc x y (by unfold Pi.I64; omega) (by unfold Pi.I64; omega)) (obs_cons (rfl : Ren0 792 [(.agg [(iv x), (iv y)])]) obs_nil)) ?_
      refine T_seq ?_
      by_cases h86 : ((nameS x y).2) = 0
      · refine T_r mixed [(3, .gd false (.no)), (4, .gd false (.no)), (5, .gd false (.val (.av (.bool (!decide (((nameS x y).1) = s)))))), (6, .yes false)] [ps 2 (.opt 0 0), ps 11 (.opt 456 0), ps 154 (bv (!(decide (((nameS x y).1) = s)))), pb 0 25 [(iv 0), (iv 0)], pb 456 25 [(iv x), (iv y)]] (obs_cons (bt h86) (obs_cons (bt h86) (obs_cons (bt h86) (obs_cons (st_ne _ _ : (!((st ((nameS x y).1)).toList == (st s).toList)) = !decide (((nameS x y).1) = s)) (obs_cons (bt h86) obs_nil))))) ?_
        by_cases h87 : ((nameS x y).1) = s
        · refine T_el (bt h87) ?_
          refine T_skip <| T_seq ?_
          refine T_r mixed [] [ps 2 (.opt 0 0), ps 3 (iv 0), pb 0 25 [(iv x), (iv y)]] (obs_nil) ?_
          rw [(named_some (s := s) h1 h2 h3 h4 h5 (val_m (fun c => h6 c.1) (fun c => h37 c.1) h69 h70) (j := (x, y)) (by unfold jOf stepsOf; rw [if_neg (by omega)]; exact Prod.ext (by show _ = x; omega) (by show _ = y; omega))).trans (checked_yes h86 h87)]
          exact T_ret fun cx_ a_ hI_ => rt hc0 [ps 2 (.opt 0 0), ps 3 (iv 0), pb 0 25 [(iv x), (iv y)]] [0] hI_
        refine T_th (bf h87) ?_
        refine T_seq ?_
        refine T_r mixed [] [ps 2 (.opt 0 0), ps 3 (iv 2), pb 0 25 [(iv 0), (iv 0)]] (obs_nil) ?_
        rw [(named_some (s := s) h1 h2 h3 h4 h5 (val_m (fun c => h6 c.1) (fun c => h37 c.1) h69 h70) (j := (x, y)) (by unfold jOf stepsOf; rw [if_neg (by omega)]; exact Prod.ext (by show _ = x; omega) (by show _ = y; omega))).trans (checked_no2 h87)]
        exact T_ret fun cx_ a_ hI_ => rt hc0 [ps 2 (.opt 0 0), ps 3 (iv 2), pb 0 25 [(iv 0), (iv 0)]] [0] hI_
      refine T_r mixed [(3, .gd true .no), (4, .gd true .no), (5, .gd true .no), (6, .yes true)] [ps 2 (.opt 0 0), ps 11 (.opt 456 0), ps 154 (bv true), pb 0 25 [(iv 0), (iv 0)], pb 456 25 [(iv x), (iv y)]] (obs_cons (bf h86) (obs_cons (bf h86) (obs_cons (bf h86) (obs_cons (bf h86) obs_nil)))) ?_
      refine T_then (b := true) rfl rfl ?_
      refine T_seq ?_
      refine T_r mixed [] [ps 2 (.opt 0 0), ps 3 (iv 2), pb 0 25 [(iv 0), (iv 0)]] (obs_nil) ?_
      rw [(named_some (s := s) h1 h2 h3 h4 h5 (val_m (fun c => h6 c.1) (fun c => h37 c.1) h69 h70) (j := (x, y)) (by unfold jOf stepsOf; rw [if_neg (by omega)]; exact Prod.ext (by show _ = x; omega) (by show _ = y; omega))).trans (checked_no1 h86)]
      exact T_ret fun cx_ a_ hI_ => rt hc0 [ps 2 (.opt 0 0), ps 3 (iv 2), pb 0 25 [(iv 0), (iv 0)]] [0] hI_
    refine T_r mixed [(1, .val (.av (.bool (decide ((qOf s) = ([109] : List UInt8)))))), (3, .gd false .no), (4, .gd false .no), (5, .gd false .no), (6, .gd false .no), (7, .yes false)] [ps 0 (sv (st s)), ps 2 (.opt 0 0), ps 4 (sv (st (tOf s))), ps 6 (sv (st (qOf s))), ps 7 (iv ((numS (dOf s)).1)), ps 11 (.opt 456 0), ps 12 (nv ((qOf s).length)), ps 84 (bv false), pb 0 25 [(iv 0), (iv 0)], pb 456 25 [(iv (((numS (dOf s)).1) - 1)), (iv ((12 * ((((numS (dOf s)).1) - 1) / 7)) + (Pi.nat7 ((((numS (dOf s)).1) - 1) % 7))))]] (obs_cons (st_eq _ _ : ((st (qOf s)).toList == (st ([109] : List UInt8)).toList) = decide ((qOf s) = ([109] : List UInt8))) (obs_cons (decide_eq_false h69) (obs_cons (decide_eq_false h69) (obs_cons (decide_eq_false h69) (obs_cons (decide_eq_false h69) (obs_cons (decide_eq_false h69) obs_nil)))))) ?_
    refine T_else (b := false) rfl rfl ?_
    refine T_seq ?_
    refine T_r mixed [(1, .call [] [(sv (st (qOf s))), (sv (st [65]))] [] (sv (st (Lib.trimS (qOf s) [65]))) []), (2, .val (.av (.bool (decide ((Lib.trimS (qOf s) [65]) = ([] : List UInt8))))))] [ps 0 (sv (st s)), ps 2 (.opt 0 0), ps 4 (sv (st (tOf s))), ps 6 (sv (st (qOf s))), ps 7 (iv ((numS (dOf s)).1)), ps 11 (.opt 456 0), ps 12 (nv ((qOf s).length)), ps 97 (bv (decide ((Lib.trimS (qOf s) [65]) = ([] : List UInt8)))), pb 0 25 [(iv 0), (iv 0)], pb 456 25 [(iv (((numS (dOf s)).1) - 1)), (iv ((12 * ((((numS (dOf s)).1) - 1) / 7)) + (Pi.nat7 ((((numS (dOf s)).1) - 1) % 7))))]] (obs_cons (trim_pc (qOf s) [65] (by omega) (by decide) (one_ascii (by decide))) (obs_cons (rfl : [(sv (st (qOf s))), (sv (st ([65] : List UInt8)))] = renL (sigi [] 712) [(sv (st (qOf s))), (sv (st [65]))]) (obs_cons (st_eq _ _ : ((st (Lib.trimS (qOf s) [65])).toList == (st ([] : List UInt8)).toList) = decide ((Lib.trimS (qOf s) [65]) = ([] : List UInt8))) obs_nil))) ?_
    by_cases h88 : (Lib.trimS (qOf s) [65]) = ([] : List UInt8)
    · refine T_th (decide_eq_true h88) ?_
      refine T_r mixed [] [ps 0 (sv (st s)), ps 2 (.opt 0 0), ps 4 (sv (st (tOf s))), ps 11 (.opt 456 0), pb 0 25 [(iv 0), (iv 0)], pb 456 25 [(iv (((numS (dOf s)).1) - 1)), (iv (((12 * ((((numS (dOf s)).1) - 1) / 7)) + (Pi.nat7 ((((numS (dOf s)).1) - 1) % 7))) + (((qOf s).length : Nat) : Int)))]] (obs_cons (by simp only [InK]; omega : InK .i64 (((12 * ((((numS (dOf s)).1) - 1) / 7)) + (Pi.nat7 ((((numS (dOf s)).1) - 1) % 7))) + (((qOf s).length : Nat) : Int))) obs_nil) ?_
      refine T_blk <| T_seq <| T_seq ?_
      refine T_r mixed [] [ps 0 (sv (st s)), ps 2 (.opt 0 0), ps 11 (.opt 456 0), ps 134 (bv (decide ((((tOf s).length : Nat) : Int) < ((s.length : Nat) : Int)))), pb 0 25 [(iv 0), (iv 0)], pb 456 25 [(iv (((numS (dOf s)).1) - 1)), (iv (((12 * ((((numS (dOf s)).1) - 1) / 7)) + (Pi.nat7 ((((numS (dOf s)).1) - 1) % 7))) + (((qOf s).length : Nat) : Int)))]] (obs_nil) ?_
      by_cases h89 : (((tOf s).length : Nat) : Int) < ((s.length : Nat) : Int)
      · refine T_th (decide_eq_true h89) ?_
        refine T_r mixed [] [ps 0 (sv (st s)), ps 2 (.opt 0 0), ps 11 (.opt 456 0), pb 0 25 [(iv 0), (iv 0)], pb 456 25 [(iv (0 - (((numS (dOf s)).1) - 1))), (iv (0 - (((12 * ((((numS (dOf s)).1) - 1) / 7)) + (Pi.nat7 ((((numS (dOf s)).1) - 1) % 7))) + (((qOf s).length : Nat) : Int))))]] (obs_cons (by simp only [InK]; omega : InK .i64 (0 - (((numS (dOf s)).1) - 1))) (obs_cons (by simp only [InK]; omega : InK .i64 (0 - (((12 * ((((numS (dOf s)).1) - 1) / 7)) + (Pi.nat7 ((((numS (dOf s)).1) - 1) % 7))) + (((qOf s).length : Nat) : Int)))) obs_nil)) ?_
        refine T_seq <| T_seq ?_
        obtain ⟨x, hx⟩ : ∃ x, x = 0 - (((numS (dOf s)).1) - 1) := ⟨_, rfl⟩
        obtain ⟨y, hy⟩ : ∃ y, y = 0 - (((12 * ((((numS (dOf s)).1) - 1) / 7)) + (Pi.nat7 ((((numS (dOf s)).1) - 1) % 7))) + (((qOf s).length : Nat) : Int)) := ⟨_, rfl⟩
        refine T_wk (Wk.eq (show _ = [ps 0 (sv (st s)), ps 2 (.opt 0 0), ps 11 (.opt 456 0), pb 0 25 [(iv 0), (iv 0)], pb 456 25 [(iv x), (iv y)]] from by rw [hx, hy])) ?_
        refine T_r mixed [(1, .call [] [(.agg [(iv x), (iv y)])] [] (.tup [(sv (st ((nameS x y).1))), (iv ((nameS x y).2))]) [])] [ps 0 (sv (st s)), ps 2 (.opt 0 0), ps 11 (.opt 456 0), ps 13 (sv (st ((nameS x y).1))), ps 14 (iv ((nameS x y).2)), pb 0 25 [(iv 0), (iv 0)], pb 456 25 [(iv x), (iv y)]] (obs_cons (name_pc x y (by unfold Pi.I64; omega) (by unfold Pi.I64; omega)) (obs_cons (rfl : Ren0 912 [(.agg [(iv x), (iv y)])]) obs_nil)) ?_
        refine T_seq ?_
        by_cases h90 : ((nameS x y).2) = 0
        · refine T_r mixed [(3, .gd false (.no)), (4, .gd false (.no)), (5, .gd false (.val (.av (.bool (!decide (((nameS x y).1) = s)))))), (6, .yes false)] [ps 2 (.opt 0 0), ps 11 (.opt 456 0), ps 154 (bv (!(decide (((nameS x y).1) = s)))), pb 0 25 [(iv 0), (iv 0)], pb 456 25 [(iv x), (iv y)]] (obs_cons (bt h90) (obs_cons (bt h90) (obs_cons (bt h90) (obs_cons (st_ne _ _ : (!((st ((nameS x y).1)).toList == (st s).toList)) = !decide (((nameS x y).1) = s)) (obs_cons (bt h90) obs_nil))))) ?_
          by_cases h91 : ((nameS x y).1) = s
          · refine T_el (bt h91) ?_
            refine T_skip <| T_seq ?_
            refine T_r mixed [] [ps 2 (.opt 0 0), ps 3 (iv 0), pb 0 25 [(iv x), (iv y)]] (obs_nil) ?_
            rw [(named_some (s := s) h1 h2 h3 h4 h5 (val_A (fun c => h6 c.1) (fun c => h37 c.1) (fun c => h69 c.1) h88) (j := (x, y)) (by unfold jOf stepsOf; rw [if_pos (by omega)]; exact Prod.ext (by show _ = x; omega) (by show _ = y; omega))).trans (checked_yes h90 h91)]
            exact T_ret fun cx_ a_ hI_ => rt hc0 [ps 2 (.opt 0 0), ps 3 (iv 0), pb 0 25 [(iv x), (iv y)]] [0] hI_
          refine T_th (bf h91) ?_
          refine T_seq ?_
          refine T_r mixed [] [ps 2 (.opt 0 0), ps 3 (iv 2), pb 0 25 [(iv 0), (iv 0)]] (obs_nil) ?_
          rw [(named_some (s := s) h1 h2 h3 h4 h5 (val_A (fun c => h6 c.1) (fun c => h37 c.1) (fun c => h69 c.1) h88) (j := (x, y)) (by unfold jOf stepsOf; rw [if_pos (by omega)]; exact Prod.ext (by show _ = x; omega) (by show _ = y; omega))).trans (checked_no2 h91)]
          exact T_ret fun cx_ a_ hI_ => rt hc0 [ps 2 (.opt 0 0), ps 3 (iv 2), pb 0 25 [(iv 0), (iv 0)]] [0] hI_
        refine T_r mixed [(3, .gd true .no), (4, .gd true .no), (5, .gd true .no), (6, .yes true)] [ps 2 (.opt 0 0), ps 11 (.opt 456 0), ps 154 (bv true), pb 0 25 [(iv 0), (iv 0)], pb 456 25 [(iv x), (iv y)]] (obs_cons (bf h90) (obs_cons (bf h90) (obs_cons (bf h90) (obs_cons (bf h90) obs_nil)))) ?_
        refine T_then (b := true) rfl rfl ?_
        refine T_seq ?_
        refine T_r mixed [] [ps 2 (.opt 0 0), ps 3 (iv 2), pb 0 25 [(iv 0), (iv 0)]] (obs_nil) ?_
        rw [(named_some (s := s) h1 h2 h3 h4 h5 (val_A (fun c => h6 c.1) (fun c => h37 c.1) (fun c => h69 c.1) h88) (j := (x, y)) (by unfold jOf stepsOf; rw [if_pos (by omega)]; exact Prod.ext (by show _ = x; omega) (by show _ = y; omega))).trans (checked_no1 h90)]
        exact T_ret fun cx_ a_ hI_ => rt hc0 [ps 2 (.opt 0 0), ps 3 (iv 2), pb 0 25 [(iv 0), (iv 0)]] [0] hI_
      refine T_el (decide_eq_false h89) ?_
      refine T_skip <| T_seq <| T_seq ?_
      obtain ⟨x, hx⟩ : ∃ x, x = ((numS (dOf s)).1) - 1 := ⟨_, rfl⟩
      obtain ⟨y, hy⟩ : ∃ y, y = ((12 * ((((numS (dOf s)).1) - 1) / 7)) + (Pi.nat7 ((((numS (dOf s)).1) - 1) % 7))) + (((qOf s).length : Nat) : Int) := ⟨_, rfl⟩
      refine T_wk (Wk.eq (show _ = [ps 0 (sv (st s)), ps 2 (.opt 0 0), ps 11 (.opt 456 0), ps 134 (bv (decide ((((tOf s).length : Nat) : Int) < ((s.length : Nat) : Int)))), pb 0 25 [(iv 0), (iv 0)], pb 456 25 [(iv x), (iv y)]] from by rw [hx, hy])) ?_
      refine T_r mixed [(1, .call [] [(.agg [(iv x), (iv y)])] [] (.tup [(sv (st ((nameS x y).1))), (iv ((nameS x y).2))]) [])] [ps 0 (sv (st s)), ps 2 (.opt 0 0), ps 11 (.opt 456 0), ps 13 (sv (st ((nameS x y).1))), ps 14 (iv ((nameS x y).2)), pb 0 25 [(iv 0), (iv 0)], pb 456 25 [(iv x), (iv y)]] (obs_cons (name_pc x y (by unfold Pi.I64; omega) (by unfold Pi.I64; omega)) (obs_cons (rfl : Ren0 832 [(.agg [(iv x), (iv y)])]) obs_nil)) ?_
      refine T_seq ?_
      by_cases h92 : ((nameS x y).2) = 0
      · refine T_r mixed [(3, .gd false (.no)), (4, .gd false (.no)), (5, .gd false (.val (.av (.bool (!decide (((nameS x y).1) = s)))))), (6, .yes false)] [ps 2 (.opt 0 0), ps 11 (.opt 456 0), ps 154 (bv (!(decide (((nameS x y).1) = s)))), pb 0 25 [(iv 0), (iv 0)], pb 456 25 [(iv x), (iv y)]] (obs_cons (bt h92) (obs_cons (bt h92) (obs_cons (bt h92) (obs_cons (st_ne _ _ : (!((st ((nameS x y).1)).toList == (st s).toList)) = !decide (((nameS x y).1) = s)) (obs_cons (bt h92) obs_nil))))) ?_
        by_cases h93 : ((nameS x y).1) = s
        · refine T_el (bt h93) ?_
          refine T_skip <| T_seq ?_
          refine T_r mixed [] [ps 2 (.opt 0 0), ps 3 (iv 0), pb 0 25 [(iv x), (iv y)]] (obs_nil) ?_
          rw [(named_some (s := s) h1 h2 h3 h4 h5 (val_A (fun c => h6 c.1) (fun c => h37 c.1) (fun c => h69 c.1) h88) (j := (x, y)) (by unfold jOf stepsOf; rw [if_neg (by omega)]; exact Prod.ext (by show _ = x; omega) (by show _ = y; omega))).trans (checked_yes h92 h93)]
          exact T_ret fun cx_ a_ hI_ => rt hc0 [ps 2 (.opt 0 0), ps 3 (iv 0), pb 0 25 [(iv x), (iv y)]] [0] hI_
        refine T_th (bf h93) ?_
        refine T_seq ?_
        refine T_r mixed [] [ps 2 (.opt 0 0), ps 3 (iv 2), pb 0 25 [(iv 0), (iv 0)]] (obs_nil) ?_
        rw [(named_some (s := s) h1 h2 h3 h4 h5 (val_A (fun c => h6 c.1) (fun c => h37 c.1) (fun c => h69 c.1) h88) (j := (x, y)) (by unfold jOf stepsOf; rw [if_neg (by omega)]; exact Prod.ext (by show _ = x; omega) (by show _ = y; omega))).trans (checked_no2 h93)]
        exact T_ret fun cx_ a_ hI_ => rt hc0 [ps 2 (.opt 0 0), ps 3 (iv 2), pb 0 25 [(iv 0), (iv 0)]] [0] hI_
      refine T_r mixed [(3, .gd true .no), (4, .gd true .no), (5, .gd true .no), (6, .yes true)] [ps 2 (.opt 0 0), ps 11 (.opt 456 0), ps 154 (bv true), pb 0 25 [(iv 0), (iv 0)], pb 456 25 [(iv x), (iv y)]] (obs_cons (bf h92) (obs_cons (bf h92) (obs_cons (bf h92) (obs_cons (bf h92) obs_nil)))) ?_
      refine T_then (b := true) rfl rfl ?_
      refine T_seq ?_
      refine T_r mixed [] [ps 2 (.opt 0 0), ps 3 (iv 2), pb 0 25 [(iv 0), (iv 0)]] (obs_nil) ?_
      rw [(named_some (s := s) h1 h2 h3 h4 h5 (val_A (fun c => h6 c.1) (fun c => h37 c.1) (fun c => h69 c.1) h88) (j := (x, y)) (by unfold jOf stepsOf; rw [if_neg (by omega)]; exact Prod.ext (by show _ = x; omega) (by show _ = y; omega))).trans (checked_no1 h92)]
      exact T_ret fun cx_ a_ hI_ => rt hc0 [ps 2 (.opt 0 0), ps 3 (iv 2), pb 0 25 [(iv 0), (iv 0)]] [0] hI_
    refine T_el (decide_eq_false h88) ?_
    refine T_seq ?_
    by_cases h94 : (Lib.trimS (qOf s) [100]) = ([] : List UInt8)
    · refine T_r mixed [(1, .call [] [(sv (st (qOf s))), (sv (st [100]))] [] (sv (st (Lib.trimS (qOf s) [100]))) []), (2, .val (.av (.bool (decide ((Lib.trimS (qOf s) [100]) = ([] : List UInt8)))))), (4, .gd true (.no)), (5, .gd true (.no)), (6, .gd true (.call [] [(iv (((numS (dOf s)).1) - 1))] [] (bv (perfB (((numS (dOf s)).1) - 1))) [])), (7, .yes true)] [ps 0 (sv (st s)), ps 2 (.opt 0 0), ps 4 (sv (st (tOf s))), ps 6 (sv (st (qOf s))), ps 11 (.opt 456 0), ps 12 (nv ((qOf s).length)), ps 106 (bv (perfB (((numS (dOf s)).1) - 1))), pb 0 25 [(iv 0), (iv 0)], pb 456 25 [(iv (((numS (dOf s)).1) - 1)), (iv ((12 * ((((numS (dOf s)).1) - 1) / 7)) + (Pi.nat7 ((((numS (dOf s)).1) - 1) % 7))))]] (obs_cons (trim_pc (qOf s) [100] (by omega) (by decide) (one_ascii (by decide))) (obs_cons (rfl : [(sv (st (qOf s))), (sv (st ([100] : List UInt8)))] = renL (sigi [] 744) [(sv (st (qOf s))), (sv (st [100]))]) (obs_cons (st_eq _ _ : ((st (Lib.trimS (qOf s) [100])).toList == (st ([] : List UInt8)).toList) = decide ((Lib.trimS (qOf s) [100]) = ([] : List UInt8))) (obs_cons (decide_eq_true h94) (obs_cons (decide_eq_true h94) (obs_cons (by simp only [InK]; omega : InK .i64 (((numS (dOf s)).1) - 1)) (obs_cons (decide_eq_true h94) (obs_cons (perfect_pc (((numS (dOf s)).1) - 1) (by omega)) (obs_cons (rfl : Ren0 784 [(iv (((numS (dOf s)).1) - 1))]) (obs_cons (decide_eq_true h94) obs_nil)))))))))) ?_
      by_cases h95 : (perfB (((numS (dOf s)).1) - 1)) = true
      · refine T_then (b := (perfB (((numS (dOf s)).1) - 1))) rfl h95 ?_
        refine T_r mixed [] [ps 0 (sv (st s)), ps 2 (.opt 0 0), ps 4 (sv (st (tOf s))), ps 11 (.opt 456 0), pb 0 25 [(iv 0), (iv 0)], pb 456 25 [(iv (((numS (dOf s)).1) - 1)), (iv (((12 * ((((numS (dOf s)).1) - 1) / 7)) + (Pi.nat7 ((((numS (dOf s)).1) - 1) % 7))) - (((qOf s).length : Nat) : Int)))]] (obs_cons (by simp only [InK]; omega : InK .i64 (((12 * ((((numS (dOf s)).1) - 1) / 7)) + (Pi.nat7 ((((numS (dOf s)).1) - 1) % 7))) - (((qOf s).length : Nat) : Int))) obs_nil) ?_
        refine T_blk <| T_seq <| T_seq ?_
        refine T_r mixed [] [ps 0 (sv (st s)), ps 2 (.opt 0 0), ps 11 (.opt 456 0), ps 134 (bv (decide ((((tOf s).length : Nat) : Int) < ((s.length : Nat) : Int)))), pb 0 25 [(iv 0), (iv 0)], pb 456 25 [(iv (((numS (dOf s)).1) - 1)), (iv (((12 * ((((numS (dOf s)).1) - 1) / 7)) + (Pi.nat7 ((((numS (dOf s)).1) - 1) % 7))) - (((qOf s).length : Nat) : Int)))]] (obs_nil) ?_
        by_cases h96 : (((tOf s).length : Nat) : Int) < ((s.length : Nat) : Int)
        · refine T_th (decide_eq_true h96) ?_
          refine T_r mixed [] [ps 0 (sv (st s)), ps 2 (.opt 0 0), ps 11 (.opt 456 0), pb 0 25 [(iv 0), (iv 0)], pb 456 25 [(iv (0 - (((numS (dOf s)).1) - 1))), (iv (0 - (((12 * ((((numS (dOf s)).1) - 1) / 7)) + (Pi.nat7 ((((numS (dOf s)).1) - 1) % 7))) - (((qOf s).length : Nat) : Int))))]] (obs_cons (by simp only [InK]; omega : InK .i64 (0 - (((numS (dOf s)).1) - 1))) (obs_cons (by simp only [InK]; omega : InK .i64 (0 - (((12 * ((((numS (dOf s)).1) - 1) / 7)) + (Pi.nat7 ((((numS (dOf s)).1) - 1) % 7))) - (((qOf s).length : Nat) : Int)))) obs_nil)) ?_
          refine T_seq <| T_seq ?_
          obtain ⟨x, hx⟩ : ∃ x, x = 0 - (((numS (dOf s)).1) - 1) := ⟨_, rfl⟩
          obtain ⟨y, hy⟩ : ∃ y, y = 0 - (((12 * ((((numS (dOf s)).1) - 1) / 7)) + (Pi.nat7 ((((numS (dOf s)).1) - 1) % 7))) - (((qOf s).length : Nat) : Int)) := ⟨_, rfl⟩
          refine T_wk (Wk.eq (show _ = [ps 0 (sv (st s)), ps 2 (.opt 0 0), ps 11 (.opt 456 0), pb 0 25 [(iv 0), (iv 0)], pb 456 25 [(iv x), (iv y)]] from by rw [hx, hy])) ?_
          refine T_r mixed [(1, .call [] [(.agg [(iv x), (iv y)])] [] (.tup [(sv (st ((nameS x y).1))), (iv ((nameS x y).2))]) [])] [ps 0 (sv (st s)), ps 2 (.opt 0 0), ps 11 (.opt 456 0), ps 13 (sv (st ((nameS x y).1))), ps 14 (iv ((nameS x y).2)), pb 0 25 [(iv 0), (iv 0)], pb 456 25 [(iv x), (iv y)]] (obs_cons (name_pc x y (by unfold Pi.I64; omega) (by unfold Pi.I64; omega)) (obs_cons (rfl : Ren0 984 [(.agg [(iv x), (iv y)])]) obs_nil)) ?_
          refine T_seq ?_
          by_cases h97 : ((nameS x y).2) = 0
          · refine T_r mixed [(3, .gd false (.no)), (4, .gd false (.no)), (5, .gd false (.val (.av (.bool (!decide (((nameS x y).1) = s)))))), (6, .yes false)] [ps 2 (.opt 0 0), ps 11 (.opt 456 0), ps 154 (bv (!(decide (((nameS x y).1) = s)))), pb 0 25 [(iv 0), (iv 0)], pb 456 25 [(iv x), (iv y)]] (obs_cons (bt h97) (obs_cons (bt h97) (obs_cons (bt h97) (obs_cons (st_ne _ _ : (!((st ((nameS x y).1)).toList == (st s).toList)) = !decide (((nameS x y).1) = s)) (obs_cons (bt h97) obs_nil))))) ?_
            by_cases h98 : ((nameS x y).1) = s
            · refine T_el (bt h98) ?_
              refine T_skip <| T_seq ?_
              refine T_r mixed [] [ps 2 (.opt 0 0), ps 3 (iv 0), pb 0 25 [(iv x), (iv y)]] (obs_nil) ?_
              rw [(named_some (s := s) h1 h2 h3 h4 h5 (val_d (fun c => h6 c.1) (fun c => h37 c.1) (fun c => h69 c.1) h88 h94 h95) (j := (x, y)) (by unfold jOf stepsOf; rw [if_pos (by omega)]; exact Prod.ext (by show _ = x; omega) (by show _ = y; omega))).trans (checked_yes h97 h98)]
              exact T_ret fun cx_ a_ hI_ => rt hc0 [ps 2 (.opt 0 0), ps 3 (iv 0), pb 0 25 [(iv x), (iv y)]] [0] hI_
            refine T_th (bf h98) ?_
            refine T_seq ?_
            refine T_r mixed [] [ps 2 (.opt 0 0), ps 3 (iv 2), pb 0 25 [(iv 0), (iv 0)]] (obs_nil) ?_
            rw [(named_some (s := s) h1 h2 h3 h4 h5 (val_d (fun c => h6 c.1) (fun c => h37 c.1) (fun c => h69 c.1) h88 h94 h95) (j := (x, y)) (by unfold jOf stepsOf; rw [if_pos (by omega)]; exact Prod.ext (by show _ = x; omega) (by show _ = y; omega))).trans (checked_no2 h98)]
            exact T_ret fun cx_ a_ hI_ => rt hc0 [ps 2 (.opt 0 0), ps 3 (iv 2), pb 0 25 [(iv 0), (iv 0)]] [0] hI_
          refine T_r mixed [(3, .gd true .no), (4, .gd true .no), (5, .gd true .no), (6, .yes true)] [ps 2 (.opt 0 0), ps 11 (.opt 456 0), ps 154 (bv true), pb 0 25 [(iv 0), (iv 0)], pb 456 25 [(iv x), (iv y)]] (obs_cons (bf h97) (obs_cons (bf h97) (obs_cons (bf h97) (obs_cons (bf h97) obs_nil)))) ?_
          refine T_then (b := true) rfl rfl ?_
          refine T_seq ?_
          refine T_r mixed [] [ps 2 (.opt 0 0), ps 3 (iv 2), pb 0 25 [(iv 0), (iv 0)]] (obs_nil) ?_
          rw [(named_some (s := s) h1 h2 h3 h4 h5 (val_d (fun c => h6 c.1) (fun c => h37 c.1) (fun c => h69 c.1) h88 h94 h95) (j := (x, y)) (by unfold jOf stepsOf; rw [if_pos (by omega)]; exact Prod.ext (by show _ = x; omega) (by show _ = y; omega))).trans (checked_no1 h97)]
          exact T_ret fun cx_ a_ hI_ => rt hc0 [ps 2 (.opt 0 0), ps 3 (iv 2), pb 0 25 [(iv 0), (iv 0)]] [0] hI_
        refine T_el (decide_eq_false h96) ?_
        refine T_skip <| T_seq <| T_seq ?_
        obtain ⟨x, hx⟩ : ∃ x, x = ((numS (dOf s)).1) - 1 := ⟨_, rfl⟩
        obtain ⟨y, hy⟩ : ∃ y, y = ((12 * ((((numS (dOf s)).1) - 1) / 7)) + (Pi.nat7 ((((numS (dOf s)).1) - 1) % 7))) - (((qOf s).length : Nat) : Int) := ⟨_, rfl⟩
        refine T_wk (Wk.eq (show _ = [ps 0 (sv (st s)), ps 2 (.opt 0 0), ps 11 (.opt 456 0), ps 134 (bv (decide ((((tOf s).length : Nat) : Int) < ((s.length : Nat) : Int)))), pb 0 25 [(iv 0), (iv 0)], pb 456 25 [(iv x), (iv y)]] from by rw [hx, hy])) ?_
        refine T_r mixed [(1, .call [] [(.agg [(iv x), (iv y)])] [] (.tup [(sv (st ((nameS x y).1))), (iv ((nameS x y).2))]) [])] [ps 0 (sv (st s)), ps 2 (.opt 0 0), ps 11 (.opt 456 0), ps 13 (sv (st ((nameS x y).1))), ps 14 (iv ((nameS x y).2)), pb 0 25 [(iv 0), (iv 0)], pb 456 25 [(iv x), (iv y)]] (obs_cons (name_pc x y (by unfold Pi.I64; omega) (by unfold Pi.I64; omega)) (obs_cons (rfl : Ren0 904 [(.agg [(iv x), (iv y)])]) obs_nil)) ?_
        refine T_seq ?_
        by_cases h99 : ((nameS x y).2) = 0
        · refine T_r mixed [(3, .gd false (.no)), (4, .gd false (.no)), (5, .gd false (.val (.av (.bool (!decide (((nameS x y).1) = s)))))), (6, .yes false)] [ps 2 (.opt 0 0), ps 11 (.opt 456 0), ps 154 (bv (!(decide (((nameS x y).1) = s)))), pb 0 25 [(iv 0), (iv 0)], pb 456 25 [(iv x), (iv y)]] (obs_cons (bt h99) (obs_cons (bt h99) (obs_cons (bt h99) (obs_cons (st_ne _ _ : (!((st ((nameS x y).1)).toList == (st s).toList)) = !decide (((nameS x y).1) = s)) (obs_cons (bt h99) obs_nil))))) ?_
          by_cases h100 : ((nameS x y).1) = s
          · refine T_el (bt h100) ?_
            refine T_skip <| T_seq ?_
            refine T_r mixed [] [ps 2 (.opt 0 0), ps 3 (iv 0), pb 0 25 [(iv x), (iv y)]] (obs_nil) ?_
            rw [(named_some (s := s) h1 h2 h3 h4 h5 (val_d (fun c => h6 c.1) (fun c => h37 c.1) (fun c => h69 c.1) h88 h94 h95) (j := (x, y)) (by unfold jOf stepsOf; rw [if_neg (by omega)]; exact Prod.ext (by show _ = x; omega) (by show _ = y; omega))).trans (checked_yes h99 h100)]
            exact T_ret fun cx_ a_ hI_ => rt hc0 [ps 2 (.opt 0 0), ps 3 (iv 0), pb 0 25 [(iv x), (iv y)]] [0] hI_
          refine T_th (bf h100) ?_
          refine T_seq ?_
          refine T_r mixed [] [ps 2 (.opt 0 0), ps 3 (iv 2), pb 0 25 [(iv 0), (iv 0)]] (obs_nil) ?_
          rw [(named_some (s := s) h1 h2 h3 h4 h5 (val_d (fun c => h6 c.1) (fun c => h37 c.1) (fun c => h69 c.1) h88 h94 h95) (j := (x, y)) (by unfold jOf stepsOf; rw [if_neg (by omega)]; exact Prod.ext (by show _ = x; omega) (by show _ = y; omega))).trans (checked_no2 h100)]
          exact T_ret fun cx_ a_ hI_ => rt hc0 [ps 2 (.opt 0 0), ps 3 (iv 2), pb 0 25 [(iv 0), (iv 0)]] [0] hI_
        refine T_r mixed [(3, .gd true .no), (4, .gd true .no), (5, .gd true .no), (6, .yes true)] [ps 2 (.opt 0 0), ps 11 (.opt 456 0), ps 154 (bv true), pb 0 25 [(iv 0), (iv 0)], pb 456 25 [(iv x), (iv y)]] (obs_cons (bf h99) (obs_cons (bf h99) (obs_cons (bf h99) (obs_cons (bf h99) obs_nil)))) ?_
        refine T_then (b := true) rfl rfl ?_
        refine T_seq ?_
        refine T_r mixed [] [ps 2 (.opt 0 0), ps 3 (iv 2), pb 0 25 [(iv 0), (iv 0)]] (obs_nil) ?_
        rw [(named_some (s := s) h1 h2 h3 h4 h5 (val_d (fun c => h6 c.1) (fun c => h37 c.1) (fun c => h69 c.1) h88 h94 h95) (j := (x, y)) (by unfold jOf stepsOf; rw [if_neg (by omega)]; exact Prod.ext (by show _ = x; omega) (by show _ = y; omega))).trans (checked_no1 h99)]
        exact T_ret fun cx_ a_ hI_ => rt hc0 [ps 2 (.opt 0 0), ps 3 (iv 2), pb 0 25 [(iv 0), (iv 0)]] [0] hI_
      refine T_else (b := (perfB (((numS (dOf s)).1) - 1))) rfl (Bool.eq_false_iff.2 h95) ?_
      refine T_seq ?_
      refine T_r mixed [(1, .call [] [(sv (st (qOf s))), (sv (st [100]))] [] (sv (st (Lib.trimS (qOf s) [100]))) []), (2, .val (.av (.bool (decide ((Lib.trimS (qOf s) [100]) = ([] : List UInt8))))))] [ps 0 (sv (st s)), ps 2 (.opt 0 0), ps 4 (sv (st (tOf s))), ps 11 (.opt 456 0), ps 12 (nv ((qOf s).length)), ps 120 (bv (decide ((Lib.trimS (qOf s) [100]) = ([] : List UInt8)))), pb 0 25 [(iv 0), (iv 0)], pb 456 25 [(iv (((numS (dOf s)).1) - 1)), (iv ((12 * ((((numS (dOf s)).1) - 1) / 7)) + (Pi.nat7 ((((numS (dOf s)).1) - 1) % 7))))]] (obs_cons (trim_pc (qOf s) [100] (by omega) (by decide) (one_ascii (by decide))) (obs_cons (rfl : [(sv (st (qOf s))), (sv (st ([100] : List UInt8)))] = renL (sigi [] 816) [(sv (st (qOf s))), (sv (st [100]))]) (obs_cons (st_eq _ _ : ((st (Lib.trimS (qOf s) [100])).toList == (st ([] : List UInt8)).toList) = decide ((Lib.trimS (qOf s) [100]) = ([] : List UInt8))) obs_nil))) ?_
      refine T_th (decide_eq_true h94) ?_
      refine T_r mixed [] [ps 0 (sv (st s)), ps 2 (.opt 0 0), ps 4 (sv (st (tOf s))), ps 11 (.opt 456 0), pb 0 25 [(iv 0), (iv 0)], pb 456 25 [(iv (((numS (dOf s)).1) - 1)), (iv (((12 * ((((numS (dOf s)).1) - 1) / 7)) + (Pi.nat7 ((((numS (dOf s)).1) - 1) % 7))) - ((((qOf s).length : Nat) : Int) + 1)))]] (obs_cons (by simp only [InK]; omega : InK .i64 ((((qOf s).length : Nat) : Int) + 1)) (obs_cons (by simp only [InK]; omega : InK .i64 (((12 * ((((numS (dOf s)).1) - 1) / 7)) + (Pi.nat7 ((((numS (dOf s)).1) - 1) % 7))) - ((((qOf s).length : Nat) : Int) + 1))) obs_nil)) ?_
      refine T_blk <| T_seq <| T_seq ?_
      refine T_r mixed [] [ps 0 (sv (st s)), ps 2 (.opt 0 0), ps 11 (.opt 456 0), ps 134 (bv (decide ((((tOf s).length : Nat) : Int) < ((s.length : Nat) : Int)))), pb 0 25 [(iv 0), (iv 0)], pb 456 25 [(iv (((numS (dOf s)).1) - 1)), (iv (((12 * ((((numS (dOf s)).1) - 1) / 7)) + (Pi.nat7 ((((numS (dOf s)).1) - 1) % 7))) - ((((qOf s).length : Nat) : Int) + 1)))]] (obs_nil) ?_
      by_cases h101 : (((tOf s).length : Nat) : Int) < ((s.length : Nat) : Int)
      · refine T_th (decide_eq_true h101) ?_
        refine T_r mixed [] [ps 0 (sv (st s)), ps 2 (.opt 0 0), ps 11 (.opt 456 0), pb 0 25 [(iv 0), (iv 0)], pb 456 25 [(iv (0 - (((numS (dOf s)).1) - 1))), (iv (0 - (((12 * ((((numS (dOf s)).1) - 1) / 7)) + (Pi.nat7 ((((numS (dOf s)).1) - 1) % 7))) - ((((qOf s).length : Nat) : Int) + 1))))]] (obs_cons (by simp only [InK]; omega : InK .i64 (0 - (((numS (dOf s)).1) - 1))) (obs_cons (by simp only [InK]; omega : InK .i64 (0 - (((12 * ((((numS (dOf s)).1) - 1) / 7)) + (Pi.nat7 ((((numS (dOf s)).1) - 1) % 7))) - ((((qOf s).length : Nat) : Int) + 1)))) obs_nil)) ?_
        refine T_seq <| T_seq ?_
        obtain ⟨x, hx⟩ : ∃ x, x = 0 - (((numS (dOf s)).1) - 1) := ⟨_, rfl⟩
        obtain ⟨y, hy⟩ : ∃ y, y = 0 - (((12 * ((((numS (dOf s)).1) - 1) / 7)) + (Pi.nat7 ((((numS (dOf s)).1) - 1) % 7))) - ((((qOf s).length : Nat) : Int) + 1)) := ⟨_, rfl⟩
        refine T_wk (Wk.eq (show _ = [ps 0 (sv (st s)), ps 2 (.opt 0 0), ps 11 (.opt 456 0), pb 0 25 [(iv 0), (iv 0)], pb 456 25 [(iv x), (iv y)]] from by rw [hx, hy])) ?_
        refine T_r mixed [(1, .call [] [(.agg [(iv x), (iv y)])] [] (.tup [(sv (st ((nameS x y).1))), (iv ((nameS x y).2))]) [])] [ps 0 (sv (st s)), ps 2 (.opt 0 0), ps 11 (.opt 456 0), ps 13 (sv (st ((nameS x y).1))), ps 14 (iv ((nameS x y).2)), pb 0 25 [(iv 0), (iv 0)], pb 456 25 [(iv x), (iv y)]] (obs_cons (name_pc x y (by unfold Pi.I64; omega) (by unfold Pi.I64; omega)) (obs_cons (rfl : Ren0 1024 [(.agg [(iv x), (iv y)])]) obs_nil)) ?_
        refine T_seq ?_
        by_cases h102 : ((nameS x y).2) = 0
        · refine T_r mixed [(3, .gd false (.no)), (4, .gd false (.no)), (5, .gd false (.val (.av (.bool (!decide (((nameS x y).1) = s)))))), (6, .yes false)] [ps 2 (.opt 0 0), ps 11 (.opt 456 0), ps 154 (bv (!(decide (((nameS x y).1) = s)))), pb 0 25 [(iv 0), (iv 0)], pb 456 25 [(iv x), (iv y)]] (obs_cons (bt h102) (obs_cons (bt h102) (obs_cons (bt h102) (obs_cons (st_ne _ _ : (!((st ((nameS x y).1)).toList == (st s).toList)) = !decide (((nameS x y).1) = s)) (obs_cons (bt h102) obs_nil))))) ?_
          by_cases h103 : ((nameS x y).1) = s
          · refine T_el (bt h103) ?_
            refine T_skip <| T_seq ?_
            refine T_r mixed [] [ps 2 (.opt 0 0), ps 3 (iv 0), pb 0 25 [(iv x), (iv y)]] (obs_nil) ?_
            rw [(named_some (s := s) h1 h2 h3 h4 h5 (val_dd (fun c => h6 c.1) (fun c => h37 c.1) (fun c => h69 c.1) h88 h94 h95) (j := (x, y)) (by unfold jOf stepsOf; rw [if_pos (by omega)]; exact Prod.ext (by show _ = x; omega) (by show _ = y; omega))).trans (checked_yes h102 h103)]
            exact T_ret fun cx_ a_ hI_ => rt hc0 [ps 2 (.opt 0 0), ps 3 (iv 0), pb 0 25 [(iv x), (iv y)]] [0] hI_
          refine T_th (bf h103) ?_
          refine T_seq ?_
          refine T_r mixed [] [ps 2 (.opt 0 0), ps 3 (iv 2), pb 0 25 [(iv 0), (iv 0)]] (obs_nil) ?_
          rw [(named_some (s := s) h1 h2 h3 h4 h5 (val_dd (fun c => h6 c.1) (fun c => h37 c.1) (fun c => h69 c.1) h88 h94 h95) (j := (x, y)) (by unfold jOf stepsOf; rw [if_pos (by omega)]; exact Prod.ext (by show _ = x; omega) (by show _ = y; omega))).trans (checked_no2 h103)]
          exact T_ret fun cx_ a_ hI_ => rt hc0 [ps 2 (.opt 0 0), ps 3 (iv 2), pb 0 25 [(iv 0), (iv 0)]] [0] hI_
        refine T_r mixed [(3, .gd true .no), (4, .gd true .no), (5, .gd true .no), (6, .yes true)] [ps 2 (.opt 0 0), ps 11 (.opt 456 0), ps 154 (bv true), pb 0 25 [(iv 0), (iv 0)], pb 456 25 [(iv x), (iv y)]] (obs_cons (bf h102) (obs_cons (bf h102) (obs_cons (bf h102) (obs_cons (bf h102) obs_nil)))) ?_
        refine T_then (b := true) rfl rfl ?_
        refine T_seq ?_
        refine T_r mixed [] [ps 2 (.opt 0 0), ps 3 (iv 2), pb 0 25 [(iv 0), (iv 0)]] (obs_nil) ?_
        rw [(named_some (s := s) h1 h2 h3 h4 h5 (val_dd (fun c => h6 c.1) (fun c => h37 c.1) (fun c => h69 c.1) h88 h94 h95) (j := (x, y)) (by unfold jOf stepsOf; rw [if_pos (by omega)]; exact Prod.ext (by show _ = x; omega) (by show _ = y; omega))).trans (checked_no1 h102)]
        exact T_ret fun cx_ a_ hI_ => rt hc0 [ps 2 (.opt 0 0), ps 3 (iv 2), pb 0 25 [(iv 0), (iv 0)]] [0] hI_
      refine T_el (decide_eq_false h101) ?_
      refine T_skip <| T_seq <| T_seq ?_
      obtain ⟨x, hx⟩ : ∃ x, x = ((numS (dOf s)).1) - 1 := ⟨_, rfl⟩
      obtain ⟨y, hy⟩ : ∃ y, y = ((12 * ((((numS (dOf s)).1) - 1) / 7)) + (Pi.nat7 ((((numS (dOf s)).1) - 1) % 7))) - ((((qOf s).length : Nat) : Int) + 1) := ⟨_, rfl⟩
      refine T_wk (Wk.eq (show _ = [ps 0 (sv (st s)), ps 2 (.opt 0 0), ps 11 (.opt 456 0), ps 134 (bv (decide ((((tOf s).length : Nat) : Int) < ((s.length : Nat) : Int)))), pb 0 25 [(iv 0), (iv 0)], pb 456 25 [(iv x), (iv y)]] from by rw [hx, hy])) ?_
      refine T_r mixed [(1, .call [] [(.agg [(iv x), (iv y)])] [] (.tup [(sv (st ((nameS x y).1))), (iv ((nameS x y).2))]) [])] [ps 0 (sv (st s)), ps 2 (.opt 0 0), ps 11 (.opt 456 0), ps 13 (sv (st ((nameS x y).1))), ps 14 (iv ((nameS x y).2)), pb 0 25 [(iv 0), (iv 0)], pb 456 25 [(iv x), (iv y)]] (obs_cons (name_pc x y (by unfold Pi.I64; omega) (by unfold Pi.I64; omega)) (obs_cons (rfl : Ren0 944 [(.agg [(iv x), (iv y)])]) obs_nil)) ?_
      refine T_seq ?_
      by_cases h104 : ((nameS x y).2) = 0
      · refine T_r mixed [(3, .gd false (.no)), (4, .gd false (.no)), (5, .gd false (.val (.av (.bool (!decide (((nameS x y).1) = s)))))), (6, .yes false)] [ps 2 (.opt 0 0), ps 11 (.opt 456 0), ps 154 (bv (!(decide (((nameS x y).1) = s)))), pb 0 25 [(iv 0), (iv 0)], pb 456 25 [(iv x), (iv y)]] (obs_cons (bt h104) (obs_cons (bt h104) (obs_cons (bt h104) (obs_cons (st_ne _ _ : (!((st ((nameS x y).1)).toList == (st s).toList)) = !decide (((nameS x y).1) = s)) (obs_cons (bt h104) obs_nil))))) ?_
        by_cases h105 : ((nameS x y).1) = s
        · refine T_el (bt h105) ?_
          refine T_skip <| T_seq ?_
          refine T_r mixed [] [ps 2 (.opt 0 0), ps 3 (iv 0), pb 0 25 [(iv x), (iv y)]] (obs_nil) ?_
          rw [(named_some (s := s) h1 h2 h3 h4 h5 (val_dd (fun c => h6 c.1) (fun c => h37 c.1) (fun c => h69 c.1) h88 h94 h95) (j := (x, y)) (by unfold jOf stepsOf; rw [if_neg (by omega)]; exact Prod.ext (by show _ = x; omega) (by show _ = y; omega))).trans (checked_yes h104 h105)]
          exact T_ret fun cx_ a_ hI_ => rt hc0 [ps 2 (.opt 0 0), ps 3 (iv 0), pb 0 25 [(iv x), (iv y)]] [0] hI_
        refine T_th (bf h105) ?_
        refine T_seq ?_
        refine T_r mixed [] [ps 2 (.opt 0 0), ps 3 (iv 2), pb 0 25 [(iv 0), (iv 0)]] (obs_nil) ?_
        rw [(named_some (s := s) h1 h2 h3 h4 h5 (val_dd (fun c => h6 c.1) (fun c => h37 c.1) (fun c => h69 c.1) h88 h94 h95) (j := (x, y)) (by unfold jOf stepsOf; rw [if_neg (by omega)]; exact Prod.ext (by show _ = x; omega) (by show _ = y; omega))).trans (checked_no2 h105)]
        exact T_ret fun cx_ a_ hI_ => rt hc0 [ps 2 (.opt 0 0), ps 3 (iv 2), pb 0 25 [(iv 0), (iv 0)]] [0] hI_
      refine T_r mixed [(3, .gd true .no), (4, .gd true .no), (5, .gd true .no), (6, .yes true)] [ps 2 (.opt 0 0), ps 11 (.opt 456 0), ps 154 (bv true), pb 0 25 [(iv 0), (iv 0)], pb 456 25 [(iv x), (iv y)]] (obs_cons (bf h104) (obs_cons (bf h104) (obs_cons (bf h104) (obs_cons (bf h104) obs_nil)))) ?_
      refine T_then (b := true) rfl rfl ?_
      refine T_seq ?_
      refine T_r mixed [] [ps 2 (.opt 0 0), ps 3 (iv 2), pb 0 25 [(iv 0), (iv 0)]] (obs_nil) ?_
      rw [(named_some (s := s) h1 h2 h3 h4 h5 (val_dd (fun c => h6 c.1) (fun c => h37 c.1) (fun c => h69 c.1) h88 h94 h95) (j := (x, y)) (by unfold jOf stepsOf; rw [if_neg (by omega)]; exact Prod.ext (by show _ = x; omega) (by show _ = y; omega))).trans (checked_no1 h104)]
      exact T_ret fun cx_ a_ hI_ => rt hc0 [ps 2 (.opt 0 0), ps 3 (iv 2), pb 0 25 [(iv 0), (iv 0)]] [0] hI_
    refine T_r mixed [(1, .call [] [(sv (st (qOf s))), (sv (st [100]))] [] (sv (st (Lib.trimS (qOf s) [100]))) []), (2, .val (.av (.bool (decide ((Lib.trimS (qOf s) [100]) = ([] : List UInt8)))))), (4, .gd false .no), (5, .gd false .no), (6, .gd false .no), (7, .yes false)] [ps 0 (sv (st s)), ps 2 (.opt 0 0), ps 4 (sv (st (tOf s))), ps 6 (sv (st (qOf s))), ps 11 (.opt 456 0), ps 12 (nv ((qOf s).length)), ps 106 (bv false), pb 0 25 [(iv 0), (iv 0)], pb 456 25 [(iv (((numS (dOf s)).1) - 1)), (iv ((12 * ((((numS (dOf s)).1) - 1) / 7)) + (Pi.nat7 ((((numS (dOf s)).1) - 1) % 7))))]] (obs_cons (trim_pc (qOf s) [100] (by omega) (by decide) (one_ascii (by decide))) (obs_cons (rfl : [(sv (st (qOf s))), (sv (st ([100] : List UInt8)))] = renL (sigi [] 744) [(sv (st (qOf s))), (sv (st [100]))]) (obs_cons (st_eq _ _ : ((st (Lib.trimS (qOf s) [100])).toList == (st ([] : List UInt8)).toList) = decide ((Lib.trimS (qOf s) [100]) = ([] : List UInt8))) (obs_cons (decide_eq_false h94) (obs_cons (decide_eq_false h94) (obs_cons (decide_eq_false h94) (obs_cons (decide_eq_false h94) obs_nil))))))) ?_
    refine T_else (b := false) rfl rfl ?_
    refine T_seq ?_
    refine T_r mixed [(1, .call [] [(sv (st (qOf s))), (sv (st [100]))] [] (sv (st (Lib.trimS (qOf s) [100]))) []), (2, .val (.av (.bool (decide ((Lib.trimS (qOf s) [100]) = ([] : List UInt8))))))] [ps 0 (sv (st s)), ps 2 (.opt 0 0), ps 4 (sv (st (tOf s))), ps 11 (.opt 456 0), ps 12 (nv ((qOf s).length)), ps 120 (bv (decide ((Lib.trimS (qOf s) [100]) = ([] : List UInt8)))), pb 0 25 [(iv 0), (iv 0)], pb 456 25 [(iv (((numS (dOf s)).1) - 1)), (iv ((12 * ((((numS (dOf s)).1) - 1) / 7)) + (Pi.nat7 ((((numS (dOf s)).1) - 1) % 7))))]] (obs_cons (trim_pc (qOf s) [100] (by omega) (by decide) (one_ascii (by decide))) (obs_cons (rfl : [(sv (st (qOf s))), (sv (st ([100] : List UInt8)))] = renL (sigi [] 816) [(sv (st (qOf s))), (sv (st [100]))]) (obs_cons (st_eq _ _ : ((st (Lib.trimS (qOf s) [100])).toList == (st ([] : List UInt8)).toList) = decide ((Lib.trimS (qOf s) [100]) = ([] : List UInt8))) obs_nil))) ?_
    refine T_el (decide_eq_false h94) ?_
    refine T_seq ?_
    refine T_r mixed [] [ps 2 (.opt 0 0), ps 3 (iv 2), pb 0 25 [(iv 0), (iv 0)]] (obs_nil) ?_
    rw [named_none (s := s) h1 h2 h3 h4 h5 (val_no (fun c => h6 c.1) (fun c => h37 c.1) (fun c => h69 c.1) h88 h94)]
    exact T_ret fun cx_ a_ hI_ => rt hc0 [ps 2 (.opt 0 0), ps 3 (iv 2), pb 0 25 [(iv 0), (iv 0)]] [0] hI_
  refine T_r mixed [(3, .gd true .no), (4, .gd true .no), (5, .yes true), (7, .gd true .no), (8, .gd true .no)] [ps 0 (sv (st s)), ps 2 (.opt 0 0), ps 4 (sv (st (tOf s))), ps 6 (sv (st (qOf s))), ps 7 (iv ((numS (dOf s)).1)), ps 40 (bv true), pb 0 25 [(iv 0), (iv 0)]] (obs_cons (congrArg Bool.not (Bool.eq_false_iff.2 h1) : (!((numS (dOf s)).2)) = true) (obs_cons (congrArg Bool.not (Bool.eq_false_iff.2 h1) : (!((numS (dOf s)).2)) = true) (obs_cons (congrArg Bool.not (Bool.eq_false_iff.2 h1) : (!((numS (dOf s)).2)) = true) (obs_cons (rfl : true = true) (obs_cons (rfl : true = true) obs_nil))))) ?_
  refine T_then (b := true) rfl rfl ?_
  refine T_seq ?_
  refine T_r mixed [] [ps 2 (.opt 0 0), ps 3 (iv 2), pb 0 25 [(iv 0), (iv 0)]] (obs_nil) ?_
  rw [named_form (s := s) (.inl h1)]
  exact T_ret fun cx_ a_ hI_ => rt hc0 [ps 2 (.opt 0 0), ps 3 (iv 2), pb 0 25 [(iv 0), (iv 0)]] [0] hI_
theorem named_pc (s : List UInt8) (hs : s.length ≤ 9223372036854775807) : PC Tryz.prog 10 [(sv (st s))] [] ((.tup [(.agg [(iv ((namedS s).1.1)), (iv ((namedS s).1.2))]), (iv ((namedS s).2))])) [] := pc_trim [none] rfl (fun i => by rcases i with _ | _ | i <;> rfl) (named_pc0 s hs)
end Go.Proofs.YtlngkiipgkociaaGreatDoor.Pm
namespace Go.Proofs.YtlngkiipgkociaaGreatDoor.Pm
open Go Go.Proofs.YtlngkiipgkociaaGreatDoor.Pi

/-! ### decoding -/
theorem st_get (l : List UInt8) (k : Nat) : (st l).get! k = l.getD k 0 := by
  show (l.toArray)[k]! = l.getD k 0
  rw [Array.getElem!_eq_getD, List.getD_eq_getElem?_getD, Array.getD_eq_getD_getElem?]
  simp
  rfl
theorem dec_ascii {b : UInt8} {r : List UInt8} (h : b.toNat < 128) : dec1 (b :: r) = b.toNat ∧ dec2 (b :: r) = 1 := by
  have hs : (st (b :: r)).size ≠ 0 := by show (b :: r).length ≠ 0; simp
  have e : Lib.decodeGo (st (b :: r)) = (b.toNat, 1) := by
    unfold Lib.decodeGo
    rw [if_neg hs]
    unfold Utf8.decode
    dsimp only
    simp only [st_get]
    exact if_pos h
  unfold dec1 dec2
  rw [e]
  exact ⟨rfl, rfl⟩
theorem dec_three {c : UInt8} {r : List UInt8} (h1 : 128 ≤ c.toNat) (h2 : c.toNat < 192) : dec1 (226 :: 153 :: c :: r) = 8192 + 25 * 64 + c.toNat % 64 ∧ dec2 (226 :: 153 :: c :: r) = 3 := by
  have hs : (st (226 :: 153 :: c :: r)).size ≠ 0 := by show (226 :: 153 :: c :: r).length ≠ 0; simp
  have hl : (st (226 :: 153 :: c :: r)).size = r.length + 3 := rfl
  have e : Lib.decodeGo (st (226 :: 153 :: c :: r)) = (8192 + 25 * 64 + c.toNat % 64, 3) := by
    unfold Lib.decodeGo
    rw [if_neg hs]
    unfold Utf8.decode
    dsimp only
    simp only [st_get, hl]
    have h3 : c.toNat / 64 = 2 := by omega
    have h4 : c.toNat % 64 < 64 := Nat.mod_lt _ (by decide)
    simp [h3, Utf8.valid]
    omega
  unfold dec1 dec2
  rw [e]
  exact ⟨rfl, rfl⟩
theorem dec_four {c : UInt8} {r : List UInt8} (h1 : 128 ≤ c.toNat) (h2 : c.toNat < 192) : dec1 (240 :: 157 :: 132 :: c :: r) = 118784 + 256 + c.toNat % 64 ∧ dec2 (240 :: 157 :: 132 :: c :: r) = 4 := by
  have hs : (st (240 :: 157 :: 132 :: c :: r)).size ≠ 0 := by show (240 :: 157 :: 132 :: c :: r).length ≠ 0; simp
  have hl : (st (240 :: 157 :: 132 :: c :: r)).size = r.length + 4 := rfl
  have e : Lib.decodeGo (st (240 :: 157 :: 132 :: c :: r)) = (118784 + 256 + c.toNat % 64, 4) := by
    unfold Lib.decodeGo
    rw [if_neg hs]
    unfold Utf8.decode
    dsimp only
    simp only [st_get, hl]
    have h3 : c.toNat / 64 = 2 := by omega
    have h4 : c.toNat % 64 < 64 := Nat.mod_lt _ (by decide)
    simp [h3, Utf8.valid]
    omega
  unfold dec1 dec2
  rw [e]
  exact ⟨rfl, rfl⟩

/-! ### numbers -/
def dg3 (u : Nat) : List UInt8 := if u < 10 then [UInt8.ofNat (48 + u)] else if u < 100 then [UInt8.ofNat (48 + u / 10), UInt8.ofNat (48 + u % 10)] else [UInt8.ofNat (48 + u / 100), UInt8.ofNat (48 + u / 10 % 10), UInt8.ofNat (48 + u % 10)]
theorem dec_dg3 {u : Nat} (h : u < 1000) : Lib.decDigits u = dg3 u := by
  unfold dg3
  by_cases h1 : u < 10
  · rw [if_pos h1, Lib.decDigits_one h1]
  · rw [if_neg h1]
    by_cases h2 : u < 100
    · rw [if_pos h2, Lib.decDigits_two h1 h2]
    · rw [if_neg h2, Lib.decDigits, dif_neg h1, Lib.decDigits_two (by omega) (by omega), show u / 10 / 10 = u / 100 from by omega]
      rfl
theorem num_dg3 : ∀ u : Fin 1000, numS (dg3 u.1) = ((u.1 : Int), true) ∧ (1 ≤ u.1 → numS (45 :: dg3 u.1) = (0 - (u.1 : Int), true)) ∧ (∃ b ∈ digs, (dg3 u.1).head? = some b) := by
  decide +kernel
end Go.Proofs.YtlngkiipgkociaaGreatDoor.Pm
namespace Go.Proofs.YtlngkiipgkociaaGreatDoor.Pm
open Go Go.Proofs.YtlngkiipgkociaaGreatDoor.Pi

theorem itoa_pos {u : Nat} (h : u < 1000) : Lib.itoa (u : Int) = dg3 u := by rw [Lib.itoa_nonneg, dec_dg3 h]
theorem itoa_neg' {u : Nat} (h : u < 1000) (h1 : 1 ≤ u) : Lib.itoa (0 - (u : Int)) = 45 :: dg3 u := by
  rw [show 0 - (u : Int) = -(u : Int) from by omega, Lib.itoa_neg u h1, dec_dg3 h]
/-- A number, written and read. -/
theorem num_itoa {n : Int} (h1 : -999 ≤ n) (h2 : n ≤ 999) : numS (Lib.itoa n) = (n, true) := by
  by_cases h : 0 ≤ n
  · obtain ⟨u, rfl⟩ : ∃ u : Nat, n = u := ⟨n.toNat, by omega⟩
    rw [itoa_pos (by omega)]
    exact (num_dg3 ⟨u, by omega⟩).1
  · obtain ⟨u, rfl⟩ : ∃ u : Nat, n = 0 - (u : Int) := ⟨(-n).toNat, by omega⟩
    rw [itoa_neg' (by omega) (by omega)]
    exact (num_dg3 ⟨u, by omega⟩).2.1 (by show 1 ≤ u; omega)
/-- How a number begins. -/
theorem itoa_head {n : Int} (h1 : -999 ≤ n) (h2 : n ≤ 999) : ∃ b r, Lib.itoa n = b :: r ∧ (b ∈ digs ∨ b = 45) ∧ (0 ≤ n → b ∈ digs) := by
  by_cases h : 0 ≤ n
  · obtain ⟨u, rfl⟩ : ∃ u : Nat, n = u := ⟨n.toNat, by omega⟩
    rw [itoa_pos (by omega)]
    obtain ⟨b, hb, hh⟩ := (num_dg3 ⟨u, by omega⟩).2.2
    cases hd : dg3 u with
    | nil => rw [show dg3 (⟨u, by omega⟩ : Fin 1000).1 = [] from hd] at hh; cases hh
    | cons c r =>
      rw [show dg3 (⟨u, by omega⟩ : Fin 1000).1 = c :: r from hd] at hh
      cases hh
      exact ⟨_, r, rfl, .inl hb, fun _ => hb⟩
  · obtain ⟨u, rfl⟩ : ∃ u : Nat, n = 0 - (u : Int) := ⟨(-n).toNat, by omega⟩
    rw [itoa_neg' (by omega) (by omega)]
    exact ⟨45, _, rfl, .inr rfl, fun c => by omega⟩
theorem plain_byte {b : UInt8} (h : b ∈ digs ∨ b = 45) : b.toNat < 128 ∧ (signB ((b.toNat : Nat) : Int)).2 = false ∧ b ≠ 226 := by
  have h1 : ∀ b ∈ (45 :: digs), b.toNat < 128 ∧ (signB ((b.toNat : Nat) : Int)).2 = false ∧ b ≠ 226 := by decide
  rcases h with h | rfl
  · exact h1 b (List.mem_cons_of_mem _ h)
  · exact h1 45 (by simp)
/-- Behind the signs the number begins. -/
theorem signs_end {l : List UInt8} {b : UInt8} {r : List UInt8} (hl : l = b :: r) (h : b ∈ digs ∨ b = 45) (a : Int) (n : Nat) : signsR l a n = (true, a, n) := by
  obtain ⟨h1, h2, _⟩ := plain_byte h
  subst hl
  apply signsR_end
  rw [(dec_ascii h1).1, h2]
  decide
theorem signs_three {c : UInt8} {r : List UInt8} {a : Int} {n : Nat} {by' : Int} (h1 : 128 ≤ c.toNat) (h2 : c.toNat < 192) (hs : signB (((8192 + 25 * 64 + c.toNat % 64 : Nat)) : Int) = (by', true)) (hb : ¬ ((a + by') * by' < 0 ∨ 3 < max (a + by') (0 - (a + by')))) :
    signsR (226 :: 153 :: c :: r) a n = signsR r (a + by') (n + 3) := by
  obtain ⟨d1, d2⟩ := dec_three (r := r) h1 h2
  rw [signsR_on (by rw [d1, hs]) (by rw [d1, hs]; exact hb), d1, d2, hs]
  rfl
theorem signs_four {c : UInt8} {r : List UInt8} {a : Int} {n : Nat} {by' : Int} (h1 : 128 ≤ c.toNat) (h2 : c.toNat < 192) (hs : signB (((118784 + 256 + c.toNat % 64 : Nat)) : Int) = (by', true)) (hb : ¬ ((a + by') * by' < 0 ∨ 3 < max (a + by') (0 - (a + by')))) :
    signsR (240 :: 157 :: 132 :: c :: r) a n = signsR r (a + by') (n + 4) := by
  obtain ⟨d1, d2⟩ := dec_four (r := r) h1 h2
  rw [signsR_on (by rw [d1, hs]) (by rw [d1, hs]; exact hb), d1, d2, hs]
  rfl
theorem signs_all {a : Int} (h1 : -3 ≤ a) (h2 : a ≤ 3) {l : List UInt8} {b : UInt8} {r : List UInt8} (hl : l = b :: r) (h : b ∈ digs ∨ b = 45) : signsR (signL a ++ l) 0 1 = (true, a, 1 + (signL a).length) := by
  have hc : a = -3 ∨ a = -2 ∨ a = -1 ∨ a = 0 ∨ a = 1 ∨ a = 2 ∨ a = 3 := by omega
  rcases hc with rfl | rfl | rfl | rfl | rfl | rfl | rfl
  · show signsR (240 :: 157 :: 132 :: 171 :: 226 :: 153 :: 173 :: l) 0 1 = _
    rw [signs_four (by' := -2) (by decide) (by decide) (by decide) (by decide), signs_three (by' := -1) (by decide) (by decide) (by decide) (by decide), signs_end hl h]
    rfl
  · show signsR (240 :: 157 :: 132 :: 171 :: l) 0 1 = _
    rw [signs_four (by' := -2) (by decide) (by decide) (by decide) (by decide), signs_end hl h]
    rfl
  · show signsR (226 :: 153 :: 173 :: l) 0 1 = _
    rw [signs_three (by' := -1) (by decide) (by decide) (by decide) (by decide), signs_end hl h]
    rfl
  · show signsR l 0 1 = _
    rw [signs_end hl h]
    rfl
  · show signsR (226 :: 153 :: 175 :: l) 0 1 = _
    rw [signs_three (by' := 1) (by decide) (by decide) (by decide) (by decide), signs_end hl h]
    rfl
  · show signsR (240 :: 157 :: 132 :: 170 :: l) 0 1 = _
    rw [signs_four (by' := 2) (by decide) (by decide) (by decide) (by decide), signs_end hl h]
    rfl
  · show signsR (240 :: 157 :: 132 :: 170 :: 226 :: 153 :: 175 :: l) 0 1 = _
    rw [signs_four (by' := 2) (by decide) (by decide) (by decide) (by decide), signs_three (by' := 1) (by decide) (by decide) (by decide) (by decide), signs_end hl h]
    rfl
theorem no_natural {a : Int} (h1 : -3 ≤ a) (h2 : a ≤ 3) {l : List UInt8} {b : UInt8} {r : List UInt8} (hl : l = b :: r) (h : b ∈ digs ∨ b = 45) : ¬ Lib.hasPrefix (signL a ++ l) [226, 153, 174] = true := by
  obtain ⟨_, _, h3⟩ := plain_byte h
  subst hl
  have hc : a = -3 ∨ a = -2 ∨ a = -1 ∨ a = 0 ∨ a = 1 ∨ a = 2 ∨ a = 3 := by omega
  rcases hc with rfl | rfl | rfl | rfl | rfl | rfl | rfl
  · simp [signL, Lib.hasPrefix]
  · simp [signL, Lib.hasPrefix]
  · simp [signL, Lib.hasPrefix]
  · simp [signL, Lib.hasPrefix, Ne.symm h3]
  · simp [signL, Lib.hasPrefix]
  · simp [signL, Lib.hasPrefix]
  · simp [signL, Lib.hasPrefix]
theorem letter_at0 : ∀ l : Fin 7, (letB.drop l.1).take 1 = [letB.getD l.1 0] ∧ Lib.indexByte letB (letB.getD l.1 0) = (l.1 : Int) := by decide
theorem letter_at (l : Fin 7) : ∃ c, (letB.drop l.1).take 1 = [c] ∧ Lib.indexByte letB c = (l.1 : Int) := ⟨_, letter_at0 l⟩
/-- A pitch that is written is read. -/
theorem read_print {l a o : Int} (h : rightB l a o = true) : readS (printS l a o).1 = ((l, a, o), 0, 0) := by
  obtain ⟨r1, r2, r3, r4, r5, r6⟩ := rightB_iff.1 h
  obtain ⟨b, r, hi, hb, _⟩ := itoa_head (n := o) (by omega) (by omega)
  obtain ⟨c, hc1, hc2⟩ := letter_at ⟨l.toNat, by omega⟩
  have hp : (printS l a o).1 = c :: (signL a ++ Lib.itoa o) := by
    unfold printS; rw [if_pos h]
    show (letB.drop l.toNat).take 1 ++ signL a ++ Lib.itoa o = _
    rw [show (letB.drop l.toNat).take 1 = [c] from hc1]
    rfl
  rw [hp]
  have hix : Lib.indexByte letB ((c :: (signL a ++ Lib.itoa o)).getD 0 0) = l := by
    show Lib.indexByte letB c = l
    rw [hc2]
    show ((l.toNat : Nat) : Int) = l
    omega
  have hbe : behind (c :: (signL a ++ Lib.itoa o)) = (true, a, 1 + (signL a).length) := by
    unfold behind
    show (if Lib.hasPrefix (signL a ++ Lib.itoa o) [226, 153, 174] = true then (true, 0, 4) else signsR (signL a ++ Lib.itoa o) 0 1) = _
    rw [if_neg (no_natural r3 r4 hi hb), signs_all r3 r4 hi hb]
  have hdr : (c :: (signL a ++ Lib.itoa o)).drop (1 + (signL a).length) = Lib.itoa o := by
    rw [Nat.add_comm, List.drop_succ_cons, List.drop_left]
  have hn := num_itoa (n := o) (by omega) (by omega)
  have := readS_yes (s := c :: (signL a ++ Lib.itoa o)) (a := a) (n := 1 + (signL a).length) (by simp) (by rw [hix]; exact r1) hbe (by rw [hdr, hn]) (by rw [hdr, hn, hix]; exact h)
  rw [this, hix, hdr, hn]

/-! ### intervals -/
theorem qual_all : ∀ (p : Bool) (k : Fin 14), qualV p (qualS p ((k.1 : Int) - 7)) = some ((k.1 : Int) - 7) ∨ 6 < (qualS p ((k.1 : Int) - 7)).length := by decide
theorem qual_bytes : ∀ (p : Bool) (k : Fin 14), (∀ b ∈ qualS p ((k.1 : Int) - 7), b ∈ quals) ∧ (qualS p ((k.1 : Int) - 7) ≠ []) := by decide
theorem qual_small {p : Bool} {m : Int} (h : ¬ 6 < (qualS p m).length) : -7 ≤ m ∧ m ≤ 6 := by
  unfold qualS at h
  split at h
  · rw [rep_len] at h; omega
  · split at h
    · omega
    · split at h
      · rw [rep_len] at h; omega
      · split at h
        · omega
        · rw [rep_len] at h; omega
theorem qual_ok {p : Bool} {m : Int} (h : ¬ 6 < (qualS p m).length) : qualV p (qualS p m) = some m ∧ (∀ b ∈ qualS p m, b ∈ quals) ∧ qualS p m ≠ [] := by
  obtain ⟨h1, h2⟩ := qual_small h
  have e : (((⟨(m + 7).toNat, by omega⟩ : Fin 14).1 : Int)) - 7 = m := by show (((m + 7).toNat : Nat) : Int) - 7 = m; omega
  have h3 := qual_all p ⟨(m + 7).toNat, by omega⟩
  have h4 := qual_bytes p ⟨(m + 7).toNat, by omega⟩
  rw [e] at h3 h4
  exact ⟨h3.resolve_right h, h4⟩
theorem dropWhile_app {p : UInt8 → Bool} : ∀ {q l : List UInt8}, (∀ b ∈ q, p b = true) → (q ++ l).dropWhile p = l.dropWhile p
  | [], _, _ => rfl
  | a :: q, l, h => by
    rw [List.cons_append, List.dropWhile_cons_of_pos (h a (by simp))]
    exact dropWhile_app fun b hb => h b (by simp [hb])
/-- An interval that is written is read. -/
theorem named_name {s h : Int} (hok : (nameS s h).2 = 0) : namedS (nameS s h).1 = ((s, h), 0) := by
  have hw : withinB s h = true := by
    by_cases hw : withinB s h = true
    · exact hw
    · rw [nameS_no hw] at hok; exact absurd hok (by decide)
  obtain ⟨w1, w2, w3, w4⟩ := withinB_iff.1 hw
  -- without the sign
  obtain ⟨mn, x, y, hname, hx0, hx2, hmn⟩ : ∃ mn x y, nameS s h = nameA mn x y ∧ 0 ≤ x ∧ x ≤ 200 ∧ ((mn = [45] ∧ s = 0 - x ∧ h = 0 - y) ∨ (mn = [] ∧ s = x ∧ h = y)) := by
    by_cases hn : s < 0 ∨ (s = 0 ∧ h < 0)
    · exact ⟨[45], 0 - s, 0 - h, nameS_neg hw hn rfl, by omega, by omega, .inl ⟨rfl, by omega, by omega⟩⟩
    · exact ⟨[], s, h, nameS_pos hw hn rfl, by omega, by omega, .inr ⟨rfl, rfl, rfl⟩⟩
  obtain ⟨q, hq⟩ : ∃ q, q = qualS (perfB x) (moreOf x y) := ⟨_, rfl⟩
  have hlen : ¬ 6 < q.length := by
    intro hl
    rw [hname, nameA_far hq.symm (by omega)] at hok
    exact absurd hok (by decide)
  have hnm : nameS s h = (mn ++ q ++ Lib.itoa (x + 1), 0) := by rw [hname, nameA_ok hq.symm (by omega)]
  obtain ⟨v1, v2, v3⟩ := qual_ok (p := perfB x) (m := moreOf x y) (by rw [← hq]; exact hlen)
  rw [← hq] at v1 v2 v3
  obtain ⟨b, r, hi, _, hb⟩ := itoa_head (n := x + 1) (by omega) (by omega)
  replace hb := hb (by omega)
  obtain ⟨S, hS⟩ : ∃ S, S = mn ++ q ++ Lib.itoa (x + 1) := ⟨_, rfl⟩
  rw [hnm]
  show namedS (mn ++ q ++ Lib.itoa (x + 1)) = _
  rw [← hS]
  have hd45 : ∀ b ∈ quals, b ≠ 45 := by decide
  have ht : tOf S = q ++ Lib.itoa (x + 1) := by
    unfold tOf Lib.trimPrefix
    rcases hmn with ⟨rfl, _, _⟩ | ⟨rfl, _, _⟩
    · rw [hS, if_pos (by simp [Lib.hasPrefix])]
      rfl
    · rw [hS, if_neg]
      · rfl
      · cases q with
        | nil => exact absurd rfl v3
        | cons c q =>
          have := hd45 c (v2 c (by simp))
          simp [Lib.hasPrefix, Ne.symm this]
  have hdq : ∀ b ∈ digs, quals.contains b = false := by decide
  have hd : dOf S = Lib.itoa (x + 1) := by
    unfold dOf Lib.trimLeftS
    rw [ht, dropWhile_app (fun c hc => by simpa using v2 c hc), hi, List.dropWhile_cons_of_neg (by rw [hdq b hb]; decide)]
  have hqo : qOf S = q := by
    unfold qOf
    rw [ht, hd, List.length_append, Nat.add_sub_cancel, List.take_left]
  have hn := num_itoa (n := x + 1) (by omega) (by omega)
  have hst : stepsOf S = x := by unfold stepsOf; rw [hd, hn]; show x + 1 - 1 = x; omega
  have hlt : (tOf S).length < S.length ↔ mn = [45] := by
    rw [ht, hS]
    rcases hmn with ⟨rfl, _, _⟩ | ⟨rfl, _, _⟩
    · simp
    · simp
  have hj : jOf S (moreOf x y) = (s, h) := by
    unfold jOf moreOf
    rw [hst]
    rcases hmn with ⟨e, e1, e2⟩ | ⟨e, e1, e2⟩
    · rw [if_pos (hlt.2 e)]
      exact Prod.ext (by show _ = s; omega) (by show _ = h; omega)
    · rw [if_neg (fun c => by have := hlt.1 c; rw [e] at this; cases this)]
      exact Prod.ext (by show _ = s; omega) (by show _ = h; omega)
  rw [named_some (s := S) (by rw [hd, hn]) (by rw [hd, hn]; show ¬ x + 1 < 1; omega) (by rw [hqo]; exact v3) (by rw [hst]; omega) (by rw [hqo]; omega) (m := moreOf x y) (by rw [hst, hqo]; exact v1) hj]
  exact checked_yes (by rw [hnm]) (by rw [hnm, hS])
end Go.Proofs.YtlngkiipgkociaaGreatDoor.Pm
namespace Go.Proofs.YtlngkiipgkociaaGreatDoor.Pm
open Go Go.Proofs.YtlngkiipgkociaaGreatDoor.Pi

/-! ### digits -/
theorem itoa_min {n : Int} (h : n < 0) : ([45] : List UInt8) ++ Lib.itoa (0 - n) = Lib.itoa n := by
  obtain ⟨u, rfl⟩ : ∃ u : Nat, n = -(u : Int) := ⟨(-n).toNat, by omega⟩
  rw [Lib.itoa_neg u (by omega), show 0 - -(u : Int) = (u : Int) from by omega, Lib.itoa_nonneg]
  rfl
theorem itoa_dig {n : Int} (h0 : 0 ≤ n) (h : n < 10) : Lib.itoa n = [UInt8.ofNat (48 + n).toNat] := by
  obtain ⟨u, rfl⟩ : ∃ u : Nat, n = (u : Int) := ⟨n.toNat, by omega⟩
  rw [Lib.itoa_nonneg, Lib.decDigits_one (by omega)]
  rfl
theorem itoa_app {n : Int} (h : ¬ n < 10) : Lib.itoa (n.tdiv 10) ++ Lib.itoa (n.tmod 10) = Lib.itoa n := by
  obtain ⟨u, rfl⟩ : ∃ u : Nat, n = (u : Int) := ⟨n.toNat, by omega⟩
  have e1 : ((u : Nat) : Int).tdiv 10 = ((u / 10 : Nat) : Int) := rfl
  have e2 : ((u : Nat) : Int).tmod 10 = ((u % 10 : Nat) : Int) := rfl
  rw [e1, e2, Lib.itoa_nonneg, Lib.itoa_nonneg, Lib.itoa_nonneg]
  rw [Lib.decDigits.eq_def u, dif_neg (by omega), Lib.decDigits_one (show u % 10 < 10 from Nat.mod_lt _ (by decide))]
theorem quo_bd {n : Int} (h : ¬ n < 10) : 0 ≤ n.tdiv 10 ∧ n.tdiv 10 < n ∧ 0 ≤ n.tmod 10 ∧ n.tmod 10 < 10 := by
  obtain ⟨u, rfl⟩ : ∃ u : Nat, n = (u : Int) := ⟨n.toNat, by omega⟩
  have e1 : ((u : Nat) : Int).tdiv 10 = ((u / 10 : Nat) : Int) := rfl
  have e2 : ((u : Nat) : Int).tmod 10 = ((u % 10 : Nat) : Int) := rfl
  omega
theorem bytes_one {x : Int} (h0 : 0 ≤ x) (h1 : x < 256) : ([.av (.int .u8 x)] : List PV) = bytesPV (st [UInt8.ofNat x.toNat]) := by
  obtain ⟨u, rfl⟩ : ∃ u : Nat, x = (u : Int) := ⟨x.toNat, by omega⟩
  show _ = [PV.av (.int .u8 ((UInt8.ofNat u).toNat : Int))]
  rw [UInt8.toNat_ofNat_of_lt' (by show u < 256; omega)]
theorem rep_snoc (c : UInt8) : ∀ k, Lib.repeatL [c] k ++ [c] = Lib.repeatL [c] (k + 1)
  | 0 => rfl
  | k + 1 => by
    show [c] ++ Lib.repeatL [c] k ++ [c] = [c] ++ Lib.repeatL [c] (k + 1)
    rw [List.append_assoc, rep_snoc c k]

/-! ### beginnings -/
theorem starts_pre {s t : List UInt8} {n : Nat} (ht : t ≠ []) : (n + t.length ≤ s.length ∧ (s.drop n).take t.length = t) ↔ Lib.hasPrefix (s.drop n) t = true := by
  unfold Lib.hasPrefix
  rw [List.isPrefixOf_iff_prefix, List.prefix_iff_eq_take]
  constructor
  · exact fun h => h.2.symm
  · intro h
    have hl := congrArg List.length h
    rw [List.length_take, List.length_drop] at hl
    have := List.length_pos_iff.2 ht
    exact ⟨by omega, h.symm⟩
theorem starts_yes {s t : List UInt8} {n : Nat} (ht : t ≠ []) (h : (s.drop n).take t.length = t) (h1 : (n : Int) + (t.length : Int) ≤ (s.length : Int)) : Lib.hasPrefix (s.drop n) t = true := (starts_pre ht).1 ⟨by omega, h⟩
theorem starts_no {s t : List UInt8} {n : Nat} (ht : t ≠ []) (h : ¬ (s.drop n).take t.length = t) : Lib.hasPrefix (s.drop n) t = false := by
  rw [← Bool.not_eq_true, ← starts_pre ht]; exact fun c => h c.2
theorem starts_short {s t : List UInt8} {n : Nat} (ht : t ≠ []) (h1 : ¬ (n : Int) + (t.length : Int) ≤ (s.length : Int)) : Lib.hasPrefix (s.drop n) t = false := by
  rw [← Bool.not_eq_true, ← starts_pre ht]; exact fun c => h1 (by omega)
theorem min_head {s : List UInt8} (h0 : 0 < s.length) : Lib.hasPrefix s [45] = decide ((((s.getD 0 0).toNat : Nat) : Int) = 45) := by
  cases s with
  | nil => cases h0
  | cons a l =>
    rw [Bool.eq_iff_iff]
    simp only [Lib.hasPrefix, List.isPrefixOf, Bool.and_true, beq_iff_eq, List.getD_cons_zero, decide_eq_true_eq]
    constructor
    · rintro rfl; rfl
    · intro h
      exact UInt8.toNat_inj.1 (show (45 : UInt8).toNat = a.toNat from by have : (45 : UInt8).toNat = 45 := rfl; omega)

/-! ### numbers, digit by digit -/
def decW1 (n : Int) (b : UInt8) : Int := IntKind.wrap .i64 (IntKind.wrap .i64 (10 * n) + IntKind.wrap .i64 (IntKind.wrap .u8 (((b.toNat : Nat) : Int) - 48)))
def decW (n : Int) : List UInt8 → Int
  | [] => n
  | b :: r => decW (decW1 n b) r
theorem decW_snoc (b : UInt8) : ∀ (l : List UInt8) (n : Int), decW n (l ++ [b]) = decW1 (decW n l) b
  | [], _ => rfl
  | c :: l, n => decW_snoc b l (decW1 n c)
theorem isdig {b : UInt8} (h1 : ¬ (((b.toNat : Nat) : Int) < 48)) (h2 : ¬ (57 < ((b.toNat : Nat) : Int))) : b ∈ digs := by
  have key : ∀ b : UInt8, 48 ≤ b.toNat → b.toNat ≤ 57 → b ∈ digs := by
    intro b h1 h2
    have : ∀ k : Fin 10, UInt8.ofNat (48 + k.1) ∈ digs := by decide
    have e := this ⟨b.toNat - 48, by omega⟩
    rw [show 48 + (⟨b.toNat - 48, by omega⟩ : Fin 10).1 = b.toNat from by show 48 + (b.toNat - 48) = b.toNat; omega] at e
    simpa using e
  exact key b (by omega) (by omega)
theorem nodig {b : UInt8} (h : ((b.toNat : Nat) : Int) < 48 ∨ 57 < ((b.toNat : Nat) : Int)) : b ∉ digs := by
  intro hb
  obtain ⟨d, _, h2, h3⟩ := dig_val hb
  omega
theorem decW_dec : ∀ {l : List UInt8} {acc : Nat}, (∀ b ∈ l, b ∈ digs) → l.length ≤ 14 → acc < 10 ^ (14 - l.length) → ∀ {n}, Lib.decFrom acc l = some n → decW (acc : Int) l = (n : Int)
  | [], acc, _, _, _, n, h => by cases h; rfl
  | b :: r, acc, hd, hl, ha, n, h => by
    obtain ⟨d, h1, h2, h3⟩ := dig_val (hd b (by simp))
    simp only [Lib.decFrom, h1] at h
    rw [List.length_cons] at hl ha
    have hp : 10 ^ (14 - r.length) = 10 ^ (14 - (r.length + 1)) * 10 := by rw [← Nat.pow_succ]; congr 1; omega
    have hq : 10 ^ (14 - (r.length + 1)) ≤ 10 ^ 14 := Nat.pow_le_pow_right (by decide) (by omega)
    have e : decW1 (acc : Int) b = ((acc * 10 + d : Nat) : Int) := by
      unfold decW1
      rw [wrap_in (k := .u8) (by simp only [InK]; omega), wrap_in (k := .i64) (n := 10 * (acc : Int)) (by simp only [InK]; omega), wrap_in (k := .i64) (n := ((b.toNat : Nat) : Int) - 48) (by simp only [InK]; omega), wrap_in (by simp only [InK]; omega)]
      omega
    show decW (decW1 (acc : Int) b) r = n
    rw [e]
    exact decW_dec (fun c hc => hd c (by simp [hc])) (by omega) (by omega) h
theorem decW_atoi {t : List UInt8} (h0 : t ≠ []) (hd : ∀ b ∈ t, b ∈ digs) (hl : t.length ≤ 4) : decW 0 t = atoiN t := by
  obtain ⟨n, h1, _⟩ := digs_val h0 hd
  obtain ⟨m, h2, _⟩ := dec_from (acc := 0) hd
  have h3 := decW_dec hd (by omega) (Nat.pow_pos (by decide)) h2
  have h4 : atoiN t = (n : Int) := by unfold atoiN; rw [h1]; rfl
  rw [h4]
  cases t with
  | nil => exact absurd rfl h0
  | cons b r =>
    obtain ⟨d, _, h5, h6⟩ := dig_val (hd b (by simp))
    have e1 : (b == 45) = false := by
      rw [beq_eq_false_iff_ne]; rintro rfl
      have : (45 : UInt8).toNat = 45 := rfl
      omega
    have e2 : (b == 43) = false := by
      rw [beq_eq_false_iff_ne]; rintro rfl
      have : (43 : UInt8).toNat = 43 := rfl
      omega
    simp only [Lib.atoi, e1, e2, Lib.decNat, Bool.false_eq_true, if_false, List.isEmpty_cons, h2] at h1
    have h7 : (m : Int) = n := by simpa using h1
    rw [← h7]; exact h3
theorem trim_none {t : List UInt8} (h : ∀ b ∈ t, b ∈ digs) : Lib.trimS t digs = [] := by
  unfold Lib.trimS Lib.trimLeftS Lib.trimRightS
  have key : ∀ l : List UInt8, (∀ b ∈ l, b ∈ digs) → l.dropWhile (digs.contains ·) = [] := by
    intro l hl
    induction l with
    | nil => rfl
    | cons a l ih => rw [List.dropWhile_cons_of_pos (by simpa using hl a (by simp))]; exact ih fun b hb => hl b (by simp [hb])
  rw [key t.reverse fun b hb => h b (by simpa using hb)]
  rfl
theorem noNum_byte {m : Bool} {t : List UInt8} {b : UInt8} (hb : b ∈ t) (h : b ∉ digs) : noNum m t := .inr (.inr (.inr fun c => h (trim_all c b hb)))
theorem get_mem {s : List UInt8} {k : Nat} (h : k < s.length) : s.getD k 0 ∈ s := by
  rw [List.getD_eq_getElem?_getD, List.getElem?_eq_getElem h]; exact List.getElem_mem h
theorem get_mem_drop {s : List UInt8} {i k : Nat} (hi : i ≤ k) (h : k < s.length) : s.getD k 0 ∈ s.drop i := by
  have : s.getD k 0 = (s.drop i).getD (k - i) 0 := by rw [List.getD_eq_getElem?_getD, List.getD_eq_getElem?_getD, List.getElem?_drop]; congr 2; omega
  rw [this]; exact get_mem (by rw [List.length_drop]; omega)
theorem take_snoc {s : List UInt8} {i k : Nat} (hi : i ≤ k) (h : k < s.length) : (s.take (k + 1)).drop i = (s.take k).drop i ++ [s.getD k 0] := by
  rw [List.take_add_one, List.drop_append_of_le_length (by rw [List.length_take]; omega), List.getElem?_eq_getElem h]
  congr 1
  rw [List.getD_eq_getElem?_getD, List.getElem?_eq_getElem h]; rfl
theorem get_drop1 {s : List UInt8} {i : Nat} : (s.drop i).getD 0 0 = s.getD i 0 := by rw [List.getD_eq_getElem?_getD, List.getD_eq_getElem?_getD, List.getElem?_drop]; rfl
theorem body_i {s : List UInt8} {i : Nat} (h : (i = 1 ∧ Lib.hasPrefix s [45] = true) ∨ (i = 0 ∧ Lib.hasPrefix s [45] = false)) : body s = s.drop i := by
  rcases h with ⟨rfl, h⟩ | ⟨rfl, h⟩
  · exact body_min h
  · rw [body_plain (by rw [h]; decide)]; rfl
section
variable {s : List UInt8} {i : Nat} (hi : (i = 1 ∧ Lib.hasPrefix s [45] = true) ∨ (i = 0 ∧ Lib.hasPrefix s [45] = false))
include hi
/-- The document's number: a byte that is no digit. -/
theorem refnum_byte {k : Nat} (h1 : i ≤ k) (h2 : k < s.length) (h : s.getD k 0 ∉ digs) : numS s = (0, false) :=
  numS_no (by rw [body_i hi]; exact noNum_byte (get_mem_drop h1 h2) h)
theorem refnum_bad (h : (s.length : Int) - (i : Int) < 1 ∨ 4 < (s.length : Int) - (i : Int) ∨ (((s.getD i 0).toNat : Nat) : Int) = 48 ∧ (1 < (s.length : Int) - (i : Int) ∨ i = 1)) : numS s = (0, false) := by
  refine numS_no ?_
  rw [body_i hi]
  unfold noNum
  rw [List.length_drop, get_drop1]
  rcases h with h | h | ⟨h, h'⟩
  · exact .inl (List.drop_eq_nil_of_le (by omega))
  · exact .inr (.inl (by omega))
  · refine .inr (.inr (.inl ⟨by omega, ?_⟩))
    rcases h' with h' | h'
    · exact .inl (by omega)
    · rcases hi with ⟨_, hp⟩ | ⟨e, _⟩
      · exact .inr hp
      · omega
theorem refnum_ok {n : Int} (hn : n = decW 0 (s.drop i)) (hd : ∀ b ∈ s.drop i, b ∈ digs) (h1 : 1 ≤ (s.length : Int) - (i : Int)) (h2 : (s.length : Int) - (i : Int) ≤ 4) (h3 : ¬ ((((s.getD i 0).toNat : Nat) : Int) = 48 ∧ (1 < (s.length : Int) - (i : Int) ∨ i = 1))) :
    numS s = (if i = 1 then 0 - n else n, true) := by
  have hl : (s.drop i).length = s.length - i := List.length_drop
  have h0 : s.drop i ≠ [] := fun c => by rw [c] at hl; simp at hl; omega
  have hv := decW_atoi h0 hd (by omega)
  rw [hv] at hn
  subst hn
  have hno : ¬ noNum (Lib.hasPrefix s [45]) (s.drop i) := by
    unfold noNum
    rw [hl, get_drop1]
    rintro (h | h | ⟨h, h'⟩ | h)
    · exact h0 h
    · omega
    · refine h3 ⟨by omega, ?_⟩
      rcases h' with h' | h'
      · exact .inl (by omega)
      · rcases hi with ⟨e, _⟩ | ⟨_, hp⟩
        · exact .inr e
        · rw [hp] at h'; cases h'
    · exact h (trim_none hd)
  rcases hi with ⟨rfl, hp⟩ | ⟨rfl, hp⟩
  · rw [numS_neg hno hp, if_pos rfl]
  · rw [numS_pos hno (by rw [hp]; decide)]; rfl
end
theorem num_bd2 {s : List UInt8} {i : Nat} {n : Int} (hn : n = decW 0 (s.drop i)) (hd : ∀ b ∈ s.drop i, b ∈ digs) (h1 : 1 ≤ (s.length : Int) - (i : Int)) (h2 : (s.length : Int) - (i : Int) ≤ 4) : 0 ≤ n ∧ n ≤ 9999 := by
  have hl : (s.drop i).length = s.length - i := List.length_drop
  have h0 : s.drop i ≠ [] := fun c => by rw [c] at hl; simp at hl; omega
  rw [decW_atoi h0 hd (by omega)] at hn
  obtain ⟨u, h3, h4⟩ := digs_val h0 hd
  have h5 : (10 : Nat) ^ (s.drop i).length ≤ 10 ^ 4 := Nat.pow_le_pow_right (by decide) (by omega)
  have : atoiN (s.drop i) = (u : Int) := by unfold atoiN; rw [h3]; rfl
  omega

/-! ### names of intervals -/
theorem more_white (s h : Int) : h - white s = moreOf s h := by unfold white moreOf; omega
theorem perf_yes {s : Int} (h : s % 7 = 0 ∨ s % 7 = 3 ∨ s % 7 = 4) : perfB s = true := decide_eq_true h
theorem perf_no {s : Int} (h : ¬ (s % 7 = 0 ∨ s % 7 = 3 ∨ s % 7 = 4)) : ¬ perfB s = true := by rw [show perfB s = false from decide_eq_false h]; decide
section
variable {p : Bool} {m : Int}
theorem q_up (h : 0 < m) (h1 : m ≤ 6) : qualS p m = Lib.repeatL [65] m.toNat := by rw [qual_up h, show min m 7 = m from by omega]
theorem q_dn (h : m < 0) (h1 : -6 ≤ m) (hp : p = true) : qualS p m = Lib.repeatL [100] (0 - m).toNat := by rw [qual_d (by omega) (by omega) hp, show min (0 - m) 7 = 0 - m from by omega]
theorem q_dn2 (h : m < -1) (h1 : -7 ≤ m) (hp : ¬ p = true) : qualS p m = Lib.repeatL [100] (0 - m - 1).toNat := by rw [qual_dd (by omega) (by omega) hp (by omega), show min (0 - m - 1) 7 = 0 - m - 1 from by omega]
theorem q_far (h : 6 < m ∨ (p = true ∧ m < -6) ∨ (¬ p = true ∧ m < -7)) : (6 : Int) < ((qualS p m).length : Int) := by
  rcases h with h | ⟨hp, h⟩ | ⟨hp, h⟩
  · rw [qual_up (by omega), rep_len]; omega
  · rw [qual_d (by omega) (by omega) hp, rep_len]; omega
  · rw [qual_dd (by omega) (by omega) hp (by omega), rep_len]; omega
end
theorem rep_ne {c : UInt8} {k : Nat} (h : 1 ≤ k) : ¬ Lib.repeatL [c] k = [] := fun e => by
  have := rep_len c k
  rw [e] at this; simp at this; omega
theorem name_far0 {s h : Int} (hw : withinB s h = true) (hn : ¬ (s < 0 ∨ (s = 0 ∧ h < 0))) (h1 : 6 < moreOf s h ∨ (perfB s = true ∧ moreOf s h < -6) ∨ (¬ perfB s = true ∧ moreOf s h < -7)) : nameS s h = ([], 3) :=
  nameS_pos hw hn (nameA_far rfl (q_far h1))
theorem name_ok0 {s h : Int} {q : List UInt8} (hw : withinB s h = true) (hn : ¬ (s < 0 ∨ (s = 0 ∧ h < 0))) (hq : qualS (perfB s) (moreOf s h) = q) (hl : q.length ≤ 6) : nameS s h = (q ++ Lib.itoa (s + 1), 0) :=
  nameS_pos hw hn (nameA_ok hq (by omega))
theorem within_neg {s h : Int} (hw : withinB s h = true) : withinB (0 - s) (0 - h) = true := by
  rw [withinB_iff] at hw ⊢; omega
theorem name_min_ok {s h : Int} (hw : withinB s h = true) (hn : s < 0 ∨ (s = 0 ∧ h < 0)) (h1 : (nameS (0 - s) (0 - h)).2 = 0) : nameS s h = ([45] ++ (nameS (0 - s) (0 - h)).1, 0) := by
  have e := nameS_pos (within_neg hw) (by omega : ¬ (0 - s < 0 ∨ (0 - s = 0 ∧ 0 - h < 0))) rfl
  rw [e] at h1 ⊢
  rw [nameS_neg hw hn rfl]
  unfold nameA at h1 ⊢
  split
  · rename_i c; rw [if_pos c] at h1; exact absurd h1 (by decide)
  · rfl
theorem name_min_no {s h : Int} (hw : withinB s h = true) (hn : s < 0 ∨ (s = 0 ∧ h < 0)) (h1 : ¬ (nameS (0 - s) (0 - h)).2 = 0) : nameS s h = ([], (nameS (0 - s) (0 - h)).2) := by
  have e := nameS_pos (within_neg hw) (by omega : ¬ (0 - s < 0 ∨ (0 - s = 0 ∧ 0 - h < 0))) rfl
  rw [e] at h1 ⊢
  rw [nameS_neg hw hn rfl]
  unfold nameA at h1 ⊢
  split
  · rfl
  · rename_i c; rw [if_neg c] at h1; exact absurd rfl h1
theorem name_short (s h : Int) : (nameS s h).1.length ≤ 100 := by
  by_cases hw : Pi.withinB s h = true
  · have hb := Pi.withinB_iff.1 hw
    have key : ∀ mn x y, mn.length ≤ 1 → -1 ≤ x → x ≤ 500 → (nameA mn x y).1.length ≤ 100 := fun mn x y h1 h2 h3 => by
      unfold nameA
      split
      · decide
      · have h4 := qual_len (perfB x) (moreOf x y)
        have h5 := itoa_len (o := x + 1) (by omega) (by omega)
        simp only [List.length_append]
        omega
    by_cases hn : s < 0 ∨ (s = 0 ∧ h < 0)
    · rw [nameS_neg hw hn rfl]; exact key _ _ _ (by decide) (by omega) (by omega)
    · rw [nameS_pos hw hn rfl]; exact key _ _ _ (by decide) (by omega) (by omega)
  · rw [nameS_no hw]; decide
end Go.Proofs.YtlngkiipgkociaaGreatDoor.Pm
