/-
  INTERVALS AS TEXTS: read: walk. (Printed by wip/pm.) | TEXTS: pitches moved: the kit's kind of contracts, as contracts by values. | PITCHES MOVED: walks. (Printed by wip/pm.) | CHORDS: stacks: walks. (Printed by wip/pm.)
-/
import Derived.Test.YtbgnegmjbnlemaaGreatDoorJLawSMoved3
import Derived.Test.YtbgnegmjbnlemaaGreatDoorJLawSMoved2
namespace Go.Proofs.YtbgnegmjbnlemaaGreatDoor.Pm
open Go Go.Proofs.YtbgnegmjbnlemaaGreatDoor.Pi

set_option maxRecDepth 100000 in
set_option maxHeartbeats 4000000 in
theorem named_pc0 (s : List UInt8) (hs : s.length ≤ 9223372036854775807) : PC Tryz.prog 16 [(sv (st s))] [] (.tup [(.agg [(iv ((namedS s).1.1)), (iv ((namedS s).1.2))]), (iv ((namedS s).2))]) [none] := by
  refine pc_intro Tryz.func16 rfl (by kernel_rfl) (Nat.le_of_ble_eq_true rfl) (by kernel_rfl) (l0 := [ps 0 (sv (st s))]) rfl (fun c0 Bor hc0 => ?_)
  refine T_seq ?_
  refine T_r mixed [] [ps 0 (sv (st s)), ps 2 (.opt 0 0), pb 0 37 [(iv 0), (iv 0)]] (obs_nil) ?_
  refine T_seq ?_
  have hnn := num_bd (dOf s)
  have ht1 := tOf_le s
  have ht2 := dOf_le s
  have ht3 := qOf_le s
  have hnb := Pi.nat7_range (((numS (dOf s)).1 - 1) % 7)
  refine T_r mixed [(1, .call [] [(sv (st s)), (sv (st ([45] : List UInt8)))] [] (sv (st (tOf s))) [])] [ps 0 (sv (st s)), ps 2 (.opt 0 0), ps 4 (sv (st (tOf s))), pb 0 37 [(iv 0), (iv 0)]] (obs_cons (trimPrefix_pc s [45]) (obs_cons (rfl : Ren0 24 [(sv (st s)), (sv (st ([45] : List UInt8)))]) obs_nil)) ?_
  refine T_seq ?_
  refine T_r mixed [(1, .call [] [(sv (st (tOf s))), (sv (st quals))] [] (sv (st (dOf s))) [])] [ps 0 (sv (st s)), ps 2 (.opt 0 0), ps 4 (sv (st (tOf s))), ps 5 (sv (st (dOf s))), pb 0 37 [(iv 0), (iv 0)]] (obs_cons (trimLeft_pc (tOf s) quals (by decide) quals_ascii) (obs_cons (rfl : [(sv (st (tOf s))), (sv (st ([80, 77, 109, 65, 100] : List UInt8)))] = renL (sigi [] 48) [(sv (st (tOf s))), (sv (st quals))]) obs_nil)) ?_
  refine T_seq ?_
  refine T_r mixed [(6, .val (.av (.string (st (qOf s)))))] [ps 0 (sv (st s)), ps 2 (.opt 0 0), ps 4 (sv (st (tOf s))), ps 5 (sv (st (dOf s))), ps 6 (sv (st (qOf s))), pb 0 37 [(iv 0), (iv 0)]] (obs_cons (by simp only [InK]; omega : InK .i64 ((((tOf s).length : Nat) : Int) - (((dOf s).length : Nat) : Int))) (obs_cons (by omega : (0 : Int) ≤ (0 : Int) ∧ (0 : Int) ≤ ((((tOf s).length : Nat) : Int) - (((dOf s).length : Nat) : Int)) ∧ ((((tOf s).length : Nat) : Int) - (((dOf s).length : Nat) : Int)) ≤ (((tOf s).length : Nat) : Int)) (obs_cons (q_cut s : (st (tOf s)).extract ((0 : Int) : Int).toNat (((((tOf s).length : Nat) : Int) - (((dOf s).length : Nat) : Int)) : Int).toNat = st (qOf s)) obs_nil))) ?_
  refine T_seq ?_
  refine T_r mixed [(1, .call [] [(sv (st (dOf s)))] [] (.tup [(iv ((numS (dOf s)).1)), (bv ((numS (dOf s)).2))]) [])] [ps 0 (sv (st s)), ps 2 (.opt 0 0), ps 4 (sv (st (tOf s))), ps 6 (sv (st (qOf s))), ps 7 (iv ((numS (dOf s)).1)), ps 8 (bv ((numS (dOf s)).2)), pb 0 37 [(iv 0), (iv 0)]] (obs_cons (number_pc (dOf s) (by omega)) (obs_cons (rfl : Ren0 136 [(sv (st (dOf s)))]) obs_nil)) ?_
  refine T_seq <| T_seq ?_
  by_cases h1 : ((numS (dOf s)).2) = true
  · by_cases h2 : ((numS (dOf s)).1) < 1
    · refine T_r mixed [(3, .gd false (.no)), (4, .gd false (.no)), (5, .yes false), (7, .gd true .no), (8, .gd true .no), (9, .yes true)] [ps 0 (sv (st s)), ps 2 (.opt 0 0), ps 4 (sv (st (tOf s))), ps 6 (sv (st (qOf s))), ps 7 (iv ((numS (dOf s)).1)), ps 40 (bv true), pb 0 37 [(iv 0), (iv 0)]] (obs_cons (congrArg Bool.not h1 : (!((numS (dOf s)).2)) = false) (obs_cons (congrArg Bool.not h1 : (!((numS (dOf s)).2)) = false) (obs_cons (congrArg Bool.not h1 : (!((numS (dOf s)).2)) = false) (obs_cons (decide_eq_true h2) (obs_cons (decide_eq_true h2) (obs_cons (decide_eq_true h2) obs_nil)))))) ?_
      refine T_then (b := true) rfl rfl ?_
      refine T_seq ?_
      refine T_r mixed [] [ps 2 (.opt 0 0), ps 3 (iv 2), pb 0 37 [(iv 0), (iv 0)]] (obs_nil) ?_
      rw [named_form (s := s) (.inr (.inl h2))]
      exact T_ret fun cx_ a_ hI_ => rt hc0 [ps 2 (.opt 0 0), ps 3 (iv 2), pb 0 37 [(iv 0), (iv 0)]] [0] hI_
    refine T_r mixed [(3, .gd false (.no)), (4, .gd false (.no)), (5, .yes false), (7, .gd false (.no)), (8, .gd false (.val (.av (.bool (decide ((qOf s) = ([] : List UInt8))))))), (9, .yes false)] [ps 0 (sv (st s)), ps 2 (.opt 0 0), ps 4 (sv (st (tOf s))), ps 6 (sv (st (qOf s))), ps 7 (iv ((numS (dOf s)).1)), ps 40 (bv (decide ((qOf s) = ([] : List UInt8)))), pb 0 37 [(iv 0), (iv 0)]] (obs_cons (congrArg Bool.not h1 : (!((numS (dOf s)).2)) = false) (obs_cons (congrArg Bool.not h1 : (!((numS (dOf s)).2)) = false) (obs_cons (congrArg Bool.not h1 : (!((numS (dOf s)).2)) = false) (obs_cons (decide_eq_false h2) (obs_cons (decide_eq_false h2) (obs_cons (st_eq _ _ : ((st (qOf s)).toList == (st ([] : List UInt8)).toList) = decide ((qOf s) = ([] : List UInt8))) (obs_cons (decide_eq_false h2) obs_nil))))))) ?_
    by_cases h3 : (qOf s) = ([] : List UInt8)
    · refine T_th (decide_eq_true h3) ?_
      refine T_seq ?_
      refine T_r mixed [] [ps 2 (.opt 0 0), ps 3 (iv 2), pb 0 37 [(iv 0), (iv 0)]] (obs_nil) ?_
      rw [named_form (s := s) (.inr (.inr h3))]
      exact T_ret fun cx_ a_ hI_ => rt hc0 [ps 2 (.opt 0 0), ps 3 (iv 2), pb 0 37 [(iv 0), (iv 0)]] [0] hI_
    refine T_el (decide_eq_false h3) ?_
    refine T_skip <| T_seq <| T_seq ?_
    by_cases h4 : 200 < (((numS (dOf s)).1) - 1)
    · refine T_r mixed [(4, .gd true .no), (5, .gd true .no), (6, .gd true .no), (7, .yes true)] [ps 0 (sv (st s)), ps 2 (.opt 0 0), ps 4 (sv (st (tOf s))), ps 6 (sv (st (qOf s))), ps 7 (iv ((numS (dOf s)).1)), ps 49 (bv true), pb 0 37 [(iv 0), (iv 0)]] (obs_cons (by simp only [InK]; omega : InK .i64 (((numS (dOf s)).1) - 1)) (obs_cons (decide_eq_true h4) (obs_cons (decide_eq_true h4) (obs_cons (decide_eq_true h4) (obs_cons (decide_eq_true h4) obs_nil))))) ?_
      refine T_then (b := true) rfl rfl ?_
      refine T_seq ?_
      refine T_r mixed [] [ps 2 (.opt 0 0), ps 3 (iv 3), pb 0 37 [(iv 0), (iv 0)]] (obs_nil) ?_
      rw [named_far (s := s) h1 h2 h3 (.inl h4)]
      exact T_ret fun cx_ a_ hI_ => rt hc0 [ps 2 (.opt 0 0), ps 3 (iv 3), pb 0 37 [(iv 0), (iv 0)]] [0] hI_
    refine T_r mixed [(4, .gd false (.no)), (5, .gd false (.no)), (6, .gd false (.no)), (7, .yes false)] [ps 0 (sv (st s)), ps 2 (.opt 0 0), ps 4 (sv (st (tOf s))), ps 6 (sv (st (qOf s))), ps 7 (iv ((numS (dOf s)).1)), ps 49 (bv (decide (6 < (((qOf s).length : Nat) : Int)))), pb 0 37 [(iv 0), (iv 0)]] (obs_cons (by simp only [InK]; omega : InK .i64 (((numS (dOf s)).1) - 1)) (obs_cons (decide_eq_false h4) (obs_cons (decide_eq_false h4) (obs_cons (decide_eq_false h4) (obs_cons (decide_eq_false h4) obs_nil))))) ?_
    by_cases h5 : 6 < (((qOf s).length : Nat) : Int)
    · refine T_th (decide_eq_true h5) ?_
      refine T_seq ?_
      refine T_r mixed [] [ps 2 (.opt 0 0), ps 3 (iv 3), pb 0 37 [(iv 0), (iv 0)]] (obs_nil) ?_
      rw [named_far (s := s) h1 h2 h3 (.inr h5)]
      exact T_ret fun cx_ a_ hI_ => rt hc0 [ps 2 (.opt 0 0), ps 3 (iv 3), pb 0 37 [(iv 0), (iv 0)]] [0] hI_
    refine T_el (decide_eq_false h5) ?_
    refine T_skip <| T_seq ?_
    refine T_r mixed [(2, .call [] [(iv (((numS (dOf s)).1) - 1)), (iv 7)] [] (.tup [(iv ((((numS (dOf s)).1) - 1) / 7)), (iv ((((numS (dOf s)).1) - 1) % 7))]) [])] [ps 0 (sv (st s)), ps 2 (.opt 0 0), ps 4 (sv (st (tOf s))), ps 6 (sv (st (qOf s))), ps 7 (iv ((numS (dOf s)).1)), ps 9 (iv ((((numS (dOf s)).1) - 1) / 7)), ps 10 (iv ((((numS (dOf s)).1) - 1) % 7)), pb 0 37 [(iv 0), (iv 0)]] (obs_cons (by simp only [InK]; omega : InK .i64 (((numS (dOf s)).1) - 1)) (obs_cons (pfloor_pc (((numS (dOf s)).1) - 1) (by omega) (by omega)) (obs_cons (rfl : Ren0 344 [(iv (((numS (dOf s)).1) - 1)), (iv 7)]) obs_nil))) ?_
    refine T_seq ?_
    refine T_r mixed [(5, .call [] [(iv ((((numS (dOf s)).1) - 1) % 7))] [] (iv (Pi.nat7 ((((numS (dOf s)).1) - 1) % 7))) [])] [ps 0 (sv (st s)), ps 2 (.opt 0 0), ps 4 (sv (st (tOf s))), ps 6 (sv (st (qOf s))), ps 7 (iv ((numS (dOf s)).1)), ps 11 (.opt 456 0), pb 0 37 [(iv 0), (iv 0)], pb 456 37 [(iv (((numS (dOf s)).1) - 1)), (iv ((12 * ((((numS (dOf s)).1) - 1) / 7)) + (Pi.nat7 ((((numS (dOf s)).1) - 1) % 7))))]] (obs_cons (by simp only [InK]; omega : InK .i64 (((numS (dOf s)).1) - 1)) (obs_cons (by simp only [InK]; omega : InK .i64 (12 * ((((numS (dOf s)).1) - 1) / 7))) (obs_cons (natural_pc ((((numS (dOf s)).1) - 1) % 7)) (obs_cons (rfl : Ren0 432 [(iv ((((numS (dOf s)).1) - 1) % 7))]) (obs_cons (by simp only [InK]; omega : InK .i64 ((12 * ((((numS (dOf s)).1) - 1) / 7)) + (Pi.nat7 ((((numS (dOf s)).1) - 1) % 7)))) obs_nil))))) ?_
    refine T_seq ?_
    refine T_r mixed [] [ps 0 (sv (st s)), ps 2 (.opt 0 0), ps 4 (sv (st (tOf s))), ps 6 (sv (st (qOf s))), ps 7 (iv ((numS (dOf s)).1)), ps 11 (.opt 456 0), ps 12 (nv ((qOf s).length)), pb 0 37 [(iv 0), (iv 0)], pb 456 37 [(iv (((numS (dOf s)).1) - 1)), (iv ((12 * ((((numS (dOf s)).1) - 1) / 7)) + (Pi.nat7 ((((numS (dOf s)).1) - 1) % 7))))]] (obs_nil) ?_
    refine T_seq <| T_block <| T_seq <| T_seq ?_
    by_cases h6 : (qOf s) = ([80] : List UInt8)
    · refine T_r mixed [(1, .val (.av (.bool (decide ((qOf s) = ([80] : List UInt8)))))), (3, .gd true (.no)), (4, .gd true (.no)), (5, .gd true (.call [] [(iv (((numS (dOf s)).1) - 1))] [] (bv (perfB (((numS (dOf s)).1) - 1))) [])), (6, .yes true)] [ps 0 (sv (st s)), ps 2 (.opt 0 0), ps 4 (sv (st (tOf s))), ps 6 (sv (st (qOf s))), ps 7 (iv ((numS (dOf s)).1)), ps 11 (.opt 456 0), ps 12 (nv ((qOf s).length)), ps 68 (bv (perfB (((numS (dOf s)).1) - 1))), pb 0 37 [(iv 0), (iv 0)], pb 456 37 [(iv (((numS (dOf s)).1) - 1)), (iv ((12 * ((((numS (dOf s)).1) - 1) / 7)) + (Pi.nat7 ((((numS (dOf s)).1) - 1) % 7))))]] (obs_cons (st_eq _ _ : ((st (qOf s)).toList == (st ([80] : List UInt8)).toList) = decide ((qOf s) = ([80] : List UInt8))) (obs_cons (decide_eq_true h6) (obs_cons (decide_eq_true h6) (obs_cons (by simp only [InK]; omega : InK .i64 (((numS (dOf s)).1) - 1)) (obs_cons (decide_eq_true h6) (obs_cons (perfect_pc (((numS (dOf s)).1) - 1) (by omega)) (obs_cons (rfl : Ren0 536 [(iv (((numS (dOf s)).1) - 1))]) (obs_cons (decide_eq_true h6) obs_nil)))))))) ?_
      by_cases h7 : (perfB (((numS (dOf s)).1) - 1)) = true
      · refine T_then (b := (perfB (((numS (dOf s)).1) - 1))) rfl h7 ?_
        refine T_skip ?_
        refine T_then (b := (perfB (((numS (dOf s)).1) - 1))) rfl h7 ?_
        refine T_skip <| T_blk <| T_seq <| T_seq ?_
        refine T_r mixed [] [ps 0 (sv (st s)), ps 2 (.opt 0 0), ps 11 (.opt 456 0), ps 134 (bv (decide ((((tOf s).length : Nat) : Int) < ((s.length : Nat) : Int)))), pb 0 37 [(iv 0), (iv 0)], pb 456 37 [(iv (((numS (dOf s)).1) - 1)), (iv ((12 * ((((numS (dOf s)).1) - 1) / 7)) + (Pi.nat7 ((((numS (dOf s)).1) - 1) % 7))))]] (obs_nil) ?_
        by_cases h8 : (((tOf s).length : Nat) : Int) < ((s.length : Nat) : Int)
        · refine T_th (decide_eq_true h8) ?_
          refine T_r mixed [] [ps 0 (sv (st s)), ps 2 (.opt 0 0), ps 11 (.opt 456 0), pb 0 37 [(iv 0), (iv 0)], pb 456 37 [(iv (0 - (((numS (dOf s)).1) - 1))), (iv (0 - ((12 * ((((numS (dOf s)).1) - 1) / 7)) + (Pi.nat7 ((((numS (dOf s)).1) - 1) % 7)))))]] (obs_cons (by simp only [InK]; omega : InK .i64 (0 - (((numS (dOf s)).1) - 1))) (obs_cons (by simp only [InK]; omega : InK .i64 (0 - ((12 * ((((numS (dOf s)).1) - 1) / 7)) + (Pi.nat7 ((((numS (dOf s)).1) - 1) % 7))))) obs_nil)) ?_
          refine T_seq <| T_seq ?_
          obtain ⟨x, hx⟩ : ∃ x, x = 0 - (((numS (dOf s)).1) - 1) := ⟨_, rfl⟩
          obtain ⟨y, hy⟩ : ∃ y, y = 0 - ((12 * ((((numS (dOf s)).1) - 1) / 7)) + (Pi.nat7 ((((numS (dOf s)).1) - 1) % 7))) := ⟨_, rfl⟩
          refine T_wk (Wk.eq (show _ = [ps 0 (sv (st s)), ps 2 (.opt 0 0), ps 11 (.opt 456 0), pb 0 37 [(iv 0), (iv 0)], pb 456 37 [(iv x), (iv y)]] from by rw [hx, hy])) ?_
          refine T_r mixed [(1, .call [] [(.agg [(iv x), (iv y)])] [] (.tup [(sv (st ((nameS x y).1))), (iv ((nameS x y).2))]) [])] [ps 0 (sv (st s)), ps 2 (.opt 0 0), ps 11 (.opt 456 0), ps 13 (sv (st ((nameS x y).1))), ps 14 (iv ((nameS x y).2)), pb 0 37 [(iv 0), (iv 0)], pb 456 37 [(iv x), (iv y)]] (obs_cons (name_pc x y (by unfold Pi.I64; omega) (by unfold Pi.I64; omega)) (obs_cons (rfl : Ren0 688 [(.agg [(iv x), (iv y)])]) obs_nil)) ?_
          refine T_seq ?_
          by_cases h9 : ((nameS x y).2) = 0
          · refine T_r mixed [(3, .gd false (.no)), (4, .gd false (.no)), (5, .gd false (.val (.av (.bool (!decide (((nameS x y).1) = s)))))), (6, .yes false)] [ps 2 (.opt 0 0), ps 11 (.opt 456 0), ps 154 (bv (!(decide (((nameS x y).1) = s)))), pb 0 37 [(iv 0), (iv 0)], pb 456 37 [(iv x), (iv y)]] (obs_cons (bt h9) (obs_cons (bt h9) (obs_cons (bt h9) (obs_cons (st_ne _ _ : (!((st ((nameS x y).1)).toList == (st s).toList)) = !decide (((nameS x y).1) = s)) (obs_cons (bt h9) obs_nil))))) ?_
            by_cases h10 : ((nameS x y).1) = s
            · refine T_el (bt h10) ?_
              refine T_skip <| T_seq ?_
              refine T_r mixed [] [ps 2 (.opt 0 0), ps 3 (iv 0), pb 0 37 [(iv x), (iv y)]] (obs_nil) ?_
              rw [(named_some (s := s) h1 h2 h3 h4 h5 (val_P h6 h7) (j := (x, y)) (by unfold jOf stepsOf; rw [if_pos (by omega)]; exact Prod.ext (by show _ = x; omega) (by show _ = y; omega))).trans (checked_yes h9 h10)]
              exact T_ret fun cx_ a_ hI_ => rt hc0 [ps 2 (.opt 0 0), ps 3 (iv 0), pb 0 37 [(iv x), (iv y)]] [0] hI_
            refine T_th (bf h10) ?_
            refine T_seq ?_
            refine T_r mixed [] [ps 2 (.opt 0 0), ps 3 (iv 2), pb 0 37 [(iv 0), (iv 0)]] (obs_nil) ?_
            rw [(named_some (s := s) h1 h2 h3 h4 h5 (val_P h6 h7) (j := (x, y)) (by unfold jOf stepsOf; rw [if_pos (by omega)]; exact Prod.ext (by show _ = x; omega) (by show _ = y; omega))).trans (checked_no2 h10)]
            exact T_ret fun cx_ a_ hI_ => rt hc0 [ps 2 (.opt 0 0), ps 3 (iv 2), pb 0 37 [(iv 0), (iv 0)]] [0] hI_
          refine T_r mixed [(3, .gd true .no), (4, .gd true .no), (5, .gd true .no), (6, .yes true)] [ps 2 (.opt 0 0), ps 11 (.opt 456 0), ps 154 (bv true), pb 0 37 [(iv 0), (iv 0)], pb 456 37 [(iv x), (iv y)]] (obs_cons (bf h9) (obs_cons (bf h9) (obs_cons (bf h9) (obs_cons (bf h9) obs_nil)))) ?_
          refine T_then (b := true) rfl rfl ?_
          refine T_seq ?_
          refine T_r mixed [] [ps 2 (.opt 0 0), ps 3 (iv 2), pb 0 37 [(iv 0), (iv 0)]] (obs_nil) ?_
          rw [(named_some (s := s) h1 h2 h3 h4 h5 (val_P h6 h7) (j := (x, y)) (by unfold jOf stepsOf; rw [if_pos (by omega)]; exact Prod.ext (by show _ = x; omega) (by show _ = y; omega))).trans (checked_no1 h9)]
          exact T_ret fun cx_ a_ hI_ => rt hc0 [ps 2 (.opt 0 0), ps 3 (iv 2), pb 0 37 [(iv 0), (iv 0)]] [0] hI_
        refine T_el (decide_eq_false h8) ?_
        refine T_skip <| T_seq <| T_seq ?_
        obtain ⟨x, hx⟩ : ∃ x, x = ((numS (dOf s)).1) - 1 := ⟨_, rfl⟩
        obtain ⟨y, hy⟩ : ∃ y, y = (12 * ((((numS (dOf s)).1) - 1) / 7)) + (Pi.nat7 ((((numS (dOf s)).1) - 1) % 7)) := ⟨_, rfl⟩
        refine T_wk (Wk.eq (show _ = [ps 0 (sv (st s)), ps 2 (.opt 0 0), ps 11 (.opt 456 0), ps 134 (bv (decide ((((tOf s).length : Nat) : Int) < ((s.length : Nat) : Int)))), pb 0 37 [(iv 0), (iv 0)], pb 456 37 [(iv x), (iv y)]] from by rw [hx, hy])) ?_
        refine T_r mixed [(1, .call [] [(.agg [(iv x), (iv y)])] [] (.tup [(sv (st ((nameS x y).1))), (iv ((nameS x y).2))]) [])] [ps 0 (sv (st s)), ps 2 (.opt 0 0), ps 11 (.opt 456 0), ps 13 (sv (st ((nameS x y).1))), ps 14 (iv ((nameS x y).2)), pb 0 37 [(iv 0), (iv 0)], pb 456 37 [(iv x), (iv y)]] (obs_cons (name_pc x y (by unfold Pi.I64; omega) (by unfold Pi.I64; omega)) (obs_cons (rfl : Ren0 608 [(.agg [(iv x), (iv y)])]) obs_nil)) ?_
        refine T_seq ?_
        by_cases h11 : ((nameS x y).2) = 0
        · refine T_r mixed [(3, .gd false (.no)), (4, .gd false (.no)), (5, .gd false (.val (.av (.bool (!decide (((nameS x y).1) = s)))))), (6, .yes false)] [ps 2 (.opt 0 0), ps 11 (.opt 456 0), ps 154 (bv (!(decide (((nameS x y).1) = s)))), pb 0 37 [(iv 0), (iv 0)], pb 456 37 [(iv x), (iv y)]] (obs_cons (bt h11) (obs_cons (bt h11) (obs_cons (bt h11) (obs_cons (st_ne _ _ : (!((st ((nameS x y).1)).toList == (st s).toList)) = !decide (((nameS x y).1) = s)) (obs_cons (bt h11) obs_nil))))) ?_
          by_cases h12 : ((nameS x y).1) = s
          · refine T_el (bt h12) ?_
            refine T_skip <| T_seq ?_
            refine T_r mixed [] [ps 2 (.opt 0 0), ps 3 (iv 0), pb 0 37 [(iv x), (iv y)]] (obs_nil) ?_
            rw [(named_some (s := s) h1 h2 h3 h4 h5 (val_P h6 h7) (j := (x, y)) (by unfold jOf stepsOf; rw [if_neg (by omega)]; exact Prod.ext (by show _ = x; omega) (by show _ = y; omega))).trans (checked_yes h11 h12)]
            exact T_ret fun cx_ a_ hI_ => rt hc0 [ps 2 (.opt 0 0), ps 3 (iv 0), pb 0 37 [(iv x), (iv y)]] [0] hI_
          refine T_th (bf h12) ?_
          refine T_seq ?_
          refine T_r mixed [] [ps 2 (.opt 0 0), ps 3 (iv 2), pb 0 37 [(iv 0), (iv 0)]] (obs_nil) ?_
          rw [(named_some (s := s) h1 h2 h3 h4 h5 (val_P h6 h7) (j := (x, y)) (by unfold jOf stepsOf; rw [if_neg (by omega)]; exact Prod.ext (by show _ = x; omega) (by show _ = y; omega))).trans (checked_no2 h12)]
          exact T_ret fun cx_ a_ hI_ => rt hc0 [ps 2 (.opt 0 0), ps 3 (iv 2), pb 0 37 [(iv 0), (iv 0)]] [0] hI_
        refine T_r mixed [(3, .gd true .no), (4, .gd true .no), (5, .gd true .no), (6, .yes true)] [ps 2 (.opt 0 0), ps 11 (.opt 456 0), ps 154 (bv true), pb 0 37 [(iv 0), (iv 0)], pb 456 37 [(iv x), (iv y)]] (obs_cons (bf h11) (obs_cons (bf h11) (obs_cons (bf h11) (obs_cons (bf h11) obs_nil)))) ?_
        refine T_then (b := true) rfl rfl ?_
        refine T_seq ?_
        refine T_r mixed [] [ps 2 (.opt 0 0), ps 3 (iv 2), pb 0 37 [(iv 0), (iv 0)]] (obs_nil) ?_
        rw [(named_some (s := s) h1 h2 h3 h4 h5 (val_P h6 h7) (j := (x, y)) (by unfold jOf stepsOf; rw [if_neg (by omega)]; exact Prod.ext (by show _ = x; omega) (by show _ = y; omega))).trans (checked_no1 h11)]
        exact T_ret fun cx_ a_ hI_ => rt hc0 [ps 2 (.opt 0 0), ps 3 (iv 2), pb 0 37 [(iv 0), (iv 0)]] [0] hI_
      refine T_else (b := (perfB (((numS (dOf s)).1) - 1))) rfl (Bool.eq_false_iff.2 h7) ?_
      by_cases h13 : (qOf s) = ([77] : List UInt8)
      · refine T_r mixed [(1, .val (.av (.bool (decide ((qOf s) = ([77] : List UInt8)))))), (3, .gd true (.no)), (4, .gd true (.no)), (5, .gd true (.call [] [(iv (((numS (dOf s)).1) - 1))] [] (bv (perfB (((numS (dOf s)).1) - 1))) [])), (6, .gd true (.no)), (7, .yes true)] [ps 0 (sv (st s)), ps 2 (.opt 0 0), ps 4 (sv (st (tOf s))), ps 6 (sv (st (qOf s))), ps 7 (iv ((numS (dOf s)).1)), ps 11 (.opt 456 0), ps 12 (nv ((qOf s).length)), ps 68 (bv (!(perfB (((numS (dOf s)).1) - 1)))), pb 0 37 [(iv 0), (iv 0)], pb 456 37 [(iv (((numS (dOf s)).1) - 1)), (iv ((12 * ((((numS (dOf s)).1) - 1) / 7)) + (Pi.nat7 ((((numS (dOf s)).1) - 1) % 7))))]] (obs_cons (st_eq _ _ : ((st (qOf s)).toList == (st ([77] : List UInt8)).toList) = decide ((qOf s) = ([77] : List UInt8))) (obs_cons (decide_eq_true h13) (obs_cons (decide_eq_true h13) (obs_cons (by simp only [InK]; omega : InK .i64 (((numS (dOf s)).1) - 1)) (obs_cons (decide_eq_true h13) (obs_cons (perfect_pc (((numS (dOf s)).1) - 1) (by omega)) (obs_cons (rfl : Ren0 600 [(iv (((numS (dOf s)).1) - 1))]) (obs_cons (decide_eq_true h13) (obs_cons (decide_eq_true h13) obs_nil))))))))) ?_
        refine T_th (congrArg Bool.not (Bool.eq_false_iff.2 h7)) ?_
        refine T_skip <| T_blk <| T_seq <| T_seq ?_
        refine T_r mixed [] [ps 0 (sv (st s)), ps 2 (.opt 0 0), ps 11 (.opt 456 0), ps 134 (bv (decide ((((tOf s).length : Nat) : Int) < ((s.length : Nat) : Int)))), pb 0 37 [(iv 0), (iv 0)], pb 456 37 [(iv (((numS (dOf s)).1) - 1)), (iv ((12 * ((((numS (dOf s)).1) - 1) / 7)) + (Pi.nat7 ((((numS (dOf s)).1) - 1) % 7))))]] (obs_nil) ?_
        by_cases h14 : (((tOf s).length : Nat) : Int) < ((s.length : Nat) : Int)
        · refine T_th (decide_eq_true h14) ?_
          refine T_r mixed [] [ps 0 (sv (st s)), ps 2 (.opt 0 0), ps 11 (.opt 456 0), pb 0 37 [(iv 0), (iv 0)], pb 456 37 [(iv (0 - (((numS (dOf s)).1) - 1))), (iv (0 - ((12 * ((((numS (dOf s)).1) - 1) / 7)) + (Pi.nat7 ((((numS (dOf s)).1) - 1) % 7)))))]] (obs_cons (by simp only [InK]; omega : InK .i64 (0 - (((numS (dOf s)).1) - 1))) (obs_cons (by simp only [InK]; omega : InK .i64 (0 - ((12 * ((((numS (dOf s)).1) - 1) / 7)) + (Pi.nat7 ((((numS (dOf s)).1) - 1) % 7))))) obs_nil)) ?_
          refine T_seq <| T_seq ?_
          obtain ⟨x, hx⟩ : ∃ x, x = 0 - (((numS (dOf s)).1) - 1) := ⟨_, rfl⟩
          obtain ⟨y, hy⟩ : ∃ y, y = 0 - ((12 * ((((numS (dOf s)).1) - 1) / 7)) + (Pi.nat7 ((((numS (dOf s)).1) - 1) % 7))) := ⟨_, rfl⟩
          refine T_wk (Wk.eq (show _ = [ps 0 (sv (st s)), ps 2 (.opt 0 0), ps 11 (.opt 456 0), pb 0 37 [(iv 0), (iv 0)], pb 456 37 [(iv x), (iv y)]] from by rw [hx, hy])) ?_
          refine T_r mixed [(1, .call [] [(.agg [(iv x), (iv y)])] [] (.tup [(sv (st ((nameS x y).1))), (iv ((nameS x y).2))]) [])] [ps 0 (sv (st s)), ps 2 (.opt 0 0), ps 11 (.opt 456 0), ps 13 (sv (st ((nameS x y).1))), ps 14 (iv ((nameS x y).2)), pb 0 37 [(iv 0), (iv 0)], pb 456 37 [(iv x), (iv y)]] (obs_cons (name_pc x y (by unfold Pi.I64; omega) (by unfold Pi.I64; omega)) (obs_cons (rfl : Ren0 760 [(.agg [(iv x), (iv y)])]) obs_nil)) ?_
          refine T_seq ?_
          by_cases h15 : ((nameS x y).2) = 0
          · refine T_r mixed [(3, .gd false (.no)), (4, .gd false (.no)), (5, .gd false (.val (.av (.bool (!decide (((nameS x y).1) = s)))))), (6, .yes false)] [ps 2 (.opt 0 0), ps 11 (.opt 456 0), ps 154 (bv (!(decide (((nameS x y).1) = s)))), pb 0 37 [(iv 0), (iv 0)], pb 456 37 [(iv x), (iv y)]] (obs_cons (bt h15) (obs_cons (bt h15) (obs_cons (bt h15) (obs_cons (st_ne _ _ : (!((st ((nameS x y).1)).toList == (st s).toList)) = !decide (((nameS x y).1) = s)) (obs_cons (bt h15) obs_nil))))) ?_
            by_cases h16 : ((nameS x y).1) = s
            · refine T_el (bt h16) ?_
              refine T_skip <| T_seq ?_
              refine T_r mixed [] [ps 2 (.opt 0 0), ps 3 (iv 0), pb 0 37 [(iv x), (iv y)]] (obs_nil) ?_
              rw [(named_some (s := s) h1 h2 h3 h4 h5 (val_M h13 h7) (j := (x, y)) (by unfold jOf stepsOf; rw [if_pos (by omega)]; exact Prod.ext (by show _ = x; omega) (by show _ = y; omega))).trans (checked_yes h15 h16)]
              exact T_ret fun cx_ a_ hI_ => rt hc0 [ps 2 (.opt 0 0), ps 3 (iv 0), pb 0 37 [(iv x), (iv y)]] [0] hI_
            refine T_th (bf h16) ?_
            refine T_seq ?_
            refine T_r mixed [] [ps 2 (.opt 0 0), ps 3 (iv 2), pb 0 37 [(iv 0), (iv 0)]] (obs_nil) ?_
            rw [(named_some (s := s) h1 h2 h3 h4 h5 (val_M h13 h7) (j := (x, y)) (by unfold jOf stepsOf; rw [if_pos (by omega)]; exact Prod.ext (by show _ = x; omega) (by show _ = y; omega))).trans (checked_no2 h16)]
            exact T_ret fun cx_ a_ hI_ => rt hc0 [ps 2 (.opt 0 0), ps 3 (iv 2), pb 0 37 [(iv 0), (iv 0)]] [0] hI_
          refine T_r mixed [(3, .gd true .no), (4, .gd true .no), (5, .gd true .no), (6, .yes true)] [ps 2 (.opt 0 0), ps 11 (.opt 456 0), ps 154 (bv true), pb 0 37 [(iv 0), (iv 0)], pb 456 37 [(iv x), (iv y)]] (obs_cons (bf h15) (obs_cons (bf h15) (obs_cons (bf h15) (obs_cons (bf h15) obs_nil)))) ?_
          refine T_then (b := true) rfl rfl ?_
          refine T_seq ?_
          refine T_r mixed [] [ps 2 (.opt 0 0), ps 3 (iv 2), pb 0 37 [(iv 0), (iv 0)]] (obs_nil) ?_
          rw [(named_some (s := s) h1 h2 h3 h4 h5 (val_M h13 h7) (j := (x, y)) (by unfold jOf stepsOf; rw [if_pos (by omega)]; exact Prod.ext (by show _ = x; omega) (by show _ = y; omega))).trans (checked_no1 h15)]
          exact T_ret fun cx_ a_ hI_ => rt hc0 [ps 2 (.opt 0 0), ps 3 (iv 2), pb 0 37 [(iv 0), (iv 0)]] [0] hI_
        refine T_el (decide_eq_false h14) ?_
        refine T_skip <| T_seq <| T_seq ?_
        obtain ⟨x, hx⟩ : ∃ x, x = ((numS (dOf s)).1) - 1 := ⟨_, rfl⟩
        obtain ⟨y, hy⟩ : ∃ y, y = (12 * ((((numS (dOf s)).1) - 1) / 7)) + (Pi.nat7 ((((numS (dOf s)).1) - 1) % 7)) := ⟨_, rfl⟩
        refine T_wk (Wk.eq (show _ = [ps 0 (sv (st s)), ps 2 (.opt 0 0), ps 11 (.opt 456 0), ps 134 (bv (decide ((((tOf s).length : Nat) : Int) < ((s.length : Nat) : Int)))), pb 0 37 [(iv 0), (iv 0)], pb 456 37 [(iv x), (iv y)]] from by rw [hx, hy])) ?_
        refine T_r mixed [(1, .call [] [(.agg [(iv x), (iv y)])] [] (.tup [(sv (st ((nameS x y).1))), (iv ((nameS x y).2))]) [])] [ps 0 (sv (st s)), ps 2 (.opt 0 0), ps 11 (.opt 456 0), ps 13 (sv (st ((nameS x y).1))), ps 14 (iv ((nameS x y).2)), pb 0 37 [(iv 0), (iv 0)], pb 456 37 [(iv x), (iv y)]] (obs_cons (name_pc x y (by unfold Pi.I64; omega) (by unfold Pi.I64; omega)) (obs_cons (rfl : Ren0 680 [(.agg [(iv x), (iv y)])]) obs_nil)) ?_
        refine T_seq ?_
        by_cases h17 : ((nameS x y).2) = 0
        · refine T_r mixed [(3, .gd false (.no)), (4, .gd false (.no)), (5, .gd false (.val (.av (.bool (!decide (((nameS x y).1) = s)))))), (6, .yes false)] [ps 2 (.opt 0 0), ps 11 (.opt 456 0), ps 154 (bv (!(decide (((nameS x y).1) = s)))), pb 0 37 [(iv 0), (iv 0)], pb 456 37 [(iv x), (iv y)]] (obs_cons (bt h17) (obs_cons (bt h17) (obs_cons (bt h17) (obs_cons (st_ne _ _ : (!((st ((nameS x y).1)).toList == (st s).toList)) = !decide (((nameS x y).1) = s)) (obs_cons (bt h17) obs_nil))))) ?_
          by_cases h18 : ((nameS x y).1) = s
          · refine T_el (bt h18) ?_
            refine T_skip <| T_seq ?_
            refine T_r mixed [] [ps 2 (.opt 0 0), ps 3 (iv 0), pb 0 37 [(iv x), (iv y)]] (obs_nil) ?_
            rw [(named_some (s := s) h1 h2 h3 h4 h5 (val_M h13 h7) (j := (x, y)) (by unfold jOf stepsOf; rw [if_neg (by omega)]; exact Prod.ext (by show _ = x; omega) (by show _ = y; omega))).trans (checked_yes h17 h18)]
            exact T_ret fun cx_ a_ hI_ => rt hc0 [ps 2 (.opt 0 0), ps 3 (iv 0), pb 0 37 [(iv x), (iv y)]] [0] hI_
          refine T_th (bf h18) ?_
          refine T_seq ?_
          refine T_r mixed [] [ps 2 (.opt 0 0), ps 3 (iv 2), pb 0 37 [(iv 0), (iv 0)]] (obs_nil) ?_
          rw [(named_some (s := s) h1 h2 h3 h4 h5 (val_M h13 h7) (j := (x, y)) (by unfold jOf stepsOf; rw [if_neg (by omega)]; exact Prod.ext (by show _ = x; omega) (by show _ = y; omega))).trans (checked_no2 h18)]
          exact T_ret fun cx_ a_ hI_ => rt hc0 [ps 2 (.opt 0 0), ps 3 (iv 2), pb 0 37 [(iv 0), (iv 0)]] [0] hI_
        refine T_r mixed [(3, .gd true .no), (4, .gd true .no), (5, .gd true .no), (6, .yes true)] [ps 2 (.opt 0 0), ps 11 (.opt 456 0), ps 154 (bv true), pb 0 37 [(iv 0), (iv 0)], pb 456 37 [(iv x), (iv y)]] (obs_cons (bf h17) (obs_cons (bf h17) (obs_cons (bf h17) (obs_cons (bf h17) obs_nil)))) ?_
        refine T_then (b := true) rfl rfl ?_
        refine T_seq ?_
        refine T_r mixed [] [ps 2 (.opt 0 0), ps 3 (iv 2), pb 0 37 [(iv 0), (iv 0)]] (obs_nil) ?_
        rw [(named_some (s := s) h1 h2 h3 h4 h5 (val_M h13 h7) (j := (x, y)) (by unfold jOf stepsOf; rw [if_neg (by omega)]; exact Prod.ext (by show _ = x; omega) (by show _ = y; omega))).trans (checked_no1 h17)]
        exact T_ret fun cx_ a_ hI_ => rt hc0 [ps 2 (.opt 0 0), ps 3 (iv 2), pb 0 37 [(iv 0), (iv 0)]] [0] hI_
      refine T_r mixed [(1, .val (.av (.bool (decide ((qOf s) = ([77] : List UInt8)))))), (3, .gd false .no), (4, .gd false .no), (5, .gd false .no), (6, .gd false .no), (7, .yes false)] [ps 0 (sv (st s)), ps 2 (.opt 0 0), ps 4 (sv (st (tOf s))), ps 6 (sv (st (qOf s))), ps 7 (iv ((numS (dOf s)).1)), ps 11 (.opt 456 0), ps 12 (nv ((qOf s).length)), ps 68 (bv false), pb 0 37 [(iv 0), (iv 0)], pb 456 37 [(iv (((numS (dOf s)).1) - 1)), (iv ((12 * ((((numS (dOf s)).1) - 1) / 7)) + (Pi.nat7 ((((numS (dOf s)).1) - 1) % 7))))]] (obs_cons (st_eq _ _ : ((st (qOf s)).toList == (st ([77] : List UInt8)).toList) = decide ((qOf s) = ([77] : List UInt8))) (obs_cons (decide_eq_false h13) (obs_cons (decide_eq_false h13) (obs_cons (decide_eq_false h13) (obs_cons (decide_eq_false h13) (obs_cons (decide_eq_false h13) obs_nil)))))) ?_
      refine T_else (b := false) rfl rfl ?_
      refine T_seq ?_
      by_cases h19 : (qOf s) = ([109] : List UInt8)
      · refine T_r mixed [(1, .val (.av (.bool (decide ((qOf s) = ([109] : List UInt8)))))), (3, .gd true (.no)), (4, .gd true (.no)), (5, .gd true (.call [] [(iv (((numS (dOf s)).1) - 1))] [] (bv (perfB (((numS (dOf s)).1) - 1))) [])), (6, .gd true (.no)), (7, .yes true)] [ps 0 (sv (st s)), ps 2 (.opt 0 0), ps 4 (sv (st (tOf s))), ps 6 (sv (st (qOf s))), ps 7 (iv ((numS (dOf s)).1)), ps 11 (.opt 456 0), ps 12 (nv ((qOf s).length)), ps 84 (bv (!(perfB (((numS (dOf s)).1) - 1)))), pb 0 37 [(iv 0), (iv 0)], pb 456 37 [(iv (((numS (dOf s)).1) - 1)), (iv ((12 * ((((numS (dOf s)).1) - 1) / 7)) + (Pi.nat7 ((((numS (dOf s)).1) - 1) % 7))))]] (obs_cons (st_eq _ _ : ((st (qOf s)).toList == (st ([109] : List UInt8)).toList) = decide ((qOf s) = ([109] : List UInt8))) (obs_cons (decide_eq_true h19) (obs_cons (decide_eq_true h19) (obs_cons (by simp only [InK]; omega : InK .i64 (((numS (dOf s)).1) - 1)) (obs_cons (decide_eq_true h19) (obs_cons (perfect_pc (((numS (dOf s)).1) - 1) (by omega)) (obs_cons (rfl : Ren0 672 [(iv (((numS (dOf s)).1) - 1))]) (obs_cons (decide_eq_true h19) (obs_cons (decide_eq_true h19) obs_nil))))))))) ?_
        refine T_th (congrArg Bool.not (Bool.eq_false_iff.2 h7)) ?_
        refine T_r mixed [] [ps 0 (sv (st s)), ps 2 (.opt 0 0), ps 4 (sv (st (tOf s))), ps 11 (.opt 456 0), pb 0 37 [(iv 0), (iv 0)], pb 456 37 [(iv (((numS (dOf s)).1) - 1)), (iv (((12 * ((((numS (dOf s)).1) - 1) / 7)) + (Pi.nat7 ((((numS (dOf s)).1) - 1) % 7))) - 1))]] (obs_cons (by simp only [InK]; omega : InK .i64 (((12 * ((((numS (dOf s)).1) - 1) / 7)) + (Pi.nat7 ((((numS (dOf s)).1) - 1) % 7))) - 1)) obs_nil) ?_
        refine T_blk <| T_seq <| T_seq ?_
        refine T_r mixed [] [ps 0 (sv (st s)), ps 2 (.opt 0 0), ps 11 (.opt 456 0), ps 134 (bv (decide ((((tOf s).length : Nat) : Int) < ((s.length : Nat) : Int)))), pb 0 37 [(iv 0), (iv 0)], pb 456 37 [(iv (((numS (dOf s)).1) - 1)), (iv (((12 * ((((numS (dOf s)).1) - 1) / 7)) + (Pi.nat7 ((((numS (dOf s)).1) - 1) % 7))) - 1))]] (obs_nil) ?_
        by_cases h20 : (((tOf s).length : Nat) : Int) < ((s.length : Nat) : Int)
        · refine T_th (decide_eq_true h20) ?_
          refine T_r mixed [] [ps 0 (sv (st s)), ps 2 (.opt 0 0), ps 11 (.opt 456 0), pb 0 37 [(iv 0), (iv 0)], pb 456 37 [(iv (0 - (((numS (dOf s)).1) - 1))), (iv (0 - (((12 * ((((numS (dOf s)).1) - 1) / 7)) + (Pi.nat7 ((((numS (dOf s)).1) - 1) % 7))) - 1)))]] (obs_cons (by simp only [InK]; omega : InK .i64 (0 - (((numS (dOf s)).1) - 1))) (obs_cons (by simp only [InK]; omega : InK .i64 (0 - (((12 * ((((numS (dOf s)).1) - 1) / 7)) + (Pi.nat7 ((((numS (dOf s)).1) - 1) % 7))) - 1))) obs_nil)) ?_
          refine T_seq <| T_seq ?_
          obtain ⟨x, hx⟩ : ∃ x, x = 0 - (((numS (dOf s)).1) - 1) := ⟨_, rfl⟩
          obtain ⟨y, hy⟩ : ∃ y, y = 0 - (((12 * ((((numS (dOf s)).1) - 1) / 7)) + (Pi.nat7 ((((numS (dOf s)).1) - 1) % 7))) - 1) := ⟨_, rfl⟩
          refine T_wk (Wk.eq (show _ = [ps 0 (sv (st s)), ps 2 (.opt 0 0), ps 11 (.opt 456 0), pb 0 37 [(iv 0), (iv 0)], pb 456 37 [(iv x), (iv y)]] from by rw [hx, hy])) ?_
          refine T_r mixed [(1, .call [] [(.agg [(iv x), (iv y)])] [] (.tup [(sv (st ((nameS x y).1))), (iv ((nameS x y).2))]) [])] [ps 0 (sv (st s)), ps 2 (.opt 0 0), ps 11 (.opt 456 0), ps 13 (sv (st ((nameS x y).1))), ps 14 (iv ((nameS x y).2)), pb 0 37 [(iv 0), (iv 0)], pb 456 37 [(iv x), (iv y)]] (obs_cons (name_pc x y (by unfold Pi.I64; omega) (by unfold Pi.I64; omega)) (obs_cons (rfl : Ren0 872 [(.agg [(iv x), (iv y)])]) obs_nil)) ?_
          refine T_seq ?_
          by_cases h21 : ((nameS x y).2) = 0
          · refine T_r mixed [(3, .gd false (.no)), (4, .gd false (.no)), (5, .gd false (.val (.av (.bool (!decide (((nameS x y).1) = s)))))), (6, .yes false)] [ps 2 (.opt 0 0), ps 11 (.opt 456 0), ps 154 (bv (!(decide (((nameS x y).1) = s)))), pb 0 37 [(iv 0), (iv 0)], pb 456 37 [(iv x), (iv y)]] (obs_cons (bt h21) (obs_cons (bt h21) (obs_cons (bt h21) (obs_cons (st_ne _ _ : (!((st ((nameS x y).1)).toList == (st s).toList)) = !decide (((nameS x y).1) = s)) (obs_cons (bt h21) obs_nil))))) ?_
            by_cases h22 : ((nameS x y).1) = s
            · refine T_el (bt h22) ?_
              refine T_skip <| T_seq ?_
              refine T_r mixed [] [ps 2 (.opt 0 0), ps 3 (iv 0), pb 0 37 [(iv x), (iv y)]] (obs_nil) ?_
              rw [(named_some (s := s) h1 h2 h3 h4 h5 (val_m (fun c => h7 c.2) (fun c => h13 c.1) h19 h7) (j := (x, y)) (by unfold jOf stepsOf; rw [if_pos (by omega)]; exact Prod.ext (by show _ = x; omega) (by show _ = y; omega))).trans (checked_yes h21 h22)]
              exact T_ret fun cx_ a_ hI_ => rt hc0 [ps 2 (.opt 0 0), ps 3 (iv 0), pb 0 37 [(iv x), (iv y)]] [0] hI_
            refine T_th (bf h22) ?_
            refine T_seq ?_
            refine T_r mixed [] [ps 2 (.opt 0 0), ps 3 (iv 2), pb 0 37 [(iv 0), (iv 0)]] (obs_nil) ?_
            rw [(named_some (s := s) h1 h2 h3 h4 h5 (val_m (fun c => h7 c.2) (fun c => h13 c.1) h19 h7) (j := (x, y)) (by unfold jOf stepsOf; rw [if_pos (by omega)]; exact Prod.ext (by show _ = x; omega) (by show _ = y; omega))).trans (checked_no2 h22)]
            exact T_ret fun cx_ a_ hI_ => rt hc0 [ps 2 (.opt 0 0), ps 3 (iv 2), pb 0 37 [(iv 0), (iv 0)]] [0] hI_
          refine T_r mixed [(3, .gd true .no), (4, .gd true .no), (5, .gd true .no), (6, .yes true)] [ps 2 (.opt 0 0), ps 11 (.opt 456 0), ps 154 (bv true), pb 0 37 [(iv 0), (iv 0)], pb 456 37 [(iv x), (iv y)]] (obs_cons (bf h21) (obs_cons (bf h21) (obs_cons (bf h21) (obs_cons (bf h21) obs_nil)))) ?_
          refine T_then (b := true) rfl rfl ?_
          refine T_seq ?_
          refine T_r mixed [] [ps 2 (.opt 0 0), ps 3 (iv 2), pb 0 37 [(iv 0), (iv 0)]] (obs_nil) ?_
          rw [(named_some (s := s) h1 h2 h3 h4 h5 (val_m (fun c => h7 c.2) (fun c => h13 c.1) h19 h7) (j := (x, y)) (by unfold jOf stepsOf; rw [if_pos (by omega)]; exact Prod.ext (by show _ = x; omega) (by show _ = y; omega))).trans (checked_no1 h21)]
          exact T_ret fun cx_ a_ hI_ => rt hc0 [ps 2 (.opt 0 0), ps 3 (iv 2), pb 0 37 [(iv 0), (iv 0)]] [0] hI_
        refine T_el (decide_eq_false h20) ?_
        refine T_skip <| T_seq <| T_seq ?_
        obtain ⟨x, hx⟩ : ∃ x, x = ((numS (dOf s)).1) - 1 := ⟨_, rfl⟩
        obtain ⟨y, hy⟩ : ∃ y, y = ((12 * ((((numS (dOf s)).1) - 1) / 7)) + (Pi.nat7 ((((numS (dOf s)).1) - 1) % 7))) - 1 := ⟨_, rfl⟩
        refine T_wk (Wk.eq (show _ = [ps 0 (sv (st s)), ps 2 (.opt 0 0), ps 11 (.opt 456 0), ps 134 (bv (decide ((((tOf s).length : Nat) : Int) < ((s.length : Nat) : Int)))), pb 0 37 [(iv 0), (iv 0)], pb 456 37 [(iv x), (iv y)]] from by rw [hx, hy])) ?_
        refine T_r mixed [(1, .call [] [(.agg [(iv x), (iv y)])] [] (.tup [(sv (st ((nameS x y).1))), (iv ((nameS x y).2))]) [])] [ps 0 (sv (st s)), ps 2 (.opt 0 0), ps 11 (.opt 456 0), ps 13 (sv (st ((nameS x y).1))), ps 14 (iv ((nameS x y).2)), pb 0 37 [(iv 0), (iv 0)], pb 456 37 [(iv x), (iv y)]] (obs_cons (name_pc x y (by unfold Pi.I64; omega) (by unfold Pi.I64; omega)) (obs_cons (rfl : Ren0 792 [(.agg [(iv x), (iv y)])]) obs_nil)) ?_
        refine T_seq ?_
        by_cases h23 : ((nameS x y).2) = 0
        · refine T_r mixed [(3, .gd false (.no)), (4, .gd false (.no)), (5, .gd false (.val (.av (.bool (!decide (((nameS x y).1) = s)))))), (6, .yes false)] [ps 2 (.opt 0 0), ps 11 (.opt 456 0), ps 154 (bv (!(decide (((nameS x y).1) = s)))), pb 0 37 [(iv 0), (iv 0)], pb 456 37 [(iv x), (iv y)]] (obs_cons (bt h23) (obs_cons (bt h23) (obs_cons (bt h23) (obs_cons (st_ne _ _ : (!((st ((nameS x y).1)).toList == (st s).toList)) = !decide (((nameS x y).1) = s)) (obs_cons (bt h23) obs_nil))))) ?_
          by_cases h24 : ((nameS x y).1) = s
          · refine T_el (bt h24) ?_
            refine T_skip <| T_seq ?_
            refine T_r mixed [] [ps 2 (.opt 0 0), ps 3 (iv 0), pb 0 37 [(iv x), (iv y)]] (obs_nil) ?_
            rw [(named_some (s := s) h1 h2 h3 h4 h5 (val_m (fun c => h7 c.2) (fun c => h13 c.1) h19 h7) (j := (x, y)) (by unfold jOf stepsOf; rw [if_neg (by omega)]; exact Prod.ext (by show _ = x; omega) (by show _ = y; omega))).trans (checked_yes h23 h24)]
            exact T_ret fun cx_ a_ hI_ => rt hc0 [ps 2 (.opt 0 0), ps 3 (iv 0), pb 0 37 [(iv x), (iv y)]] [0] hI_
          refine T_th (bf h24) ?_
          refine T_seq ?_
          refine T_r mixed [] [ps 2 (.opt 0 0), ps 3 (iv 2), pb 0 37 [(iv 0), (iv 0)]] (obs_nil) ?_
          rw [(named_some (s := s) h1 h2 h3 h4 h5 (val_m (fun c => h7 c.2) (fun c => h13 c.1) h19 h7) (j := (x, y)) (by unfold jOf stepsOf; rw [if_neg (by omega)]; exact Prod.ext (by show _ = x; omega) (by show _ = y; omega))).trans (checked_no2 h24)]
          exact T_ret fun cx_ a_ hI_ => rt hc0 [ps 2 (.opt 0 0), ps 3 (iv 2), pb 0 37 [(iv 0), (iv 0)]] [0] hI_
        refine T_r mixed [(3, .gd true .no), (4, .gd true .no), (5, .gd true .no), (6, .yes true)] [ps 2 (.opt 0 0), ps 11 (.opt 456 0), ps 154 (bv true), pb 0 37 [(iv 0), (iv 0)], pb 456 37 [(iv x), (iv y)]] (obs_cons (bf h23) (obs_cons (bf h23) (obs_cons (bf h23) (obs_cons (bf h23) obs_nil)))) ?_
        refine T_then (b := true) rfl rfl ?_
        refine T_seq ?_
        refine T_r mixed [] [ps 2 (.opt 0 0), ps 3 (iv 2), pb 0 37 [(iv 0), (iv 0)]] (obs_nil) ?_
        rw [(named_some (s := s) h1 h2 h3 h4 h5 (val_m (fun c => h7 c.2) (fun c => h13 c.1) h19 h7) (j := (x, y)) (by unfold jOf stepsOf; rw [if_neg (by omega)]; exact Prod.ext (by show _ = x; omega) (by show _ = y; omega))).trans (checked_no1 h23)]
        exact T_ret fun cx_ a_ hI_ => rt hc0 [ps 2 (.opt 0 0), ps 3 (iv 2), pb 0 37 [(iv 0), (iv 0)]] [0] hI_
      refine T_r mixed [(1, .val (.av (.bool (decide ((qOf s) = ([109] : List UInt8)))))), (3, .gd false .no), (4, .gd false .no), (5, .gd false .no), (6, .gd false .no), (7, .yes false)] [ps 0 (sv (st s)), ps 2 (.opt 0 0), ps 4 (sv (st (tOf s))), ps 6 (sv (st (qOf s))), ps 7 (iv ((numS (dOf s)).1)), ps 11 (.opt 456 0), ps 12 (nv ((qOf s).length)), ps 84 (bv false), pb 0 37 [(iv 0), (iv 0)], pb 456 37 [(iv (((numS (dOf s)).1) - 1)), (iv ((12 * ((((numS (dOf s)).1) - 1) / 7)) + (Pi.nat7 ((((numS (dOf s)).1) - 1) % 7))))]] (obs_cons (st_eq _ _ : ((st (qOf s)).toList == (st ([109] : List UInt8)).toList) = decide ((qOf s) = ([109] : List UInt8))) (obs_cons (decide_eq_false h19) (obs_cons (decide_eq_false h19) (obs_cons (decide_eq_false h19) (obs_cons (decide_eq_false h19) (obs_cons (decide_eq_false h19) obs_nil)))))) ?_
      refine T_else (b := false) rfl rfl ?_
      refine T_seq ?_
      refine T_r mixed [(1, .call [] [(sv (st (qOf s))), (sv (st [65]))] [] (sv (st (Lib.trimS (qOf s) [65]))) []), (2, .val (.av (.bool (decide ((Lib.trimS (qOf s) [65]) = ([] : List UInt8))))))] [ps 0 (sv (st s)), ps 2 (.opt 0 0), ps 4 (sv (st (tOf s))), ps 6 (sv (st (qOf s))), ps 7 (iv ((numS (dOf s)).1)), ps 11 (.opt 456 0), ps 12 (nv ((qOf s).length)), ps 97 (bv (decide ((Lib.trimS (qOf s) [65]) = ([] : List UInt8)))), pb 0 37 [(iv 0), (iv 0)], pb 456 37 [(iv (((numS (dOf s)).1) - 1)), (iv ((12 * ((((numS (dOf s)).1) - 1) / 7)) + (Pi.nat7 ((((numS (dOf s)).1) - 1) % 7))))]] (obs_cons (trim_pc (qOf s) [65] (by omega) (by decide) (one_ascii (by decide))) (obs_cons (rfl : [(sv (st (qOf s))), (sv (st ([65] : List UInt8)))] = renL (sigi [] 712) [(sv (st (qOf s))), (sv (st [65]))]) (obs_cons (st_eq _ _ : ((st (Lib.trimS (qOf s) [65])).toList == (st ([] : List UInt8)).toList) = decide ((Lib.trimS (qOf s) [65]) = ([] : List UInt8))) obs_nil))) ?_
      by_cases h25 : (Lib.trimS (qOf s) [65]) = ([] : List UInt8)
      · refine T_th (decide_eq_true h25) ?_
        refine T_r mixed [] [ps 0 (sv (st s)), ps 2 (.opt 0 0), ps 4 (sv (st (tOf s))), ps 11 (.opt 456 0), pb 0 37 [(iv 0), (iv 0)], pb 456 37 [(iv (((numS (dOf s)).1) - 1)), (iv (((12 * ((((numS (dOf s)).1) - 1) / 7)) + (Pi.nat7 ((((numS (dOf s)).1) - 1) % 7))) + (((qOf s).length : Nat) : Int)))]] (obs_cons (by simp only [InK]; omega : InK .i64 (((12 * ((((numS (dOf s)).1) - 1) / 7)) + (Pi.nat7 ((((numS (dOf s)).1) - 1) % 7))) + (((qOf s).length : Nat) : Int))) obs_nil) ?_
        refine T_blk <| T_seq <| T_seq ?_
        refine T_r mixed [] [ps 0 (sv (st s)), ps 2 (.opt 0 0), ps 11 (.opt 456 0), ps 134 (bv (decide ((((tOf s).length : Nat) : Int) < ((s.length : Nat) : Int)))), pb 0 37 [(iv 0), (iv 0)], pb 456 37 [(iv (((numS (dOf s)).1) - 1)), (iv (((12 * ((((numS (dOf s)).1) - 1) / 7)) + (Pi.nat7 ((((numS (dOf s)).1) - 1) % 7))) + (((qOf s).length : Nat) : Int)))]] (obs_nil) ?_
        by_cases h26 : (((tOf s).length : Nat) : Int) < ((s.length : Nat) : Int)
        · refine T_th (decide_eq_true h26) ?_
          refine T_r mixed [] [ps 0 (sv (st s)), ps 2 (.opt 0 0), ps 11 (.opt 456 0), pb 0 37 [(iv 0), (iv 0)], pb 456 37 [(iv (0 - (((numS (dOf s)).1) - 1))), (iv (0 - (((12 * ((((numS (dOf s)).1) - 1) / 7)) + (Pi.nat7 ((((numS (dOf s)).1) - 1) % 7))) + (((qOf s).length : Nat) : Int))))]] (obs_cons (by simp only [InK]; omega : InK .i64 (0 - (((numS (dOf s)).1) - 1))) (obs_cons (by simp only [InK]; omega : InK .i64 (0 - (((12 * ((((numS (dOf s)).1) - 1) / 7)) + (Pi.nat7 ((((numS (dOf s)).1) - 1) % 7))) + (((qOf s).length : Nat) : Int)))) obs_nil)) ?_
          refine T_seq <| T_seq ?_
          obtain ⟨x, hx⟩ : ∃ x, x = 0 - (((numS (dOf s)).1) - 1) := ⟨_, rfl⟩
          obtain ⟨y, hy⟩ : ∃ y, y = 0 - (((12 * ((((numS (dOf s)).1) - 1) / 7)) + (Pi.nat7 ((((numS (dOf s)).1) - 1) % 7))) + (((qOf s).length : Nat) : Int)) := ⟨_, rfl⟩
          refine T_wk (Wk.eq (show _ = [ps 0 (sv (st s)), ps 2 (.opt 0 0), ps 11 (.opt 456 0), pb 0 37 [(iv 0), (iv 0)], pb 456 37 [(iv x), (iv y)]] from by rw [hx, hy])) ?_
          refine T_r mixed [(1, .call [] [(.agg [(iv x), (iv y)])] [] (.tup [(sv (st ((nameS x y).1))), (iv ((nameS x y).2))]) [])] [ps 0 (sv (st s)), ps 2 (.opt 0 0), ps 11 (.opt 456 0), ps 13 (sv (st ((nameS x y).1))), ps 14 (iv ((nameS x y).2)), pb 0 37 [(iv 0), (iv 0)], pb 456 37 [(iv x), (iv y)]] (obs_cons (name_pc x y (by unfold Pi.I64; omega) (by unfold Pi.I64; omega)) (obs_cons (rfl : Ren0 912 [(.agg [(iv x), (iv y)])]) obs_nil)) ?_
          refine T_seq ?_
          by_cases h27 : ((nameS x y).2) = 0
          · refine T_r mixed [(3, .gd false (.no)), (4, .gd false (.no)), (5, .gd false (.val (.av (.bool (!decide (((nameS x y).1) = s)))))), (6, .yes false)] [ps 2 (.opt 0 0), ps 11 (.opt 456 0), ps 154 (bv (!(decide (((nameS x y).1) = s)))), pb 0 37 [(iv 0), (iv 0)], pb 456 37 [(iv x), (iv y)]] (obs_cons (bt h27) (obs_cons (bt h27) (obs_cons (bt h27) (obs_cons (st_ne _ _ : (!((st ((nameS x y).1)).toList == (st s).toList)) = !decide (((nameS x y).1) = s)) (obs_cons (bt h27) obs_nil))))) ?_
            by_cases h28 : ((nameS x y).1) = s
            · refine T_el (bt h28) ?_
              refine T_skip <| T_seq ?_
              refine T_r mixed [] [ps 2 (.opt 0 0), ps 3 (iv 0), pb 0 37 [(iv x), (iv y)]] (obs_nil) ?_
              rw [(named_some (s := s) h1 h2 h3 h4 h5 (val_A (fun c => h7 c.2) (fun c => h13 c.1) (fun c => h19 c.1) h25) (j := (x, y)) (by unfold jOf stepsOf; rw [if_pos (by omega)]; exact Prod.ext (by show _ = x; omega) (by show _ = y; omega))).trans (checked_yes h27 h28)]
              exact T_ret fun cx_ a_ hI_ => rt hc0 [ps 2 (.opt 0 0), ps 3 (iv 0), pb 0 37 [(iv x), (iv y)]] [0] hI_
            refine T_th (bf h28) ?_
            refine T_seq ?_
            refine T_r mixed [] [ps 2 (.opt 0 0), ps 3 (iv 2), pb 0 37 [(iv 0), (iv 0)]] (obs_nil) ?_
            rw [(named_some (s := s) h1 h2 h3 h4 h5 (val_A (fun c => h7 c.2) (fun c => h13 c.1) (fun c => h19 c.1) h25) (j := (x, y)) (by unfold jOf stepsOf; rw [if_pos (by omega)]; exact Prod.ext (by show _ = x; omega) (by show _ = y; omega))).trans (checked_no2 h28)]
            exact T_ret fun cx_ a_ hI_ => rt hc0 [ps 2 (.opt 0 0), ps 3 (iv 2), pb 0 37 [(iv 0), (iv 0)]] [0] hI_
          refine T_r mixed [(3, .gd true .no), (4, .gd true .no), (5, .gd true .no), (6, .yes true)] [ps 2 (.opt 0 0), ps 11 (.opt 456 0), ps 154 (bv true), pb 0 37 [(iv 0), (iv 0)], pb 456 37 [(iv x), (iv y)]] (obs_cons (bf h27) (obs_cons (bf h27) (obs_cons (bf h27) (obs_cons (bf h27) obs_nil)))) ?_
          refine T_then (b := true) rfl rfl ?_
          refine T_seq ?_
          refine T_r mixed [] [ps 2 (.opt 0 0), ps 3 (iv 2), pb 0 37 [(iv 0), (iv 0)]] (obs_nil) ?_
          rw [(named_some (s := s) h1 h2 h3 h4 h5 (val_A (fun c => h7 c.2) (fun c => h13 c.1) (fun c => h19 c.1) h25) (j := (x, y)) (by unfold jOf stepsOf; rw [if_pos (by omega)]; exact Prod.ext (by show _ = x; omega) (by show _ = y; omega))).trans (checked_no1 h27)]
          exact T_ret fun cx_ a_ hI_ => rt hc0 [ps 2 (.opt 0 0), ps 3 (iv 2), pb 0 37 [(iv 0), (iv 0)]] [0] hI_
        refine T_el (decide_eq_false h26) ?_
        refine T_skip <| T_seq <| T_seq ?_
        obtain ⟨x, hx⟩ : ∃ x, x = ((numS (dOf s)).1) - 1 := ⟨_, rfl⟩
        obtain ⟨y, hy⟩ : ∃ y, y = ((12 * ((((numS (dOf s)).1) - 1) / 7)) + (Pi.nat7 ((((numS (dOf s)).1) - 1) % 7))) + (((qOf s).length : Nat) : Int) := ⟨_, rfl⟩
        refine T_wk (Wk.eq (show _ = [ps 0 (sv (st s)), ps 2 (.opt 0 0), ps 11 (.opt 456 0), ps 134 (bv (decide ((((tOf s).length : Nat) : Int) < ((s.length : Nat) : Int)))), pb 0 37 [(iv 0), (iv 0)], pb 456 37 [(iv x), (iv y)]] from by rw [hx, hy])) ?_
        refine T_r mixed [(1, .call [] [(.agg [(iv x), (iv y)])] [] (.tup [(sv (st ((nameS x y).1))), (iv ((nameS x y).2))]) [])] [ps 0 (sv (st s)), ps 2 (.opt 0 0), ps 11 (.opt 456 0), ps 13 (sv (st ((nameS x y).1))), ps 14 (iv ((nameS x y).2)), pb 0 37 [(iv 0), (iv 0)], pb 456 37 [(iv x), (iv y)]] (obs_cons (name_pc x y (by unfold Pi.I64; omega) (by unfold Pi.I64; omega)) (obs_cons (rfl : Ren0 832 [(.agg [(iv x), (iv y)])]) obs_nil)) ?_
        refine T_seq ?_
        by_cases h29 : ((nameS x y).2) = 0
        · refine T_r mixed [(3, .gd false (.no)), (4, .gd false (.no)), (5, .gd false (.val (.av (.bool (!decide (((nameS x y).1) = s)))))), (6, .yes false)] [ps 2 (.opt 0 0), ps 11 (.opt 456 0), ps 154 (bv (!(decide (((nameS x y).1) = s)))), pb 0 37 [(iv 0), (iv 0)], pb 456 37 [(iv x), (iv y)]] (obs_cons (bt h29) (obs_cons (bt h29) (obs_cons (bt h29) (obs_cons (st_ne _ _ : (!((st ((nameS x y).1)).toList == (st s).toList)) = !decide (((nameS x y).1) = s)) (obs_cons (bt h29) obs_nil))))) ?_
          by_cases h30 : ((nameS x y).1) = s
          · refine T_el (bt h30) ?_
            refine T_skip <| T_seq ?_
            refine T_r mixed [] [ps 2 (.opt 0 0), ps 3 (iv 0), pb 0 37 [(iv x), (iv y)]] (obs_nil) ?_
            rw [(named_some (s := s) h1 h2 h3 h4 h5 (val_A (fun c => h7 c.2) (fun c => h13 c.1) (fun c => h19 c.1) h25) (j := (x, y)) (by unfold jOf stepsOf; rw [if_neg (by omega)]; exact Prod.ext (by show _ = x; omega) (by show _ = y; omega))).trans (checked_yes h29 h30)]
            exact T_ret fun cx_ a_ hI_ => rt hc0 [ps 2 (.opt 0 0), ps 3 (iv 0), pb 0 37 [(iv x), (iv y)]] [0] hI_
          refine T_th (bf h30) ?_
          refine T_seq ?_
          refine T_r mixed [] [ps 2 (.opt 0 0), ps 3 (iv 2), pb 0 37 [(iv 0), (iv 0)]] (obs_nil) ?_
          rw [(named_some (s := s) h1 h2 h3 h4 h5 (val_A (fun c => h7 c.2) (fun c => h13 c.1) (fun c => h19 c.1) h25) (j := (x, y)) (by unfold jOf stepsOf; rw [if_neg (by omega)]; exact Prod.ext (by show _ = x; omega) (by show _ = y; omega))).trans (checked_no2 h30)]
          exact T_ret fun cx_ a_ hI_ => rt hc0 [ps 2 (.opt 0 0), ps 3 (iv 2), pb 0 37 [(iv 0), (iv 0)]] [0] hI_
        refine T_r mixed [(3, .gd true .no), (4, .gd true .no), (5, .gd true .no), (6, .yes true)] [ps 2 (.opt 0 0), ps 11 (.opt 456 0), ps 154 (bv true), pb 0 37 [(iv 0), (iv 0)], pb 456 37 [(iv x), (iv y)]] (obs_cons (bf h29) (obs_cons (bf h29) (obs_cons (bf h29) (obs_cons (bf h29) obs_nil)))) ?_
        refine T_then (b := true) rfl rfl ?_
        refine T_seq ?_
        refine T_r mixed [] [ps 2 (.opt 0 0), ps 3 (iv 2), pb 0 37 [(iv 0), (iv 0)]] (obs_nil) ?_
        rw [(named_some (s := s) h1 h2 h3 h4 h5 (val_A (fun c => h7 c.2) (fun c => h13 c.1) (fun c => h19 c.1) h25) (j := (x, y)) (by unfold jOf stepsOf; rw [if_neg (by omega)]; exact Prod.ext (by show _ = x; omega) (by show _ = y; omega))).trans (checked_no1 h29)]
        exact T_ret fun cx_ a_ hI_ => rt hc0 [ps 2 (.opt 0 0), ps 3 (iv 2), pb 0 37 [(iv 0), (iv 0)]] [0] hI_
      refine T_el (decide_eq_false h25) ?_
      refine T_seq ?_
      by_cases h31 : (Lib.trimS (qOf s) [100]) = ([] : List UInt8)
      · refine T_r mixed [(1, .call [] [(sv (st (qOf s))), (sv (st [100]))] [] (sv (st (Lib.trimS (qOf s) [100]))) []), (2, .val (.av (.bool (decide ((Lib.trimS (qOf s) [100]) = ([] : List UInt8)))))), (4, .gd true (.no)), (5, .gd true (.no)), (6, .gd true (.call [] [(iv (((numS (dOf s)).1) - 1))] [] (bv (perfB (((numS (dOf s)).1) - 1))) [])), (7, .yes true)] [ps 0 (sv (st s)), ps 2 (.opt 0 0), ps 4 (sv (st (tOf s))), ps 6 (sv (st (qOf s))), ps 11 (.opt 456 0), ps 12 (nv ((qOf s).length)), ps 106 (bv (perfB (((numS (dOf s)).1) - 1))), pb 0 37 [(iv 0), (iv 0)], pb 456 37 [(iv (((numS (dOf s)).1) - 1)), (iv ((12 * ((((numS (dOf s)).1) - 1) / 7)) + (Pi.nat7 ((((numS (dOf s)).1) - 1) % 7))))]] (obs_cons (trim_pc (qOf s) [100] (by omega) (by decide) (one_ascii (by decide))) (obs_cons (rfl : [(sv (st (qOf s))), (sv (st ([100] : List UInt8)))] = renL (sigi [] 744) [(sv (st (qOf s))), (sv (st [100]))]) (obs_cons (st_eq _ _ : ((st (Lib.trimS (qOf s) [100])).toList == (st ([] : List UInt8)).toList) = decide ((Lib.trimS (qOf s) [100]) = ([] : List UInt8))) (obs_cons (decide_eq_true h31) (obs_cons (decide_eq_true h31) (obs_cons (by simp only [InK]; omega : InK .i64 (((numS (dOf s)).1) - 1)) (obs_cons (decide_eq_true h31) (obs_cons (perfect_pc (((numS (dOf s)).1) - 1) (by omega)) (obs_cons (rfl : Ren0 784 [(iv (((numS (dOf s)).1) - 1))]) (obs_cons (decide_eq_true h31) obs_nil)))))))))) ?_
        refine T_else (b := (perfB (((numS (dOf s)).1) - 1))) rfl (Bool.eq_false_iff.2 h7) ?_
        refine T_seq ?_
        refine T_r mixed [(1, .call [] [(sv (st (qOf s))), (sv (st [100]))] [] (sv (st (Lib.trimS (qOf s) [100]))) []), (2, .val (.av (.bool (decide ((Lib.trimS (qOf s) [100]) = ([] : List UInt8))))))] [ps 0 (sv (st s)), ps 2 (.opt 0 0), ps 4 (sv (st (tOf s))), ps 11 (.opt 456 0), ps 12 (nv ((qOf s).length)), ps 120 (bv (decide ((Lib.trimS (qOf s) [100]) = ([] : List UInt8)))), pb 0 37 [(iv 0), (iv 0)], pb 456 37 [(iv (((numS (dOf s)).1) - 1)), (iv ((12 * ((((numS (dOf s)).1) - 1) / 7)) + (Pi.nat7 ((((numS (dOf s)).1) - 1) % 7))))]] (obs_cons (trim_pc (qOf s) [100] (by omega) (by decide) (one_ascii (by decide))) (obs_cons (rfl : [(sv (st (qOf s))), (sv (st ([100] : List UInt8)))] = renL (sigi [] 816) [(sv (st (qOf s))), (sv (st [100]))]) (obs_cons (st_eq _ _ : ((st (Lib.trimS (qOf s) [100])).toList == (st ([] : List UInt8)).toList) = decide ((Lib.trimS (qOf s) [100]) = ([] : List UInt8))) obs_nil))) ?_
        refine T_th (decide_eq_true h31) ?_
        refine T_r mixed [] [ps 0 (sv (st s)), ps 2 (.opt 0 0), ps 4 (sv (st (tOf s))), ps 11 (.opt 456 0), pb 0 37 [(iv 0), (iv 0)], pb 456 37 [(iv (((numS (dOf s)).1) - 1)), (iv (((12 * ((((numS (dOf s)).1) - 1) / 7)) + (Pi.nat7 ((((numS (dOf s)).1) - 1) % 7))) - ((((qOf s).length : Nat) : Int) + 1)))]] (obs_cons (by simp only [InK]; omega : InK .i64 ((((qOf s).length : Nat) : Int) + 1)) (obs_cons (by simp only [InK]; omega : InK .i64 (((12 * ((((numS (dOf s)).1) - 1) / 7)) + (Pi.nat7 ((((numS (dOf s)).1) - 1) % 7))) - ((((qOf s).length : Nat) : Int) + 1))) obs_nil)) ?_
        refine T_blk <| T_seq <| T_seq ?_
        refine T_r mixed [] [ps 0 (sv (st s)), ps 2 (.opt 0 0), ps 11 (.opt 456 0), ps 134 (bv (decide ((((tOf s).length : Nat) : Int) < ((s.length : Nat) : Int)))), pb 0 37 [(iv 0), (iv 0)], pb 456 37 [(iv (((numS (dOf s)).1) - 1)), (iv (((12 * ((((numS (dOf s)).1) - 1) / 7)) + (Pi.nat7 ((((numS (dOf s)).1) - 1) % 7))) - ((((qOf s).length : Nat) : Int) + 1)))]] (obs_nil) ?_
        by_cases h32 : (((tOf s).length : Nat) : Int) < ((s.length : Nat) : Int)
        · refine T_th (decide_eq_true h32) ?_
          refine T_r mixed [] [ps 0 (sv (st s)), ps 2 (.opt 0 0), ps 11 (.opt 456 0), pb 0 37 [(iv 0), (iv 0)], pb 456 37 [(iv (0 - (((numS (dOf s)).1) - 1))), (iv (0 - (((12 * ((((numS (dOf s)).1) - 1) / 7)) + (Pi.nat7 ((((numS (dOf s)).1) - 1) % 7))) - ((((qOf s).length : Nat) : Int) + 1))))]] (obs_cons (by simp only [InK]; omega : InK .i64 (0 - (((numS (dOf s)).1) - 1))) (obs_cons (by simp only [InK]; omega : InK .i64 (0 - (((12 * ((((numS (dOf s)).1) - 1) / 7)) + (Pi.nat7 ((((numS (dOf s)).1) - 1) % 7))) - ((((qOf s).length : Nat) : Int) + 1)))) obs_nil)) ?_
          refine T_seq <| T_seq ?_
          obtain ⟨x, hx⟩ : ∃ x, x = 0 - (((numS (dOf s)).1) - 1) := ⟨_, rfl⟩
          obtain ⟨y, hy⟩ : ∃ y, y = 0 - (((12 * ((((numS (dOf s)).1) - 1) / 7)) + (Pi.nat7 ((((numS (dOf s)).1) - 1) % 7))) - ((((qOf s).length : Nat) : Int) + 1)) := ⟨_, rfl⟩
          refine T_wk (Wk.eq (show _ = [ps 0 (sv (st s)), ps 2 (.opt 0 0), ps 11 (.opt 456 0), pb 0 37 [(iv 0), (iv 0)], pb 456 37 [(iv x), (iv y)]] from by rw [hx, hy])) ?_
          refine T_r mixed [(1, .call [] [(.agg [(iv x), (iv y)])] [] (.tup [(sv (st ((nameS x y).1))), (iv ((nameS x y).2))]) [])] [ps 0 (sv (st s)), ps 2 (.opt 0 0), ps 11 (.opt 456 0), ps 13 (sv (st ((nameS x y).1))), ps 14 (iv ((nameS x y).2)), pb 0 37 [(iv 0), (iv 0)], pb 456 37 [(iv x), (iv y)]] (obs_cons (name_pc x y (by unfold Pi.I64; omega) (by unfold Pi.I64; omega)) (obs_cons (rfl : Ren0 1024 [(.agg [(iv x), (iv y)])]) obs_nil)) ?_
          refine T_seq ?_
          by_cases h33 : ((nameS x y).2) = 0
          · refine T_r mixed [(3, .gd false (.no)), (4, .gd false (.no)), (5, .gd false (.val (.av (.bool (!decide (((nameS x y).1) = s)))))), (6, .yes false)] [ps 2 (.opt 0 0), ps 11 (.opt 456 0), ps 154 (bv (!(decide (((nameS x y).1) = s)))), pb 0 37 [(iv 0), (iv 0)], pb 456 37 [(iv x), (iv y)]] (obs_cons (bt h33) (obs_cons (bt h33) (obs_cons (bt h33) (obs_cons (st_ne _ _ : (!((st ((nameS x y).1)).toList == (st s).toList)) = !decide (((nameS x y).1) = s)) (obs_cons (bt h33) obs_nil))))) ?_
            by_cases h34 : ((nameS x y).1) = s
            · refine T_el (bt h34) ?_
              refine T_skip <| T_seq ?_
              refine T_r mixed [] [ps 2 (.opt 0 0), ps 3 (iv 0), pb 0 37 [(iv x), (iv y)]] (obs_nil) ?_
              rw [(named_some (s := s) h1 h2 h3 h4 h5 (val_dd (fun c => h7 c.2) (fun c => h13 c.1) (fun c => h19 c.1) h25 h31 h7) (j := (x, y)) (by unfold jOf stepsOf; rw [if_pos (by omega)]; exact Prod.ext (by show _ = x; omega) (by show _ = y; omega))).trans (checked_yes h33 h34)]
              exact T_ret fun cx_ a_ hI_ => rt hc0 [ps 2 (.opt 0 0), ps 3 (iv 0), pb 0 37 [(iv x), (iv y)]] [0] hI_
            refine T_th (bf h34) ?_
            refine T_seq ?_
            refine T_r mixed [] [ps 2 (.opt 0 0), ps 3 (iv 2), pb 0 37 [(iv 0), (iv 0)]] (obs_nil) ?_
            rw [(named_some (s := s) h1 h2 h3 h4 h5 (val_dd (fun c => h7 c.2) (fun c => h13 c.1) (fun c => h19 c.1) h25 h31 h7) (j := (x, y)) (by unfold jOf stepsOf; rw [if_pos (by omega)]; exact Prod.ext (by show _ = x; omega) (by show _ = y; omega))).trans (checked_no2 h34)]
            exact T_ret fun cx_ a_ hI_ => rt hc0 [ps 2 (.opt 0 0), ps 3 (iv 2), pb 0 37 [(iv 0), (iv 0)]] [0] hI_
          refine T_r mixed [(3, .gd true .no), (4, .gd true .no), (5, .gd true .no), (6, .yes true)] [ps 2 (.opt 0 0), ps 11 (.opt 456 0), ps 154 (bv true), pb 0 37 [(iv 0), (iv 0)], pb 456 37 [(iv x), (iv y)]] (obs_cons (bf h33) (obs_cons (bf h33) (obs_cons (bf h33) (obs_cons (bf h33) obs_nil)))) ?_
          refine T_then (b := true) rfl rfl ?_
          refine T_seq ?_
          refine T_r mixed [] [ps 2 (.opt 0 0), ps 3 (iv 2), pb 0 37 [(iv 0), (iv 0)]] (obs_nil) ?_
          rw [(named_some (s := s) h1 h2 h3 h4 h5 (val_dd (fun c => h7 c.2) (fun c => h13 c.1) (fun c => h19 c.1) h25 h31 h7) (j := (x, y)) (by unfold jOf stepsOf; rw [if_pos (by omega)]; exact Prod.ext (by show _ = x; omega) (by show _ = y; omega))).trans (checked_no1 h33)]
          exact T_ret fun cx_ a_ hI_ => rt hc0 [ps 2 (.opt 0 0), ps 3 (iv 2), pb 0 37 [(iv 0), (iv 0)]] [0] hI_
        refine T_el (decide_eq_false h32) ?_
        refine T_skip <| T_seq <| T_seq ?_
        obtain ⟨x, hx⟩ : ∃ x, x = ((numS (dOf s)).1) - 1 := ⟨_, rfl⟩
        obtain ⟨y, hy⟩ : ∃ y, y = ((12 * ((((numS (dOf s)).1) - 1) / 7)) + (Pi.nat7 ((((numS (dOf s)).1) - 1) % 7))) - ((((qOf s).length : Nat) : Int) + 1) := ⟨_, rfl⟩
        refine T_wk (Wk.eq (show _ = [ps 0 (sv (st s)), ps 2 (.opt 0 0), ps 11 (.opt 456 0), ps 134 (bv (decide ((((tOf s).length : Nat) : Int) < ((s.length : Nat) : Int)))), pb 0 37 [(iv 0), (iv 0)], pb 456 37 [(iv x), (iv y)]] from by rw [hx, hy])) ?_
        refine T_r mixed [(1, .call [] [(.agg [(iv x), (iv y)])] [] (.tup [(sv (st ((nameS x y).1))), (iv ((nameS x y).2))]) [])] [ps 0 (sv (st s)), ps 2 (.opt 0 0), ps 11 (.opt 456 0), ps 13 (sv (st ((nameS x y).1))), ps 14 (iv ((nameS x y).2)), pb 0 37 [(iv 0), (iv 0)], pb 456 37 [(iv x), (iv y)]] (obs_cons (name_pc x y (by unfold Pi.I64; omega) (by unfold Pi.I64; omega)) (obs_cons (rfl : Ren0 944 [(.agg [(iv x), (iv y)])]) obs_nil)) ?_
        refine T_seq ?_
        by_cases h35 : ((nameS x y).2) = 0
        · refine T_r mixed [(3, .gd false (.no)), (4, .gd false (.no)), (5, .gd false (.val (.av (.bool (!decide (((nameS x y).1) = s)))))), (6, .yes false)] [ps 2 (.opt 0 0), ps 11 (.opt 456 0), ps 154 (bv (!(decide (((nameS x y).1) = s)))), pb 0 37 [(iv 0), (iv 0)], pb 456 37 [(iv x), (iv y)]] (obs_cons (bt h35) (obs_cons (bt h35) (obs_cons (bt h35) (obs_cons (st_ne _ _ : (!((st ((nameS x y).1)).toList == (st s).toList)) = !decide (((nameS x y).1) = s)) (obs_cons (bt h35) obs_nil))))) ?_
          by_cases h36 : ((nameS x y).1) = s
          · refine T_el (bt h36) ?_
            refine T_skip <| T_seq ?_
            refine T_r mixed [] [ps 2 (.opt 0 0), ps 3 (iv 0), pb 0 37 [(iv x), (iv y)]] (obs_nil) ?_
            rw [(named_some (s := s) h1 h2 h3 h4 h5 (val_dd (fun c => h7 c.2) (fun c => h13 c.1) (fun c => h19 c.1) h25 h31 h7) (j := (x, y)) (by unfold jOf stepsOf; rw [if_neg (by omega)]; exact Prod.ext (by show _ = x; omega) (by show _ = y; omega))).trans (checked_yes h35 h36)]
            exact T_ret fun cx_ a_ hI_ => rt hc0 [ps 2 (.opt 0 0), ps 3 (iv 0), pb 0 37 [(iv x), (iv y)]] [0] hI_
          refine T_th (bf h36) ?_
          refine T_seq ?_
          refine T_r mixed [] [ps 2 (.opt 0 0), ps 3 (iv 2), pb 0 37 [(iv 0), (iv 0)]] (obs_nil) ?_
          rw [(named_some (s := s) h1 h2 h3 h4 h5 (val_dd (fun c => h7 c.2) (fun c => h13 c.1) (fun c => h19 c.1) h25 h31 h7) (j := (x, y)) (by unfold jOf stepsOf; rw [if_neg (by omega)]; exact Prod.ext (by show _ = x; omega) (by show _ = y; omega))).trans (checked_no2 h36)]
          exact T_ret fun cx_ a_ hI_ => rt hc0 [ps 2 (.opt 0 0), ps 3 (iv 2), pb 0 37 [(iv 0), (iv 0)]] [0] hI_
        refine T_r mixed [(3, .gd true .no), (4, .gd true .no), (5, .gd true .no), (6, .yes true)] [ps 2 (.opt 0 0), ps 11 (.opt 456 0), ps 154 (bv true), pb 0 37 [(iv 0), (iv 0)], pb 456 37 [(iv x), (iv y)]] (obs_cons (bf h35) (obs_cons (bf h35) (obs_cons (bf h35) (obs_cons (bf h35) obs_nil)))) ?_
        refine T_then (b := true) rfl rfl ?_
        refine T_seq ?_
        refine T_r mixed [] [ps 2 (.opt 0 0), ps 3 (iv 2), pb 0 37 [(iv 0), (iv 0)]] (obs_nil) ?_
        rw [(named_some (s := s) h1 h2 h3 h4 h5 (val_dd (fun c => h7 c.2) (fun c => h13 c.1) (fun c => h19 c.1) h25 h31 h7) (j := (x, y)) (by unfold jOf stepsOf; rw [if_neg (by omega)]; exact Prod.ext (by show _ = x; omega) (by show _ = y; omega))).trans (checked_no1 h35)]
        exact T_ret fun cx_ a_ hI_ => rt hc0 [ps 2 (.opt 0 0), ps 3 (iv 2), pb 0 37 [(iv 0), (iv 0)]] [0] hI_
      refine T_r mixed [(1, .call [] [(sv (st (qOf s))), (sv (st [100]))] [] (sv (st (Lib.trimS (qOf s) [100]))) []), (2, .val (.av (.bool (decide ((Lib.trimS (qOf s) [100]) = ([] : List UInt8)))))), (4, .gd false .no), (5, .gd false .no), (6, .gd false .no), (7, .yes false)] [ps 0 (sv (st s)), ps 2 (.opt 0 0), ps 4 (sv (st (tOf s))), ps 6 (sv (st (qOf s))), ps 11 (.opt 456 0), ps 12 (nv ((qOf s).length)), ps 106 (bv false), pb 0 37 [(iv 0), (iv 0)], pb 456 37 [(iv (((numS (dOf s)).1) - 1)), (iv ((12 * ((((numS (dOf s)).1) - 1) / 7)) + (Pi.nat7 ((((numS (dOf s)).1) - 1) % 7))))]] (obs_cons (trim_pc (qOf s) [100] (by omega) (by decide) (one_ascii (by decide))) (obs_cons (rfl : [(sv (st (qOf s))), (sv (st ([100] : List UInt8)))] = renL (sigi [] 744) [(sv (st (qOf s))), (sv (st [100]))]) (obs_cons (st_eq _ _ : ((st (Lib.trimS (qOf s) [100])).toList == (st ([] : List UInt8)).toList) = decide ((Lib.trimS (qOf s) [100]) = ([] : List UInt8))) (obs_cons (decide_eq_false h31) (obs_cons (decide_eq_false h31) (obs_cons (decide_eq_false h31) (obs_cons (decide_eq_false h31) obs_nil))))))) ?_
      refine T_else (b := false) rfl rfl ?_
      refine T_seq ?_
      refine T_r mixed [(1, .call [] [(sv (st (qOf s))), (sv (st [100]))] [] (sv (st (Lib.trimS (qOf s) [100]))) []), (2, .val (.av (.bool (decide ((Lib.trimS (qOf s) [100]) = ([] : List UInt8))))))] [ps 0 (sv (st s)), ps 2 (.opt 0 0), ps 4 (sv (st (tOf s))), ps 11 (.opt 456 0), ps 12 (nv ((qOf s).length)), ps 120 (bv (decide ((Lib.trimS (qOf s) [100]) = ([] : List UInt8)))), pb 0 37 [(iv 0), (iv 0)], pb 456 37 [(iv (((numS (dOf s)).1) - 1)), (iv ((12 * ((((numS (dOf s)).1) - 1) / 7)) + (Pi.nat7 ((((numS (dOf s)).1) - 1) % 7))))]] (obs_cons (trim_pc (qOf s) [100] (by omega) (by decide) (one_ascii (by decide))) (obs_cons (rfl : [(sv (st (qOf s))), (sv (st ([100] : List UInt8)))] = renL (sigi [] 816) [(sv (st (qOf s))), (sv (st [100]))]) (obs_cons (st_eq _ _ : ((st (Lib.trimS (qOf s) [100])).toList == (st ([] : List UInt8)).toList) = decide ((Lib.trimS (qOf s) [100]) = ([] : List UInt8))) obs_nil))) ?_
      refine T_el (decide_eq_false h31) ?_
      refine T_seq ?_
      refine T_r mixed [] [ps 2 (.opt 0 0), ps 3 (iv 2), pb 0 37 [(iv 0), (iv 0)]] (obs_nil) ?_
      rw [named_none (s := s) h1 h2 h3 h4 h5 (val_no (fun c => h7 c.2) (fun c => h13 c.1) (fun c => h19 c.1) h25 h31)]
      exact T_ret fun cx_ a_ hI_ => rt hc0 [ps 2 (.opt 0 0), ps 3 (iv 2), pb 0 37 [(iv 0), (iv 0)]] [0] hI_
    refine T_r mixed [(1, .val (.av (.bool (decide ((qOf s) = ([80] : List UInt8)))))), (3, .gd false .no), (4, .gd false .no), (5, .gd false .no), (6, .yes false)] [ps 0 (sv (st s)), ps 2 (.opt 0 0), ps 4 (sv (st (tOf s))), ps 6 (sv (st (qOf s))), ps 7 (iv ((numS (dOf s)).1)), ps 11 (.opt 456 0), ps 12 (nv ((qOf s).length)), ps 68 (bv false), pb 0 37 [(iv 0), (iv 0)], pb 456 37 [(iv (((numS (dOf s)).1) - 1)), (iv ((12 * ((((numS (dOf s)).1) - 1) / 7)) + (Pi.nat7 ((((numS (dOf s)).1) - 1) % 7))))]] (obs_cons (st_eq _ _ : ((st (qOf s)).toList == (st ([80] : List UInt8)).toList) = decide ((qOf s) = ([80] : List UInt8))) (obs_cons (decide_eq_false h6) (obs_cons (decide_eq_false h6) (obs_cons (decide_eq_false h6) (obs_cons (decide_eq_false h6) obs_nil))))) ?_
    refine T_else (b := false) rfl rfl ?_
    by_cases h37 : (qOf s) = ([77] : List UInt8)
    · refine T_r mixed [(1, .val (.av (.bool (decide ((qOf s) = ([77] : List UInt8)))))), (3, .gd true (.no)), (4, .gd true (.no)), (5, .gd true (.call [] [(iv (((numS (dOf s)).1) - 1))] [] (bv (perfB (((numS (dOf s)).1) - 1))) [])), (6, .gd true (.no)), (7, .yes true)] [ps 0 (sv (st s)), ps 2 (.opt 0 0), ps 4 (sv (st (tOf s))), ps 6 (sv (st (qOf s))), ps 7 (iv ((numS (dOf s)).1)), ps 11 (.opt 456 0), ps 12 (nv ((qOf s).length)), ps 68 (bv (!(perfB (((numS (dOf s)).1) - 1)))), pb 0 37 [(iv 0), (iv 0)], pb 456 37 [(iv (((numS (dOf s)).1) - 1)), (iv ((12 * ((((numS (dOf s)).1) - 1) / 7)) + (Pi.nat7 ((((numS (dOf s)).1) - 1) % 7))))]] (obs_cons (st_eq _ _ : ((st (qOf s)).toList == (st ([77] : List UInt8)).toList) = decide ((qOf s) = ([77] : List UInt8))) (obs_cons (decide_eq_true h37) (obs_cons (decide_eq_true h37) (obs_cons (by simp only [InK]; omega : InK .i64 (((numS (dOf s)).1) - 1)) (obs_cons (decide_eq_true h37) (obs_cons (perfect_pc (((numS (dOf s)).1) - 1) (by omega)) (obs_cons (rfl : Ren0 600 [(iv (((numS (dOf s)).1) - 1))]) (obs_cons (decide_eq_true h37) (obs_cons (decide_eq_true h37) obs_nil))))))))) ?_
      by_cases h38 : (perfB (((numS (dOf s)).1) - 1)) = true
      · refine T_el (congrArg Bool.not h38) ?_
        refine T_seq ?_
        by_cases h39 : (qOf s) = ([109] : List UInt8)
        · refine T_r mixed [(1, .val (.av (.bool (decide ((qOf s) = ([109] : List UInt8)))))), (3, .gd true (.no)), (4, .gd true (.no)), (5, .gd true (.call [] [(iv (((numS (dOf s)).1) - 1))] [] (bv (perfB (((numS (dOf s)).1) - 1))) [])), (6, .gd true (.no)), (7, .yes true)] [ps 0 (sv (st s)), ps 2 (.opt 0 0), ps 4 (sv (st (tOf s))), ps 6 (sv (st (qOf s))), ps 7 (iv ((numS (dOf s)).1)), ps 11 (.opt 456 0), ps 12 (nv ((qOf s).length)), ps 84 (bv (!(perfB (((numS (dOf s)).1) - 1)))), pb 0 37 [(iv 0), (iv 0)], pb 456 37 [(iv (((numS (dOf s)).1) - 1)), (iv ((12 * ((((numS (dOf s)).1) - 1) / 7)) + (Pi.nat7 ((((numS (dOf s)).1) - 1) % 7))))]] (obs_cons (st_eq _ _ : ((st (qOf s)).toList == (st ([109] : List UInt8)).toList) = decide ((qOf s) = ([109] : List UInt8))) (obs_cons (decide_eq_true h39) (obs_cons (decide_eq_true h39) (obs_cons (by simp only [InK]; omega : InK .i64 (((numS (dOf s)).1) - 1)) (obs_cons (decide_eq_true h39) (obs_cons (perfect_pc (((numS (dOf s)).1) - 1) (by omega)) (obs_cons (rfl : Ren0 672 [(iv (((numS (dOf s)).1) - 1))]) (obs_cons (decide_eq_true h39) (obs_cons (decide_eq_true h39) obs_nil))))))))) ?_
          refine T_el (congrArg Bool.not h38) ?_
          refine T_seq ?_
          refine T_r mixed [(1, .call [] [(sv (st (qOf s))), (sv (st [65]))] [] (sv (st (Lib.trimS (qOf s) [65]))) []), (2, .val (.av (.bool (decide ((Lib.trimS (qOf s) [65]) = ([] : List UInt8))))))] [ps 0 (sv (st s)), ps 2 (.opt 0 0), ps 4 (sv (st (tOf s))), ps 6 (sv (st (qOf s))), ps 7 (iv ((numS (dOf s)).1)), ps 11 (.opt 456 0), ps 12 (nv ((qOf s).length)), ps 97 (bv (decide ((Lib.trimS (qOf s) [65]) = ([] : List UInt8)))), pb 0 37 [(iv 0), (iv 0)], pb 456 37 [(iv (((numS (dOf s)).1) - 1)), (iv ((12 * ((((numS (dOf s)).1) - 1) / 7)) + (Pi.nat7 ((((numS (dOf s)).1) - 1) % 7))))]] (obs_cons (trim_pc (qOf s) [65] (by omega) (by decide) (one_ascii (by decide))) (obs_cons (rfl : [(sv (st (qOf s))), (sv (st ([65] : List UInt8)))] = renL (sigi [] 712) [(sv (st (qOf s))), (sv (st [65]))]) (obs_cons (st_eq _ _ : ((st (Lib.trimS (qOf s) [65])).toList == (st ([] : List UInt8)).toList) = decide ((Lib.trimS (qOf s) [65]) = ([] : List UInt8))) obs_nil))) ?_
          by_cases h40 : (Lib.trimS (qOf s) [65]) = ([] : List UInt8)
          · refine T_th (decide_eq_true h40) ?_
            refine T_r mixed [] [ps 0 (sv (st s)), ps 2 (.opt 0 0), ps 4 (sv (st (tOf s))), ps 11 (.opt 456 0), pb 0 37 [(iv 0), (iv 0)], pb 456 37 [(iv (((numS (dOf s)).1) - 1)), (iv (((12 * ((((numS (dOf s)).1) - 1) / 7)) + (Pi.nat7 ((((numS (dOf s)).1) - 1) % 7))) + (((qOf s).length : Nat) : Int)))]] (obs_cons (by simp only [InK]; omega : InK .i64 (((12 * ((((numS (dOf s)).1) - 1) / 7)) + (Pi.nat7 ((((numS (dOf s)).1) - 1) % 7))) + (((qOf s).length : Nat) : Int))) obs_nil) ?_
            refine T_blk <| T_seq <| T_seq ?_
            refine T_r mixed [] [ps 0 (sv (st s)), ps 2 (.opt 0 0), ps 11 (.opt 456 0), ps 134 (bv (decide ((((tOf s).length : Nat) : Int) < ((s.length : Nat) : Int)))), pb 0 37 [(iv 0), (iv 0)], pb 456 37 [(iv (((numS (dOf s)).1) - 1)), (iv (((12 * ((((numS (dOf s)).1) - 1) / 7)) + (Pi.nat7 ((((numS (dOf s)).1) - 1) % 7))) + (((qOf s).length : Nat) : Int)))]] (obs_nil) ?_
            by_cases h41 : (((tOf s).length : Nat) : Int) < ((s.length : Nat) : Int)
            · refine T_th (decide_eq_true h41) ?_
              refine T_r mixed [] [ps 0 (sv (st s)), ps 2 (.opt 0 0), ps 11 (.opt 456 0), pb 0 37 [(iv 0), (iv 0)], pb 456 37 [(iv (0 - (((numS (dOf s)).1) - 1))), (iv (0 - (((12 * ((((numS (dOf s)).1) - 1) / 7)) + (Pi.nat7 ((((numS (dOf s)).1) - 1) % 7))) + (((qOf s).length : Nat) : Int))))]] (obs_cons (by simp only [InK]; omega : InK .i64 (0 - (((numS (dOf s)).1) - 1))) (obs_cons (by simp only [InK]; omega : InK .i64 (0 - (((12 * ((((numS (dOf s)).1) - 1) / 7)) + (Pi.nat7 ((((numS (dOf s)).1) - 1) % 7))) + (((qOf s).length : Nat) : Int)))) obs_nil)) ?_
              refine T_seq <| T_seq ?_
              obtain ⟨x, hx⟩ : ∃ x, x = 0 - (((numS (dOf s)).1) - 1) := ⟨_, rfl⟩
              obtain ⟨y, hy⟩ : ∃ y, y = 0 - (((12 * ((((numS (dOf s)).1) - 1) / 7)) + (Pi.nat7 ((((numS (dOf s)).1) - 1) % 7))) + (((qOf s).length : Nat) : Int)) := ⟨_, rfl⟩
              refine T_wk (Wk.eq (show _ = [ps 0 (sv (st s)), ps 2 (.opt 0 0), ps 11 (.opt 456 0), pb 0 37 [(iv 0), (iv 0)], pb 456 37 [(iv x), (iv y)]] from by rw [hx, hy])) ?_
              refine T_r mixed [(1, .call [] [(.agg [(iv x), (iv y)])] [] (.tup [(sv (st ((nameS x y).1))), (iv ((nameS x y).2))]) [])] [ps 0 (sv (st s)), ps 2 (.opt 0 0), ps 11 (.opt 456 0), ps 13 (sv (st ((nameS x y).1))), ps 14 (iv ((nameS x y).2)), pb 0 37 [(iv 0), (iv 0)], pb 456 37 [(iv x), (iv y)]] (obs_cons (name_pc x y (by unfold Pi.I64; omega) (by unfold Pi.I64; omega)) (obs_cons (rfl : Ren0 912 [(.agg [(iv x), (iv y)])]) obs_nil)) ?_
              refine T_seq ?_
              by_cases h42 : ((nameS x y).2) = 0
              · refine T_r mixed [(3, .gd false (.no)), (4, .gd false (.no)), (5, .gd false (.val (.av (.bool (!decide (((nameS x y).1) = s)))))), (6, .yes false)] [ps 2 (.opt 0 0), ps 11 (.opt 456 0), ps 154 (bv (!(decide (((nameS x y).1) = s)))), pb 0 37 [(iv 0), (iv 0)], pb 456 37 [(iv x), (iv y)]] (obs_cons (bt h42) (obs_cons (bt h42) (obs_cons (bt h42) (obs_cons (st_ne _ _ : (!((st ((nameS x y).1)).toList == (st s).toList)) = !decide (((nameS x y).1) = s)) (obs_cons (bt h42) obs_nil))))) ?_
                by_cases h43 : ((nameS x y).1) = s
                · refine T_el (bt h43) ?_
                  refine T_skip <| T_seq ?_
                  refine T_r mixed [] [ps 2 (.opt 0 0), ps 3 (iv 0), pb 0 37 [(iv x), (iv y)]] (obs_nil) ?_
                  rw [(named_some (s := s) h1 h2 h3 h4 h5 (val_A (fun c => h6 c.1) (fun c => c.2 h38) (fun c => c.2 h38) h40) (j := (x, y)) (by unfold jOf stepsOf; rw [if_pos (by omega)]; exact Prod.ext (by show _ = x; omega) (by show _ = y; omega))).trans (checked_yes h42 h43)]
                  exact T_ret fun cx_ a_ hI_ => rt hc0 [ps 2 (.opt 0 0), ps 3 (iv 0), pb 0 37 [(iv x), (iv y)]] [0] hI_
                refine T_th (bf h43) ?_
                refine T_seq ?_
                refine T_r mixed [] [ps 2 (.opt 0 0), ps 3 (iv 2), pb 0 37 [(iv 0), (iv 0)]] (obs_nil) ?_
                rw [(named_some (s := s) h1 h2 h3 h4 h5 (val_A (fun c => h6 c.1) (fun c => c.2 h38) (fun c => c.2 h38) h40) (j := (x, y)) (by unfold jOf stepsOf; rw [if_pos (by omega)]; exact Prod.ext (by show _ = x; omega) (by show _ = y; omega))).trans (checked_no2 h43)]
                exact T_ret fun cx_ a_ hI_ => rt hc0 [ps 2 (.opt 0 0), ps 3 (iv 2), pb 0 37 [(iv 0), (iv 0)]] [0] hI_
              refine T_r mixed [(3, .gd true .no), (4, .gd true .no), (5, .gd true .no), (6, .yes true)] [ps 2 (.opt 0 0), ps 11 (.opt 456 0), ps 154 (bv true), pb 0 37 [(iv 0), (iv 0)], pb 456 37 [(iv x), (iv y)]] (obs_cons (bf h42) (obs_cons (bf h42) (obs_cons (bf h42) (obs_cons (bf h42) obs_nil)))) ?_
              refine T_then (b := true) rfl rfl ?_
              refine T_seq ?_
              refine T_r mixed [] [ps 2 (.opt 0 0), ps 3 (iv 2), pb 0 37 [(iv 0), (iv 0)]] (obs_nil) ?_
              rw [(named_some (s := s) h1 h2 h3 h4 h5 (val_A (fun c => h6 c.1) (fun c => c.2 h38) (fun c => c.2 h38) h40) (j := (x, y)) (by unfold jOf stepsOf; rw [if_pos (by omega)]; exact Prod.ext (by show _ = x; omega) (by show _ = y; omega))).trans (checked_no1 h42)]
              exact T_ret fun cx_ a_ hI_ => rt hc0 [ps 2 (.opt 0 0), ps 3 (iv 2), pb 0 37 [(iv 0), (iv 0)]] [0] hI_
            refine T_el (decide_eq_false h41) ?_
            refine T_skip <| T_seq <| T_seq ?_
            obtain ⟨x, hx⟩ : ∃ x, x = ((numS (dOf s)).1) - 1 := ⟨_, rfl⟩
            obtain ⟨y, hy⟩ : ∃ y, y = ((12 * ((((numS (dOf s)).1) - 1) / 7)) + (Pi.nat7 ((((numS (dOf s)).1) - 1) % 7))) + (((qOf s).length : Nat) : Int) := ⟨_, rfl⟩
            refine T_wk (Wk.eq (show _ = [ps 0 (sv (st s)), ps 2 (.opt 0 0), ps 11 (.opt 456 0), ps 134 (bv (decide ((((tOf s).length : Nat) : Int) < ((s.length : Nat) : Int)))), pb 0 37 [(iv 0), (iv 0)], pb 456 37 [(iv x), (iv y)]] from by rw [hx, hy])) ?_
            refine T_r mixed [(1, .call [] [(.agg [(iv x), (iv y)])] [] (.tup [(sv (st ((nameS x y).1))), (iv ((nameS x y).2))]) [])] [ps 0 (sv (st s)), ps 2 (.opt 0 0), ps 11 (.opt 456 0), ps 13 (sv (st ((nameS x y).1))), ps 14 (iv ((nameS x y).2)), pb 0 37 [(iv 0), (iv 0)], pb 456 37 [(iv x), (iv y)]] (obs_cons (name_pc x y (by unfold Pi.I64; omega) (by unfold Pi.I64; omega)) (obs_cons (rfl : Ren0 832 [(.agg [(iv x), (iv y)])]) obs_nil)) ?_
            refine T_seq ?_
            by_cases h44 : ((nameS x y).2) = 0
            · refine T_r mixed [(3, .gd false (.no)), (4, .gd false (.no)), (5, .gd false (.val (.av (.bool (!decide (((nameS x y).1) = s)))))), (6, .yes false)] [ps 2 (.opt 0 0), ps 11 (.opt 456 0), ps 154 (bv (!(decide (((nameS x y).1) = s)))), pb 0 37 [(iv 0), (iv 0)], pb 456 37 [(iv x), (iv y)]] (obs_cons (bt h44) (obs_cons (bt h44) (obs_cons (bt h44) (obs_cons (st_ne _ _ : (!((st ((nameS x y).1)).toList == (st s).toList)) = !decide (((nameS x y).1) = s)) (obs_cons (bt h44) obs_nil))))) ?_
              by_cases h45 : ((nameS x y).1) = s
              · refine T_el (bt h45) ?_
                refine T_skip <| T_seq ?_
                refine T_r mixed [] [ps 2 (.opt 0 0), ps 3 (iv 0), pb 0 37 [(iv x), (iv y)]] (obs_nil) ?_
                rw [(named_some (s := s) h1 h2 h3 h4 h5 (val_A (fun c => h6 c.1) (fun c => c.2 h38) (fun c => c.2 h38) h40) (j := (x, y)) (by unfold jOf stepsOf; rw [if_neg (by omega)]; exact Prod.ext (by show _ = x; omega) (by show _ = y; omega))).trans (checked_yes h44 h45)]
                exact T_ret fun cx_ a_ hI_ => rt hc0 [ps 2 (.opt 0 0), ps 3 (iv 0), pb 0 37 [(iv x), (iv y)]] [0] hI_
              refine T_th (bf h45) ?_
              refine T_seq ?_
              refine T_r mixed [] [ps 2 (.opt 0 0), ps 3 (iv 2), pb 0 37 [(iv 0), (iv 0)]] (obs_nil) ?_
              rw [(named_some (s := s) h1 h2 h3 h4 h5 (val_A (fun c => h6 c.1) (fun c => c.2 h38) (fun c => c.2 h38) h40) (j := (x, y)) (by unfold jOf stepsOf; rw [if_neg (by omega)]; exact Prod.ext (by show _ = x; omega) (by show _ = y; omega))).trans (checked_no2 h45)]
              exact T_ret fun cx_ a_ hI_ => rt hc0 [ps 2 (.opt 0 0), ps 3 (iv 2), pb 0 37 [(iv 0), (iv 0)]] [0] hI_
            refine T_r mixed [(3, .gd true .no), (4, .gd true .no), (5, .gd true .no), (6, .yes true)] [ps 2 (.opt 0 0), ps 11 (.opt 456 0), ps 154 (bv true), pb 0 37 [(iv 0), (iv 0)], pb 456 37 [(iv x), (iv y)]] (obs_cons (bf h44) (obs_cons (bf h44) (obs_cons (bf h44) (obs_cons (bf h44) obs_nil)))) ?_
            refine T_then (b := true) rfl rfl ?_
            refine T_seq ?_
            refine T_r mixed [] [ps 2 (.opt 0 0), ps 3 (iv 2), pb 0 37 [(iv 0), (iv 0)]] (obs_nil) ?_
            rw [(named_some (s := s) h1 h2 h3 h4 h5 (val_A (fun c => h6 c.1) (fun c => c.2 h38) (fun c => c.2 h38) h40) (j := (x, y)) (by unfold jOf stepsOf; rw [if_neg (by omega)]; exact Prod.ext (by show _ = x; omega) (by show _ = y; omega))).trans (checked_no1 h44)]
            exact T_ret fun cx_ a_ hI_ => rt hc0 [ps 2 (.opt 0 0), ps 3 (iv 2), pb 0 37 [(iv 0), (iv 0)]] [0] hI_
          refine T_el (decide_eq_false h40) ?_
          refine T_seq ?_
          by_cases h46 : (Lib.trimS (qOf s) [100]) = ([] : List UInt8)
          · refine T_r mixed [(1, .call [] [(sv (st (qOf s))), (sv (st [100]))] [] (sv (st (Lib.trimS (qOf s) [100]))) []), (2, .val (.av (.bool (decide ((Lib.trimS (qOf s) [100]) = ([] : List UInt8)))))), (4, .gd true (.no)), (5, .gd true (.no)), (6, .gd true (.call [] [(iv (((numS (dOf s)).1) - 1))] [] (bv (perfB (((numS (dOf s)).1) - 1))) [])), (7, .yes true)] [ps 0 (sv (st s)), ps 2 (.opt 0 0), ps 4 (sv (st (tOf s))), ps 6 (sv (st (qOf s))), ps 11 (.opt 456 0), ps 12 (nv ((qOf s).length)), ps 106 (bv (perfB (((numS (dOf s)).1) - 1))), pb 0 37 [(iv 0), (iv 0)], pb 456 37 [(iv (((numS (dOf s)).1) - 1)), (iv ((12 * ((((numS (dOf s)).1) - 1) / 7)) + (Pi.nat7 ((((numS (dOf s)).1) - 1) % 7))))]] (obs_cons (trim_pc (qOf s) [100] (by omega) (by decide) (one_ascii (by decide))) (obs_cons (rfl : [(sv (st (qOf s))), (sv (st ([100] : List UInt8)))] = renL (sigi [] 744) [(sv (st (qOf s))), (sv (st [100]))]) (obs_cons (st_eq _ _ : ((st (Lib.trimS (qOf s) [100])).toList == (st ([] : List UInt8)).toList) = decide ((Lib.trimS (qOf s) [100]) = ([] : List UInt8))) (obs_cons (decide_eq_true h46) (obs_cons (decide_eq_true h46) (obs_cons (by simp only [InK]; omega : InK .i64 (((numS (dOf s)).1) - 1)) (obs_cons (decide_eq_true h46) (obs_cons (perfect_pc (((numS (dOf s)).1) - 1) (by omega)) (obs_cons (rfl : Ren0 784 [(iv (((numS (dOf s)).1) - 1))]) (obs_cons (decide_eq_true h46) obs_nil)))))))))) ?_
            refine T_then (b := (perfB (((numS (dOf s)).1) - 1))) rfl h38 ?_
            refine T_r mixed [] [ps 0 (sv (st s)), ps 2 (.opt 0 0), ps 4 (sv (st (tOf s))), ps 11 (.opt 456 0), pb 0 37 [(iv 0), (iv 0)], pb 456 37 [(iv (((numS (dOf s)).1) - 1)), (iv (((12 * ((((numS (dOf s)).1) - 1) / 7)) + (Pi.nat7 ((((numS (dOf s)).1) - 1) % 7))) - (((qOf s).length : Nat) : Int)))]] (obs_cons (by simp only [InK]; omega : InK .i64 (((12 * ((((numS (dOf s)).1) - 1) / 7)) + (Pi.nat7 ((((numS (dOf s)).1) - 1) % 7))) - (((qOf s).length : Nat) : Int))) obs_nil) ?_
            refine T_blk <| T_seq <| T_seq ?_
            refine T_r mixed [] [ps 0 (sv (st s)), ps 2 (.opt 0 0), ps 11 (.opt 456 0), ps 134 (bv (decide ((((tOf s).length : Nat) : Int) < ((s.length : Nat) : Int)))), pb 0 37 [(iv 0), (iv 0)], pb 456 37 [(iv (((numS (dOf s)).1) - 1)), (iv (((12 * ((((numS (dOf s)).1) - 1) / 7)) + (Pi.nat7 ((((numS (dOf s)).1) - 1) % 7))) - (((qOf s).length : Nat) : Int)))]] (obs_nil) ?_
            by_cases h47 : (((tOf s).length : Nat) : Int) < ((s.length : Nat) : Int)
            · refine T_th (decide_eq_true h47) ?_
              refine T_r mixed [] [ps 0 (sv (st s)), ps 2 (.opt 0 0), ps 11 (.opt 456 0), pb 0 37 [(iv 0), (iv 0)], pb 456 37 [(iv (0 - (((numS (dOf s)).1) - 1))), (iv (0 - (((12 * ((((numS (dOf s)).1) - 1) / 7)) + (Pi.nat7 ((((numS (dOf s)).1) - 1) % 7))) - (((qOf s).length : Nat) : Int))))]] (obs_cons (by simp only [InK]; omega : InK .i64 (0 - (((numS (dOf s)).1) - 1))) (obs_cons (by simp only [InK]; omega : InK .i64 (0 - (((12 * ((((numS (dOf s)).1) - 1) / 7)) + (Pi.nat7 ((((numS (dOf s)).1) - 1) % 7))) - (((qOf s).length : Nat) : Int)))) obs_nil)) ?_
              refine T_seq <| T_seq ?_
              obtain ⟨x, hx⟩ : ∃ x, x = 0 - (((numS (dOf s)).1) - 1) := ⟨_, rfl⟩
              obtain ⟨y, hy⟩ : ∃ y, y = 0 - (((12 * ((((numS (dOf s)).1) - 1) / 7)) + (Pi.nat7 ((((numS (dOf s)).1) - 1) % 7))) - (((qOf s).length : Nat) : Int)) := ⟨_, rfl⟩
              refine T_wk (Wk.eq (show _ = [ps 0 (sv (st s)), ps 2 (.opt 0 0), ps 11 (.opt 456 0), pb 0 37 [(iv 0), (iv 0)], pb 456 37 [(iv x), (iv y)]] from by rw [hx, hy])) ?_
              refine T_r mixed [(1, .call [] [(.agg [(iv x), (iv y)])] [] (.tup [(sv (st ((nameS x y).1))), (iv ((nameS x y).2))]) [])] [ps 0 (sv (st s)), ps 2 (.opt 0 0), ps 11 (.opt 456 0), ps 13 (sv (st ((nameS x y).1))), ps 14 (iv ((nameS x y).2)), pb 0 37 [(iv 0), (iv 0)], pb 456 37 [(iv x), (iv y)]] (obs_cons (name_pc x y (by unfold Pi.I64; omega) (by unfold Pi.I64; omega)) (obs_cons (rfl : Ren0 984 [(.agg [(iv x), (iv y)])]) obs_nil)) ?_
              refine T_seq ?_
              by_cases h48 : ((nameS x y).2) = 0
              · refine T_r mixed [(3, .gd false (.no)), (4, .gd false (.no)), (5, .gd false (.val (.av (.bool (!decide (((nameS x y).1) = s)))))), (6, .yes false)] [ps 2 (.opt 0 0), ps 11 (.opt 456 0), ps 154 (bv (!(decide (((nameS x y).1) = s)))), pb 0 37 [(iv 0), (iv 0)], pb 456 37 [(iv x), (iv y)]] (obs_cons (bt h48) (obs_cons (bt h48) (obs_cons (bt h48) (obs_cons (st_ne _ _ : (!((st ((nameS x y).1)).toList == (st s).toList)) = !decide (((nameS x y).1) = s)) (obs_cons (bt h48) obs_nil))))) ?_
                by_cases h49 : ((nameS x y).1) = s
                · refine T_el (bt h49) ?_
                  refine T_skip <| T_seq ?_
                  refine T_r mixed [] [ps 2 (.opt 0 0), ps 3 (iv 0), pb 0 37 [(iv x), (iv y)]] (obs_nil) ?_
                  rw [(named_some (s := s) h1 h2 h3 h4 h5 (val_d (fun c => h6 c.1) (fun c => c.2 h38) (fun c => c.2 h38) h40 h46 h38) (j := (x, y)) (by unfold jOf stepsOf; rw [if_pos (by omega)]; exact Prod.ext (by show _ = x; omega) (by show _ = y; omega))).trans (checked_yes h48 h49)]
                  exact T_ret fun cx_ a_ hI_ => rt hc0 [ps 2 (.opt 0 0), ps 3 (iv 0), pb 0 37 [(iv x), (iv y)]] [0] hI_
                refine T_th (bf h49) ?_
                refine T_seq ?_
                refine T_r mixed [] [ps 2 (.opt 0 0), ps 3 (iv 2), pb 0 37 [(iv 0), (iv 0)]] (obs_nil) ?_
                rw [(named_some (s := s) h1 h2 h3 h4 h5 (val_d (fun c => h6 c.1) (fun c => c.2 h38) (fun c => c.2 h38) h40 h46 h38) (j := (x, y)) (by unfold jOf stepsOf; rw [if_pos (by omega)]; exact Prod.ext (by show _ = x; omega) (by show _ = y; omega))).trans (checked_no2 h49)]
                exact T_ret fun cx_ a_ hI_ => rt hc0 [ps 2 (.opt 0 0), ps 3 (iv 2), pb 0 37 [(iv 0), (iv 0)]] [0] hI_
              refine T_r mixed [(3, .gd true .no), (4, .gd true .no), (5, .gd true .no), (6, .yes true)] [ps 2 (.opt 0 0), ps 11 (.opt 456 0), ps 154 (bv true), pb 0 37 [(iv 0), (iv 0)], pb 456 37 [(iv x), (iv y)]] (obs_cons (bf h48) (obs_cons (bf h48) (obs_cons (bf h48) (obs_cons (bf h48) obs_nil)))) ?_
              refine T_then (b := true) rfl rfl ?_
              refine T_seq ?_
              refine T_r mixed [] [ps 2 (.opt 0 0), ps 3 (iv 2), pb 0 37 [(iv 0), (iv 0)]] (obs_nil) ?_
              rw [(named_some (s := s) h1 h2 h3 h4 h5 (val_d (fun c => h6 c.1) (fun c => c.2 h38) (fun c => c.2 h38) h40 h46 h38) (j := (x, y)) (by unfold jOf stepsOf; rw [if_pos (by omega)]; exact Prod.ext (by show _ = x; omega) (by show _ = y; omega))).trans (checked_no1 h48)]
              exact T_ret fun cx_ a_ hI_ => rt hc0 [ps 2 (.opt 0 0), ps 3 (iv 2), pb 0 37 [(iv 0), (iv 0)]] [0] hI_
            refine T_el (decide_eq_false h47) ?_
            refine T_skip <| T_seq <| T_seq ?_
            obtain ⟨x, hx⟩ : ∃ x, x = ((numS (dOf s)).1) - 1 := ⟨_, rfl⟩
            obtain ⟨y, hy⟩ : ∃ y, y = ((12 * ((((numS (dOf s)).1) - 1) / 7)) + (Pi.nat7 ((((numS (dOf s)).1) - 1) % 7))) - (((qOf s).length : Nat) : Int) := ⟨_, rfl⟩
            refine T_wk (Wk.eq (show _ = [ps 0 (sv (st s)), ps 2 (.opt 0 0), ps 11 (.opt 456 0), ps 134 (bv (decide ((((tOf s).length : Nat) : Int) < ((s.length : Nat) : Int)))), pb 0 37 [(iv 0), (iv 0)], pb 456 37 [(iv x), (iv y)]] from by rw [hx, hy])) ?_
            refine T_r mixed [(1, .call [] [(.agg [(iv x), (iv y)])] [] (.tup [(sv (st ((nameS x y).1))), (iv ((nameS x y).2))]) [])] [ps 0 (sv (st s)), ps 2 (.opt 0 0), ps 11 (.opt 456 0), ps 13 (sv (st ((nameS x y).1))), ps 14 (iv ((nameS x y).2)), pb 0 37 [(iv 0), (iv 0)], pb 456 37 [(iv x), (iv y)]] (obs_cons (name_pc x y (by unfold Pi.I64; omega) (by unfold Pi.I64; omega)) (obs_cons (rfl : Ren0 904 [(.agg [(iv x), (iv y)])]) obs_nil)) ?_
            refine T_seq ?_
            by_cases h50 : ((nameS x y).2) = 0
            · refine T_r mixed [(3, .gd false (.no)), (4, .gd false (.no)), (5, .gd false (.val (.av (.bool (!decide (((nameS x y).1) = s)))))), (6, .yes false)] [ps 2 (.opt 0 0), ps 11 (.opt 456 0), ps 154 (bv (!(decide (((nameS x y).1) = s)))), pb 0 37 [(iv 0), (iv 0)], pb 456 37 [(iv x), (iv y)]] (obs_cons (bt h50) (obs_cons (bt h50) (obs_cons (bt h50) (obs_cons (st_ne _ _ : (!((st ((nameS x y).1)).toList == (st s).toList)) = !decide (((nameS x y).1) = s)) (obs_cons (bt h50) obs_nil))))) ?_
              by_cases h51 : ((nameS x y).1) = s
              · refine T_el (bt h51) ?_
                refine T_skip <| T_seq ?_
                refine T_r mixed [] [ps 2 (.opt 0 0), ps 3 (iv 0), pb 0 37 [(iv x), (iv y)]] (obs_nil) ?_
                rw [(named_some (s := s) h1 h2 h3 h4 h5 (val_d (fun c => h6 c.1) (fun c => c.2 h38) (fun c => c.2 h38) h40 h46 h38) (j := (x, y)) (by unfold jOf stepsOf; rw [if_neg (by omega)]; exact Prod.ext (by show _ = x; omega) (by show _ = y; omega))).trans (checked_yes h50 h51)]
                exact T_ret fun cx_ a_ hI_ => rt hc0 [ps 2 (.opt 0 0), ps 3 (iv 0), pb 0 37 [(iv x), (iv y)]] [0] hI_
              refine T_th (bf h51) ?_
              refine T_seq ?_
              refine T_r mixed [] [ps 2 (.opt 0 0), ps 3 (iv 2), pb 0 37 [(iv 0), (iv 0)]] (obs_nil) ?_
              rw [(named_some (s := s) h1 h2 h3 h4 h5 (val_d (fun c => h6 c.1) (fun c => c.2 h38) (fun c => c.2 h38) h40 h46 h38) (j := (x, y)) (by unfold jOf stepsOf; rw [if_neg (by omega)]; exact Prod.ext (by show _ = x; omega) (by show _ = y; omega))).trans (checked_no2 h51)]
              exact T_ret fun cx_ a_ hI_ => rt hc0 [ps 2 (.opt 0 0), ps 3 (iv 2), pb 0 37 [(iv 0), (iv 0)]] [0] hI_
            refine T_r mixed [(3, .gd true .no), (4, .gd true .no), (5, .gd true .no), (6, .yes true)] [ps 2 (.opt 0 0), ps 11 (.opt 456 0), ps 154 (bv true), pb 0 37 [(iv 0), (iv 0)], pb 456 37 [(iv x), (iv y)]] (obs_cons (bf h50) (obs_cons (bf h50) (obs_cons (bf h50) (obs_cons (bf h50) obs_nil)))) ?_
            refine T_then (b := true) rfl rfl ?_
            refine T_seq ?_
            refine T_r mixed [] [ps 2 (.opt 0 0), ps 3 (iv 2), pb 0 37 [(iv 0), (iv 0)]] (obs_nil) ?_
            rw [(named_some (s := s) h1 h2 h3 h4 h5 (val_d (fun c => h6 c.1) (fun c => c.2 h38) (fun c => c.2 h38) h40 h46 h38) (j := (x, y)) (by unfold jOf stepsOf; rw [if_neg (by omega)]; exact Prod.ext (by show _ = x; omega) (by show _ = y; omega))).trans (checked_no1 h50)]
            exact T_ret fun cx_ a_ hI_ => rt hc0 [ps 2 (.opt 0 0), ps 3 (iv 2), pb 0 37 [(iv 0), (iv 0)]] [0] hI_
          refine T_r mixed [(1, .call [] [(sv (st (qOf s))), (sv (st [100]))] [] (sv (st (Lib.trimS (qOf s) [100]))) []), (2, .val (.av (.bool (decide ((Lib.trimS (qOf s) [100]) = ([] : List UInt8)))))), (4, .gd false .no), (5, .gd false .no), (6, .gd false .no), (7, .yes false)] [ps 0 (sv (st s)), ps 2 (.opt 0 0), ps 4 (sv (st (tOf s))), ps 6 (sv (st (qOf s))), ps 11 (.opt 456 0), ps 12 (nv ((qOf s).length)), ps 106 (bv false), pb 0 37 [(iv 0), (iv 0)], pb 456 37 [(iv (((numS (dOf s)).1) - 1)), (iv ((12 * ((((numS (dOf s)).1) - 1) / 7)) + (Pi.nat7 ((((numS (dOf s)).1) - 1) % 7))))]] (obs_cons (trim_pc (qOf s) [100] (by omega) (by decide) (one_ascii (by decide))) (obs_cons (rfl : [(sv (st (qOf s))), (sv (st ([100] : List UInt8)))] = renL (sigi [] 744) [(sv (st (qOf s))), (sv (st [100]))]) (obs_cons (st_eq _ _ : ((st (Lib.trimS (qOf s) [100])).toList == (st ([] : List UInt8)).toList) = decide ((Lib.trimS (qOf s) [100]) = ([] : List UInt8))) (obs_cons (decide_eq_false h46) (obs_cons (decide_eq_false h46) (obs_cons (decide_eq_false h46) (obs_cons (decide_eq_false h46) obs_nil))))))) ?_
          refine T_else (b := false) rfl rfl ?_
          refine T_seq ?_
          refine T_r mixed [(1, .call [] [(sv (st (qOf s))), (sv (st [100]))] [] (sv (st (Lib.trimS (qOf s) [100]))) []), (2, .val (.av (.bool (decide ((Lib.trimS (qOf s) [100]) = ([] : List UInt8))))))] [ps 0 (sv (st s)), ps 2 (.opt 0 0), ps 4 (sv (st (tOf s))), ps 11 (.opt 456 0), ps 12 (nv ((qOf s).length)), ps 120 (bv (decide ((Lib.trimS (qOf s) [100]) = ([] : List UInt8)))), pb 0 37 [(iv 0), (iv 0)], pb 456 37 [(iv (((numS (dOf s)).1) - 1)), (iv ((12 * ((((numS (dOf s)).1) - 1) / 7)) + (Pi.nat7 ((((numS (dOf s)).1) - 1) % 7))))]] (obs_cons (trim_pc (qOf s) [100] (by omega) (by decide) (one_ascii (by decide))) (obs_cons (rfl : [(sv (st (qOf s))), (sv (st ([100] : List UInt8)))] = renL (sigi [] 816) [(sv (st (qOf s))), (sv (st [100]))]) (obs_cons (st_eq _ _ : ((st (Lib.trimS (qOf s) [100])).toList == (st ([] : List UInt8)).toList) = decide ((Lib.trimS (qOf s) [100]) = ([] : List UInt8))) obs_nil))) ?_
          refine T_el (decide_eq_false h46) ?_
          refine T_seq ?_
          refine T_r mixed [] [ps 2 (.opt 0 0), ps 3 (iv 2), pb 0 37 [(iv 0), (iv 0)]] (obs_nil) ?_
          rw [named_none (s := s) h1 h2 h3 h4 h5 (val_no (fun c => h6 c.1) (fun c => c.2 h38) (fun c => c.2 h38) h40 h46)]
          exact T_ret fun cx_ a_ hI_ => rt hc0 [ps 2 (.opt 0 0), ps 3 (iv 2), pb 0 37 [(iv 0), (iv 0)]] [0] hI_
        refine T_r mixed [(1, .val (.av (.bool (decide ((qOf s) = ([109] : List UInt8)))))), (3, .gd false .no), (4, .gd false .no), (5, .gd false .no), (6, .gd false .no), (7, .yes false)] [ps 0 (sv (st s)), ps 2 (.opt 0 0), ps 4 (sv (st (tOf s))), ps 6 (sv (st (qOf s))), ps 7 (iv ((numS (dOf s)).1)), ps 11 (.opt 456 0), ps 12 (nv ((qOf s).length)), ps 84 (bv false), pb 0 37 [(iv 0), (iv 0)], pb 456 37 [(iv (((numS (dOf s)).1) - 1)), (iv ((12 * ((((numS (dOf s)).1) - 1) / 7)) + (Pi.nat7 ((((numS (dOf s)).1) - 1) % 7))))]] (obs_cons (st_eq _ _ : ((st (qOf s)).toList == (st ([109] : List UInt8)).toList) = decide ((qOf s) = ([109] : List UInt8))) (obs_cons (decide_eq_false h39) (obs_cons (decide_eq_false h39) (obs_cons (decide_eq_false h39) (obs_cons (decide_eq_false h39) (obs_cons (decide_eq_false h39) obs_nil)))))) ?_
        refine T_else (b := false) rfl rfl ?_
        refine T_seq ?_
        refine T_r mixed [(1, .call [] [(sv (st (qOf s))), (sv (st [65]))] [] (sv (st (Lib.trimS (qOf s) [65]))) []), (2, .val (.av (.bool (decide ((Lib.trimS (qOf s) [65]) = ([] : List UInt8))))))] [ps 0 (sv (st s)), ps 2 (.opt 0 0), ps 4 (sv (st (tOf s))), ps 6 (sv (st (qOf s))), ps 7 (iv ((numS (dOf s)).1)), ps 11 (.opt 456 0), ps 12 (nv ((qOf s).length)), ps 97 (bv (decide ((Lib.trimS (qOf s) [65]) = ([] : List UInt8)))), pb 0 37 [(iv 0), (iv 0)], pb 456 37 [(iv (((numS (dOf s)).1) - 1)), (iv ((12 * ((((numS (dOf s)).1) - 1) / 7)) + (Pi.nat7 ((((numS (dOf s)).1) - 1) % 7))))]] (obs_cons (trim_pc (qOf s) [65] (by omega) (by decide) (one_ascii (by decide))) (obs_cons (rfl : [(sv (st (qOf s))), (sv (st ([65] : List UInt8)))] = renL (sigi [] 712) [(sv (st (qOf s))), (sv (st [65]))]) (obs_cons (st_eq _ _ : ((st (Lib.trimS (qOf s) [65])).toList == (st ([] : List UInt8)).toList) = decide ((Lib.trimS (qOf s) [65]) = ([] : List UInt8))) obs_nil))) ?_
        by_cases h52 : (Lib.trimS (qOf s) [65]) = ([] : List UInt8)
        · refine T_th (decide_eq_true h52) ?_
          refine T_r mixed [] [ps 0 (sv (st s)), ps 2 (.opt 0 0), ps 4 (sv (st (tOf s))), ps 11 (.opt 456 0), pb 0 37 [(iv 0), (iv 0)], pb 456 37 [(iv (((numS (dOf s)).1) - 1)), (iv (((12 * ((((numS (dOf s)).1) - 1) / 7)) + (Pi.nat7 ((((numS (dOf s)).1) - 1) % 7))) + (((qOf s).length : Nat) : Int)))]] (obs_cons (by simp only [InK]; omega : InK .i64 (((12 * ((((numS (dOf s)).1) - 1) / 7)) + (Pi.nat7 ((((numS (dOf s)).1) - 1) % 7))) + (((qOf s).length : Nat) : Int))) obs_nil) ?_
          refine T_blk <| T_seq <| T_seq ?_
          refine T_r mixed [] [ps 0 (sv (st s)), ps 2 (.opt 0 0), ps 11 (.opt 456 0), ps 134 (bv (decide ((((tOf s).length : Nat) : Int) < ((s.length : Nat) : Int)))), pb 0 37 [(iv 0), (iv 0)], pb 456 37 [(iv (((numS (dOf s)).1) - 1)), (iv (((12 * ((((numS (dOf s)).1) - 1) / 7)) + (Pi.nat7 ((((numS (dOf s)).1) - 1) % 7))) + (((qOf s).length : Nat) : Int)))]] (obs_nil) ?_
          by_cases h53 : (((tOf s).length : Nat) : Int) < ((s.length : Nat) : Int)
          · refine T_th (decide_eq_true h53) ?_
            refine T_r mixed [] [ps 0 (sv (st s)), ps 2 (.opt 0 0), ps 11 (.opt 456 0), pb 0 37 [(iv 0), (iv 0)], pb 456 37 [(iv (0 - (((numS (dOf s)).1) - 1))), (iv (0 - (((12 * ((((numS (dOf s)).1) - 1) / 7)) + (Pi.nat7 ((((numS (dOf s)).1) - 1) % 7))) + (((qOf s).length : Nat) : Int))))]] (obs_cons (by simp only [InK]; omega : InK .i64 (0 - (((numS (dOf s)).1) - 1))) (obs_cons (by simp only [InK]; omega : InK .i64 (0 - (((12 * ((((numS (dOf s)).1) - 1) / 7)) + (Pi.nat7 ((((numS (dOf s)).1) - 1) % 7))) + (((qOf s).length : Nat) : Int)))) obs_nil)) ?_
            refine T_seq <| T_seq ?_
            obtain ⟨x, hx⟩ : ∃ x, x = 0 - (((numS (dOf s)).1) - 1) := ⟨_, rfl⟩
            obtain ⟨y, hy⟩ : ∃ y, y = 0 - (((12 * ((((numS (dOf s)).1) - 1) / 7)) + (Pi.nat7 ((((numS (dOf s)).1) - 1) % 7))) + (((qOf s).length : Nat) : Int)) := ⟨_, rfl⟩
            refine T_wk (Wk.eq (show _ = [ps 0 (sv (st s)), ps 2 (.opt 0 0), ps 11 (.opt 456 0), pb 0 37 [(iv 0), (iv 0)], pb 456 37 [(iv x), (iv y)]] from by rw [hx, hy])) ?_
            refine T_r mixed [(1, .call [] [(.agg [(iv x), (iv y)])] [] (.tup [(sv (st ((nameS x y).1))), (iv ((nameS x y).2))]) [])] [ps 0 (sv (st s)), ps 2 (.opt 0 0), ps 11 (.opt 456 0), ps 13 (sv (st ((nameS x y).1))), ps 14 (iv ((nameS x y).2)), pb 0 37 [(iv 0), (iv 0)], pb 456 37 [(iv x), (iv y)]] (obs_cons (name_pc x y (by unfold Pi.I64; omega) (by unfold Pi.I64; omega)) (obs_cons (rfl : Ren0 912 [(.agg [(iv x), (iv y)])]) obs_nil)) ?_
            refine T_seq ?_
            by_cases h54 : ((nameS x y).2) = 0
            · refine T_r mixed [(3, .gd false (.no)), (4, .gd false (.no)), (5, .gd false (.val (.av (.bool (!decide (((nameS x y).1) = s)))))), (6, .yes false)] [ps 2 (.opt 0 0), ps 11 (.opt 456 0), ps 154 (bv (!(decide (((nameS x y).1) = s)))), pb 0 37 [(iv 0), (iv 0)], pb 456 37 [(iv x), (iv y)]] (obs_cons (bt h54) (obs_cons (bt h54) (obs_cons (bt h54) (obs_cons (st_ne _ _ : (!((st ((nameS x y).1)).toList == (st s).toList)) = !decide (((nameS x y).1) = s)) (obs_cons (bt h54) obs_nil))))) ?_
              by_cases h55 : ((nameS x y).1) = s
              · refine T_el (bt h55) ?_
                refine T_skip <| T_seq ?_
                refine T_r mixed [] [ps 2 (.opt 0 0), ps 3 (iv 0), pb 0 37 [(iv x), (iv y)]] (obs_nil) ?_
                rw [(named_some (s := s) h1 h2 h3 h4 h5 (val_A (fun c => h6 c.1) (fun c => c.2 h38) (fun c => h39 c.1) h52) (j := (x, y)) (by unfold jOf stepsOf; rw [if_pos (by omega)]; exact Prod.ext (by show _ = x; omega) (by show _ = y; omega))).trans (checked_yes h54 h55)]
                exact T_ret fun cx_ a_ hI_ => rt hc0 [ps 2 (.opt 0 0), ps 3 (iv 0), pb 0 37 [(iv x), (iv y)]] [0] hI_
              refine T_th (bf h55) ?_
              refine T_seq ?_
              refine T_r mixed [] [ps 2 (.opt 0 0), ps 3 (iv 2), pb 0 37 [(iv 0), (iv 0)]] (obs_nil) ?_
              rw [(named_some (s := s) h1 h2 h3 h4 h5 (val_A (fun c => h6 c.1) (fun c => c.2 h38) (fun c => h39 c.1) h52) (j := (x, y)) (by unfold jOf stepsOf; rw [if_pos (by omega)]; exact Prod.ext (by show _ = x; omega) (by show _ = y; omega))).trans (checked_no2 h55)]
              exact T_ret fun cx_ a_ hI_ => rt hc0 [ps 2 (.opt 0 0), ps 3 (iv 2), pb 0 37 [(iv 0), (iv 0)]] [0] hI_
            refine T_r mixed [(3, .gd true .no), (4, .gd true .no), (5, .gd true .no), (6, .yes true)] [ps 2 (.opt 0 0), ps 11 (.opt 456 0), ps 154 (bv true), pb 0 37 [(iv 0), (iv 0)], pb 456 37 [(iv x), (iv y)]] (obs_cons (bf h54) (obs_cons (bf h54) (obs_cons (bf h54) (obs_cons (bf h54) obs_nil)))) ?_
            refine T_then (b := true) rfl rfl ?_
            refine T_seq ?_
            refine T_r mixed [] [ps 2 (.opt 0 0), ps 3 (iv 2), pb 0 37 [(iv 0), (iv 0)]] (obs_nil) ?_
            rw [(named_some (s := s) h1 h2 h3 h4 h5 (val_A (fun c => h6 c.1) (fun c => c.2 h38) (fun c => h39 c.1) h52) (j := (x, y)) (by unfold jOf stepsOf; rw [if_pos (by omega)]; exact Prod.ext (by show _ = x; omega) (by show _ = y; omega))).trans (checked_no1 h54)]
            exact T_ret fun cx_ a_ hI_ => rt hc0 [ps 2 (.opt 0 0), ps 3 (iv 2), pb 0 37 [(iv 0), (iv 0)]] [0] hI_
          refine T_el (decide_eq_false h53) ?_
          refine T_skip <| T_seq <| T_seq ?_
          obtain ⟨x, hx⟩ : ∃ x, x = ((numS (dOf s)).1) - 1 := ⟨_, rfl⟩
          obtain ⟨y, hy⟩ : ∃ y, y = ((12 * ((((numS (dOf s)).1) - 1) / 7)) + (Pi.nat7 ((((numS (dOf s)).1) - 1) % 7))) + (((qOf s).length : Nat) : Int) := ⟨_, rfl⟩
          refine T_wk (Wk.eq (show _ = [ps 0 (sv (st s)), ps 2 (.opt 0 0), ps 11 (.opt 456 0), ps 134 (bv (decide ((((tOf s).length : Nat) : Int) < ((s.length : Nat) : Int)))), pb 0 37 [(iv 0), (iv 0)], pb 456 37 [(iv x), (iv y)]] from by rw [hx, hy])) ?_
          refine T_r mixed [(1, .call [] [(.agg [(iv x), (iv y)])] [] (.tup [(sv (st ((nameS x y).1))), (iv ((nameS x y).2))]) [])] [ps 0 (sv (st s)), ps 2 (.opt 0 0), ps 11 (.opt 456 0), ps 13 (sv (st ((nameS x y).1))), ps 14 (iv ((nameS x y).2)), pb 0 37 [(iv 0), (iv 0)], pb 456 37 [(iv x), (iv y)]] (obs_cons (name_pc x y (by unfold Pi.I64; omega) (by unfold Pi.I64; omega)) (obs_cons (rfl : Ren0 832 [(.agg [(iv x), (iv y)])]) obs_nil)) ?_
          refine T_seq ?_
          by_cases h56 : ((nameS x y).2) = 0
          · refine T_r mixed [(3, .gd false (.no)), (4, .gd false (.no)), (5, .gd false (.val (.av (.bool (!decide (((nameS x y).1) = s)))))), (6, .yes false)] [ps 2 (.opt 0 0), ps 11 (.opt 456 0), ps 154 (bv (!(decide (((nameS x y).1) = s)))), pb 0 37 [(iv 0), (iv 0)], pb 456 37 [(iv x), (iv y)]] (obs_cons (bt h56) (obs_cons (bt h56) (obs_cons (bt h56) (obs_cons (st_ne _ _ : (!((st ((nameS x y).1)).toList == (st s).toList)) = !decide (((nameS x y).1) = s)) (obs_cons (bt h56) obs_nil))))) ?_
            by_cases h57 : ((nameS x y).1) = s
            · refine T_el (bt h57) ?_
              refine T_skip <| T_seq ?_
              refine T_r mixed [] [ps 2 (.opt 0 0), ps 3 (iv 0), pb 0 37 [(iv x), (iv y)]] (obs_nil) ?_
              rw [(named_some (s := s) h1 h2 h3 h4 h5 (val_A (fun c => h6 c.1) (fun c => c.2 h38) (fun c => h39 c.1) h52) (j := (x, y)) (by unfold jOf stepsOf; rw [if_neg (by omega)]; exact Prod.ext (by show _ = x; omega) (by show _ = y; omega))).trans (checked_yes h56 h57)]
              exact T_ret fun cx_ a_ hI_ => rt hc0 [ps 2 (.opt 0 0), ps 3 (iv 0), pb 0 37 [(iv x), (iv y)]] [0] hI_
            refine T_th (bf h57) ?_
            refine T_seq ?_
            refine T_r mixed [] [ps 2 (.opt 0 0), ps 3 (iv 2), pb 0 37 [(iv 0), (iv 0)]] (obs_nil) ?_
            rw [(named_some (s := s) h1 h2 h3 h4 h5 (val_A (fun c => h6 c.1) (fun c => c.2 h38) (fun c => h39 c.1) h52) (j := (x, y)) (by unfold jOf stepsOf; rw [if_neg (by omega)]; exact Prod.ext (by show _ = x; omega) (by show _ = y; omega))).trans (checked_no2 h57)]
            exact T_ret fun cx_ a_ hI_ => rt hc0 [ps 2 (.opt 0 0), ps 3 (iv 2), pb 0 37 [(iv 0), (iv 0)]] [0] hI_
          refine T_r mixed [(3, .gd true .no), (4, .gd true .no), (5, .gd true .no), (6, .yes true)] [ps 2 (.opt 0 0), ps 11 (.opt 456 0), ps 154 (bv true), pb 0 37 [(iv 0), (iv 0)], pb 456 37 [(iv x), (iv y)]] (obs_cons (bf h56) (obs_cons (bf h56) (obs_cons (bf h56) (obs_cons (bf h56) obs_nil)))) ?_
          refine T_then (b := true) rfl rfl ?_
          refine T_seq ?_
          refine T_r mixed [] [ps 2 (.opt 0 0), ps 3 (iv 2), pb 0 37 [(iv 0), (iv 0)]] (obs_nil) ?_
          rw [(named_some (s := s) h1 h2 h3 h4 h5 (val_A (fun c => h6 c.1) (fun c => c.2 h38) (fun c => h39 c.1) h52) (j := (x, y)) (by unfold jOf stepsOf; rw [if_neg (by omega)]; exact Prod.ext (by show _ = x; omega) (by show _ = y; omega))).trans (checked_no1 h56)]
          exact T_ret fun cx_ a_ hI_ => rt hc0 [ps 2 (.opt 0 0), ps 3 (iv 2), pb 0 37 [(iv 0), (iv 0)]] [0] hI_
        refine T_el (decide_eq_false h52) ?_
        refine T_seq ?_
        by_cases h58 : (Lib.trimS (qOf s) [100]) = ([] : List UInt8)
        · refine T_r mixed [(1, .call [] [(sv (st (qOf s))), (sv (st [100]))] [] (sv (st (Lib.trimS (qOf s) [100]))) []), (2, .val (.av (.bool (decide ((Lib.trimS (qOf s) [100]) = ([] : List UInt8)))))), (4, .gd true (.no)), (5, .gd true (.no)), (6, .gd true (.call [] [(iv (((numS (dOf s)).1) - 1))] [] (bv (perfB (((numS (dOf s)).1) - 1))) [])), (7, .yes true)] [ps 0 (sv (st s)), ps 2 (.opt 0 0), ps 4 (sv (st (tOf s))), ps 6 (sv (st (qOf s))), ps 11 (.opt 456 0), ps 12 (nv ((qOf s).length)), ps 106 (bv (perfB (((numS (dOf s)).1) - 1))), pb 0 37 [(iv 0), (iv 0)], pb 456 37 [(iv (((numS (dOf s)).1) - 1)), (iv ((12 * ((((numS (dOf s)).1) - 1) / 7)) + (Pi.nat7 ((((numS (dOf s)).1) - 1) % 7))))]] (obs_cons (trim_pc (qOf s) [100] (by omega) (by decide) (one_ascii (by decide))) (obs_cons (rfl : [(sv (st (qOf s))), (sv (st ([100] : List UInt8)))] = renL (sigi [] 744) [(sv (st (qOf s))), (sv (st [100]))]) (obs_cons (st_eq _ _ : ((st (Lib.trimS (qOf s) [100])).toList == (st ([] : List UInt8)).toList) = decide ((Lib.trimS (qOf s) [100]) = ([] : List UInt8))) (obs_cons (decide_eq_true h58) (obs_cons (decide_eq_true h58) (obs_cons (by simp only [InK]; omega : InK .i64 (((numS (dOf s)).1) - 1)) (obs_cons (decide_eq_true h58) (obs_cons (perfect_pc (((numS (dOf s)).1) - 1) (by omega)) (obs_cons (rfl : Ren0 784 [(iv (((numS (dOf s)).1) - 1))]) (obs_cons (decide_eq_true h58) obs_nil)))))))))) ?_
          refine T_then (b := (perfB (((numS (dOf s)).1) - 1))) rfl h38 ?_
          refine T_r mixed [] [ps 0 (sv (st s)), ps 2 (.opt 0 0), ps 4 (sv (st (tOf s))), ps 11 (.opt 456 0), pb 0 37 [(iv 0), (iv 0)], pb 456 37 [(iv (((numS (dOf s)).1) - 1)), (iv (((12 * ((((numS (dOf s)).1) - 1) / 7)) + (Pi.nat7 ((((numS (dOf s)).1) - 1) % 7))) - (((qOf s).length : Nat) : Int)))]] (obs_cons (by simp only [InK]; omega : InK .i64 (((12 * ((((numS (dOf s)).1) - 1) / 7)) + (Pi.nat7 ((((numS (dOf s)).1) - 1) % 7))) - (((qOf s).length : Nat) : Int))) obs_nil) ?_
          refine T_blk <| T_seq <| T_seq ?_
          refine T_r mixed [] [ps 0 (sv (st s)), ps 2 (.opt 0 0), ps 11 (.opt 456 0), ps 134 (bv (decide ((((tOf s).length : Nat) : Int) < ((s.length : Nat) : Int)))), pb 0 37 [(iv 0), (iv 0)], pb 456 37 [(iv (((numS (dOf s)).1) - 1)), (iv (((12 * ((((numS (dOf s)).1) - 1) / 7)) + (Pi.nat7 ((((numS (dOf s)).1) - 1) % 7))) - (((qOf s).length : Nat) : Int)))]] (obs_nil) ?_
          by_cases h59 : (((tOf s).length : Nat) : Int) < ((s.length : Nat) : Int)
          · refine T_th (decide_eq_true h59) ?_
            refine T_r mixed [] [ps 0 (sv (st s)), ps 2 (.opt 0 0), ps 11 (.opt 456 0), pb 0 37 [(iv 0), (iv 0)], pb 456 37 [(iv (0 - (((numS (dOf s)).1) - 1))), (iv (0 - (((12 * ((((numS (dOf s)).1) - 1) / 7)) + (Pi.nat7 ((((numS (dOf s)).1) - 1) % 7))) - (((qOf s).length : Nat) : Int))))]] (obs_cons (by simp only [InK]; omega : InK .i64 (0 - (((numS (dOf s)).1) - 1))) (obs_cons (by simp only [InK]; omega : InK .i64 (0 - (((12 * ((((numS (dOf s)).1) - 1) / 7)) + (Pi.nat7 ((((numS (dOf s)).1) - 1) % 7))) - (((qOf s).length : Nat) : Int)))) obs_nil)) ?_
            refine T_seq <| T_seq ?_
            obtain ⟨x, hx⟩ : ∃ x, x = 0 - (((numS (dOf s)).1) - 1) := ⟨_, rfl⟩
            obtain ⟨y, hy⟩ : ∃ y, y = 0 - (((12 * ((((numS (dOf s)).1) - 1) / 7)) + (Pi.nat7 ((((numS (dOf s)).1) - 1) % 7))) - (((qOf s).length : Nat) : Int)) := ⟨_, rfl⟩
            refine T_wk (Wk.eq (show _ = [ps 0 (sv (st s)), ps 2 (.opt 0 0), ps 11 (.opt 456 0), pb 0 37 [(iv 0), (iv 0)], pb 456 37 [(iv x), (iv y)]] from by rw [hx, hy])) ?_
            refine T_r mixed [(1, .call [] [(.agg [(iv x), (iv y)])] [] (.tup [(sv (st ((nameS x y).1))), (iv ((nameS x y).2))]) [])] [ps 0 (sv (st s)), ps 2 (.opt 0 0), ps 11 (.opt 456 0), ps 13 (sv (st ((nameS x y).1))), ps 14 (iv ((nameS x y).2)), pb 0 37 [(iv 0), (iv 0)], pb 456 37 [(iv x), (iv y)]] (obs_cons (name_pc x y (by unfold Pi.I64; omega) (by unfold Pi.I64; omega)) (obs_cons (rfl : Ren0 984 [(.agg [(iv x), (iv y)])]) obs_nil)) ?_
            refine T_seq ?_
            by_cases h60 : ((nameS x y).2) = 0
            · refine T_r mixed [(3, .gd false (.no)), (4, .gd false (.no)), (5, .gd false (.val (.av (.bool (!decide (((nameS x y).1) = s)))))), (6, .yes false)] [ps 2 (.opt 0 0), ps 11 (.opt 456 0), ps 154 (bv (!(decide (((nameS x y).1) = s)))), pb 0 37 [(iv 0), (iv 0)], pb 456 37 [(iv x), (iv y)]] (obs_cons (bt h60) (obs_cons (bt h60) (obs_cons (bt h60) (obs_cons (st_ne _ _ : (!((st ((nameS x y).1)).toList == (st s).toList)) = !decide (((nameS x y).1) = s)) (obs_cons (bt h60) obs_nil))))) ?_
              by_cases h61 : ((nameS x y).1) = s
              · refine T_el (bt h61) ?_
                refine T_skip <| T_seq ?_
                refine T_r mixed [] [ps 2 (.opt 0 0), ps 3 (iv 0), pb 0 37 [(iv x), (iv y)]] (obs_nil) ?_
                rw [(named_some (s := s) h1 h2 h3 h4 h5 (val_d (fun c => h6 c.1) (fun c => c.2 h38) (fun c => h39 c.1) h52 h58 h38) (j := (x, y)) (by unfold jOf stepsOf; rw [if_pos (by omega)]; exact Prod.ext (by show _ = x; omega) (by show _ = y; omega))).trans (checked_yes h60 h61)]
                exact T_ret fun cx_ a_ hI_ => rt hc0 [ps 2 (.opt 0 0), ps 3 (iv 0), pb 0 37 [(iv x), (iv y)]] [0] hI_
              refine T_th (bf h61) ?_
              refine T_seq ?_
              refine T_r mixed [] [ps 2 (.opt 0 0), ps 3 (iv 2), pb 0 37 [(iv 0), (iv 0)]] (obs_nil) ?_
              rw [(named_some (s := s) h1 h2 h3 h4 h5 (val_d (fun c => h6 c.1) (fun c => c.2 h38) (fun c => h39 c.1) h52 h58 h38) (j := (x, y)) (by unfold jOf stepsOf; rw [if_pos (by omega)]; exact Prod.ext (by show _ = x; omega) (by show _ = y; omega))).trans (checked_no2 h61)]
              exact T_ret fun cx_ a_ hI_ => rt hc0 [ps 2 (.opt 0 0), ps 3 (iv 2), pb 0 37 [(iv 0), (iv 0)]] [0] hI_
            refine T_r mixed [(3, .gd true .no), (4, .gd true .no), (5, .gd true .no), (6, .yes true)] [ps 2 (.opt 0 0), ps 11 (.opt 456 0), ps 154 (bv true), pb 0 37 [(iv 0), (iv 0)], pb 456 37 [(iv x), (iv y)]] (obs_cons (bf h60) (obs_cons (bf h60) (obs_cons (bf h60) (obs_cons (bf h60) obs_nil)))) ?_
            refine T_then (b := true) rfl rfl ?_
            refine T_seq ?_
            refine T_r mixed [] [ps 2 (.opt 0 0), ps 3 (iv 2), pb 0 37 [(iv 0), (iv 0)]] (obs_nil) ?_
            rw [(named_some (s := s) h1 h2 h3 h4 h5 (val_d (fun c => h6 c.1) (fun c => c.2 h38) (fun c => h39 c.1) h52 h58 h38) (j := (x, y)) (by unfold jOf stepsOf; rw [if_pos (by omega)]; exact Prod.ext (by show _ = x; omega) (by show _ = y; omega))).trans (checked_no1 h60)]
            exact T_ret fun cx_ a_ hI_ => rt hc0 [ps 2 (.opt 0 0), ps 3 (iv 2), pb 0 37 [(iv 0), (iv 0)]] [0] hI_
          refine T_el (decide_eq_false h59) ?_
          refine T_skip <| T_seq <| T_seq ?_
          obtain ⟨x, hx⟩ : ∃ x, x = ((numS (dOf s)).1) - 1 := ⟨_, rfl⟩
          obtain ⟨y, hy⟩ : ∃ y, y = ((12 * ((((numS (dOf s)).1) - 1) / 7)) + (Pi.nat7 ((((numS (dOf s)).1) - 1) % 7))) - (((qOf s).length : Nat) : Int) := ⟨_, rfl⟩
          refine T_wk (Wk.eq (show _ = [ps 0 (sv (st s)), ps 2 (.opt 0 0), ps 11 (.opt 456 0), ps 134 (bv (decide ((((tOf s).length : Nat) : Int) < ((s.length : Nat) : Int)))), pb 0 37 [(iv 0), (iv 0)], pb 456 37 [(iv x), (iv y)]] from by rw [hx, hy])) ?_
          refine T_r mixed [(1, .call [] [(.agg [(iv x), (iv y)])] [] (.tup [(sv (st ((nameS x y).1))), (iv ((nameS x y).2))]) [])] [ps 0 (sv (st s)), ps 2 (.opt 0 0), ps 11 (.opt 456 0), ps 13 (sv (st ((nameS x y).1))), ps 14 (iv ((nameS x y).2)), pb 0 37 [(iv 0), (iv 0)], pb 456 37 [(iv x), (iv y)]] (obs_cons (name_pc x y (by unfold Pi.I64; omega) (by unfold Pi.I64; omega)) (obs_cons (rfl : Ren0 904 [(.agg [(iv x), (iv y)])]) obs_nil)) ?_
          refine T_seq ?_
          by_cases h62 : ((nameS x y).2) = 0
          · refine T_r mixed [(3, .gd false (.no)), (4, .gd false (.no)), (5, .gd false (.val (.av (.bool (!decide (((nameS x y).1) = s)))))), (6, .yes false)] [ps 2 (.opt 0 0), ps 11 (.opt 456 0), ps 154 (bv (!(decide (((nameS x y).1) = s)))), pb 0 37 [(iv 0), (iv 0)], pb 456 37 [(iv x), (iv y)]] (obs_cons (bt h62) (obs_cons (bt h62) (obs_cons (bt h62) (obs_cons (st_ne _ _ : (!((st ((nameS x y).1)).toList == (st s).toList)) = !decide (((nameS x y).1) = s)) (obs_cons (bt h62) obs_nil))))) ?_
            by_cases h63 : ((nameS x y).1) = s
            · refine T_el (bt h63) ?_
              refine T_skip <| T_seq ?_
              refine T_r mixed [] [ps 2 (.opt 0 0), ps 3 (iv 0), pb 0 37 [(iv x), (iv y)]] (obs_nil) ?_
              rw [(named_some (s := s) h1 h2 h3 h4 h5 (val_d (fun c => h6 c.1) (fun c => c.2 h38) (fun c => h39 c.1) h52 h58 h38) (j := (x, y)) (by unfold jOf stepsOf; rw [if_neg (by omega)]; exact Prod.ext (by show _ = x; omega) (by show _ = y; omega))).trans (checked_yes h62 h63)]
              exact T_ret fun cx_ a_ hI_ => rt hc0 [ps 2 (.opt 0 0), ps 3 (iv 0), pb 0 37 [(iv x), (iv y)]] [0] hI_
            refine T_th (bf h63) ?_
            refine T_seq ?_
            refine T_r mixed [] [ps 2 (.opt 0 0), ps 3 (iv 2), pb 0 37 [(iv 0), (iv 0)]] (obs_nil) ?_
            rw [(named_some (s := s) h1 h2 h3 h4 h5 (val_d (fun c => h6 c.1) (fun c => c.2 h38) (fun c => h39 c.1) h52 h58 h38) (j := (x, y)) (by unfold jOf stepsOf; rw [if_neg (by omega)]; exact Prod.ext (by show _ = x; omega) (by show _ = y; omega))).trans (checked_no2 h63)]
            exact T_ret fun cx_ a_ hI_ => rt hc0 [ps 2 (.opt 0 0), ps 3 (iv 2), pb 0 37 [(iv 0), (iv 0)]] [0] hI_
          refine T_r mixed [(3, .gd true .no), (4, .gd true .no), (5, .gd true .no), (6, .yes true)] [ps 2 (.opt 0 0), ps 11 (.opt 456 0), ps 154 (bv true), pb 0 37 [(iv 0), (iv 0)], pb 456 37 [(iv x), (iv y)]] (obs_cons (bf h62) (obs_cons (bf h62) (obs_cons (bf h62) (obs_cons (bf h62) obs_nil)))) ?_
          refine T_then (b := true) rfl rfl ?_
          refine T_seq ?_
          refine T_r mixed [] [ps 2 (.opt 0 0), ps 3 (iv 2), pb 0 37 [(iv 0), (iv 0)]] (obs_nil) ?_
          rw [(named_some (s := s) h1 h2 h3 h4 h5 (val_d (fun c => h6 c.1) (fun c => c.2 h38) (fun c => h39 c.1) h52 h58 h38) (j := (x, y)) (by unfold jOf stepsOf; rw [if_neg (by omega)]; exact Prod.ext (by show _ = x; omega) (by show _ = y; omega))).trans (checked_no1 h62)]
          exact T_ret fun cx_ a_ hI_ => rt hc0 [ps 2 (.opt 0 0), ps 3 (iv 2), pb 0 37 [(iv 0), (iv 0)]] [0] hI_
        refine T_r mixed [(1, .call [] [(sv (st (qOf s))), (sv (st [100]))] [] (sv (st (Lib.trimS (qOf s) [100]))) []), (2, .val (.av (.bool (decide ((Lib.trimS (qOf s) [100]) = ([] : List UInt8)))))), (4, .gd false .no), (5, .gd false .no), (6, .gd false .no), (7, .yes false)] [ps 0 (sv (st s)), ps 2 (.opt 0 0), ps 4 (sv (st (tOf s))), ps 6 (sv (st (qOf s))), ps 11 (.opt 456 0), ps 12 (nv ((qOf s).length)), ps 106 (bv false), pb 0 37 [(iv 0), (iv 0)], pb 456 37 [(iv (((numS (dOf s)).1) - 1)), (iv ((12 * ((((numS (dOf s)).1) - 1) / 7)) + (Pi.nat7 ((((numS (dOf s)).1) - 1) % 7))))]] (obs_cons (trim_pc (qOf s) [100] (by omega) (by decide) (one_ascii (by decide))) (obs_cons (rfl : [(sv (st (qOf s))), (sv (st ([100] : List UInt8)))] = renL (sigi [] 744) [(sv (st (qOf s))), (sv (st [100]))]) (obs_cons (st_eq _ _ : ((st (Lib.trimS (qOf s) [100])).toList == (st ([] : List UInt8)).toList) = decide ((Lib.trimS (qOf s) [100]) = ([] : List UInt8))) (obs_cons (decide_eq_false h58) (obs_cons (decide_eq_false h58) (obs_cons (decide_eq_false h58) (obs_cons (decide_eq_false h58) obs_nil))))))) ?_
        refine T_else (b := false) rfl rfl ?_
        refine T_seq ?_
        refine T_r mixed [(1, .call [] [(sv (st (qOf s))), (sv (st [100]))] [] (sv (st (Lib.trimS (qOf s) [100]))) []), (2, .val (.av (.bool (decide ((Lib.trimS (qOf s) [100]) = ([] : List UInt8))))))] [ps 0 (sv (st s)), ps 2 (.opt 0 0), ps 4 (sv (st (tOf s))), ps 11 (.opt 456 0), ps 12 (nv ((qOf s).length)), ps 120 (bv (decide ((Lib.trimS (qOf s) [100]) = ([] : List UInt8)))), pb 0 37 [(iv 0), (iv 0)], pb 456 37 [(iv (((numS (dOf s)).1) - 1)), (iv ((12 * ((((numS (dOf s)).1) - 1) / 7)) + (Pi.nat7 ((((numS (dOf s)).1) - 1) % 7))))]] (obs_cons (trim_pc (qOf s) [100] (by omega) (by decide) (one_ascii (by decide))) (obs_cons (rfl : [(sv (st (qOf s))), (sv (st ([100] : List UInt8)))] = renL (sigi [] 816) [(sv (st (qOf s))), (sv (st [100]))]) (obs_cons (st_eq _ _ : ((st (Lib.trimS (qOf s) [100])).toList == (st ([] : List UInt8)).toList) = decide ((Lib.trimS (qOf s) [100]) = ([] : List UInt8))) obs_nil))) ?_
        refine T_el (decide_eq_false h58) ?_
        refine T_seq ?_
        refine T_r mixed [] [ps 2 (.opt 0 0), ps 3 (iv 2), pb 0 37 [(iv 0), (iv 0)]] (obs_nil) ?_
        rw [named_none (s := s) h1 h2 h3 h4 h5 (val_no (fun c => h6 c.1) (fun c => c.2 h38) (fun c => h39 c.1) h52 h58)]
        exact T_ret fun cx_ a_ hI_ => rt hc0 [ps 2 (.opt 0 0), ps 3 (iv 2), pb 0 37 [(iv 0), (iv 0)]] [0] hI_
      refine T_th (congrArg Bool.not (Bool.eq_false_iff.2 h38)) ?_
      refine T_skip <| T_blk <| T_seq <| T_seq ?_
      refine T_r mixed [] [ps 0 (sv (st s)), ps 2 (.opt 0 0), ps 11 (.opt 456 0), ps 134 (bv (decide ((((tOf s).length : Nat) : Int) < ((s.length : Nat) : Int)))), pb 0 37 [(iv 0), (iv 0)], pb 456 37 [(iv (((numS (dOf s)).1) - 1)), (iv ((12 * ((((numS (dOf s)).1) - 1) / 7)) + (Pi.nat7 ((((numS (dOf s)).1) - 1) % 7))))]] (obs_nil) ?_
      by_cases h64 : (((tOf s).length : Nat) : Int) < ((s.length : Nat) : Int)
      · refine T_th (decide_eq_true h64) ?_
        refine T_r mixed [] [ps 0 (sv (st s)), ps 2 (.opt 0 0), ps 11 (.opt 456 0), pb 0 37 [(iv 0), (iv 0)], pb 456 37 [(iv (0 - (((numS (dOf s)).1) - 1))), (iv (0 - ((12 * ((((numS (dOf s)).1) - 1) / 7)) + (Pi.nat7 ((((numS (dOf s)).1) - 1) % 7)))))]] (obs_cons (by simp only [InK]; omega : InK .i64 (0 - (((numS (dOf s)).1) - 1))) (obs_cons (by simp only [InK]; omega : InK .i64 (0 - ((12 * ((((numS (dOf s)).1) - 1) / 7)) + (Pi.nat7 ((((numS (dOf s)).1) - 1) % 7))))) obs_nil)) ?_
        refine T_seq <| T_seq ?_
        obtain ⟨x, hx⟩ : ∃ x, x = 0 - (((numS (dOf s)).1) - 1) := ⟨_, rfl⟩
        obtain ⟨y, hy⟩ : ∃ y, y = 0 - ((12 * ((((numS (dOf s)).1) - 1) / 7)) + (Pi.nat7 ((((numS (dOf s)).1) - 1) % 7))) := ⟨_, rfl⟩
        refine T_wk (Wk.eq (show _ = [ps 0 (sv (st s)), ps 2 (.opt 0 0), ps 11 (.opt 456 0), pb 0 37 [(iv 0), (iv 0)], pb 456 37 [(iv x), (iv y)]] from by rw [hx, hy])) ?_
        refine T_r mixed [(1, .call [] [(.agg [(iv x), (iv y)])] [] (.tup [(sv (st ((nameS x y).1))), (iv ((nameS x y).2))]) [])] [ps 0 (sv (st s)), ps 2 (.opt 0 0), ps 11 (.opt 456 0), ps 13 (sv (st ((nameS x y).1))), ps 14 (iv ((nameS x y).2)), pb 0 37 [(iv 0), (iv 0)], pb 456 37 [(iv x), (iv y)]] (obs_cons (name_pc x y (by unfold Pi.I64; omega) (by unfold Pi.I64; omega)) (obs_cons (rfl : Ren0 760 [(.agg [(iv x), (iv y)])]) obs_nil)) ?_
        refine T_seq ?_
        by_cases h65 : ((nameS x y).2) = 0
        · refine T_r mixed [(3, .gd false (.no)), (4, .gd false (.no)), (5, .gd false (.val (.av (.bool (!decide (((nameS x y).1) = s)))))), (6, .yes false)] [ps 2 (.opt 0 0), ps 11 (.opt 456 0), ps 154 (bv (!(decide (((nameS x y).1) = s)))), pb 0 37 [(iv 0), (iv 0)], pb 456 37 [(iv x), (iv y)]] (obs_cons (bt h65) (obs_cons (bt h65) (obs_cons (bt h65) (obs_cons (st_ne _ _ : (!((st ((nameS x y).1)).toList == (st s).toList)) = !decide (((nameS x y).1) = s)) (obs_cons (bt h65) obs_nil))))) ?_
          by_cases h66 : ((nameS x y).1) = s
          · refine T_el (bt h66) ?_
            refine T_skip <| T_seq ?_
            refine T_r mixed [] [ps 2 (.opt 0 0), ps 3 (iv 0), pb 0 37 [(iv x), (iv y)]] (obs_nil) ?_
            rw [(named_some (s := s) h1 h2 h3 h4 h5 (val_M h37 h38) (j := (x, y)) (by unfold jOf stepsOf; rw [if_pos (by omega)]; exact Prod.ext (by show _ = x; omega) (by show _ = y; omega))).trans (checked_yes h65 h66)]
            exact T_ret fun cx_ a_ hI_ => rt hc0 [ps 2 (.opt 0 0), ps 3 (iv 0), pb 0 37 [(iv x), (iv y)]] [0] hI_
          refine T_th (bf h66) ?_
          refine T_seq ?_
          refine T_r mixed [] [ps 2 (.opt 0 0), ps 3 (iv 2), pb 0 37 [(iv 0), (iv 0)]] (obs_nil) ?_
          rw [(named_some (s := s) h1 h2 h3 h4 h5 (val_M h37 h38) (j := (x, y)) (by unfold jOf stepsOf; rw [if_pos (by omega)]; exact Prod.ext (by show _ = x; omega) (by show _ = y; omega))).trans (checked_no2 h66)]
          exact T_ret fun cx_ a_ hI_ => rt hc0 [ps 2 (.opt 0 0), ps 3 (iv 2), pb 0 37 [(iv 0), (iv 0)]] [0] hI_
        refine T_r mixed [(3, .gd true .no), (4, .gd true .no), (5, .gd true .no), (6, .yes true)] [ps 2 (.opt 0 0), ps 11 (.opt 456 0), ps 154 (bv true), pb 0 37 [(iv 0), (iv 0)], pb 456 37 [(iv x), (iv y)]] (obs_cons (bf h65) (obs_cons (bf h65) (obs_cons (bf h65) (obs_cons (bf h65) obs_nil)))) ?_
        refine T_then (b := true) rfl rfl ?_
        refine T_seq ?_
        refine T_r mixed [] [ps 2 (.opt 0 0), ps 3 (iv 2), pb 0 37 [(iv 0), (iv 0)]] (obs_nil) ?_
        rw [(named_some (s := s) h1 h2 h3 h4 h5 (val_M h37 h38) (j := (x, y)) (by unfold jOf stepsOf; rw [if_pos (by omega)]; exact Prod.ext (by show _ = x; omega) (by show _ = y; omega))).trans (checked_no1 h65)]
        exact T_ret fun cx_ a_ hI_ => rt hc0 [ps 2 (.opt 0 0), ps 3 (iv 2), pb 0 37 [(iv 0), (iv 0)]] [0] hI_
      refine T_el (decide_eq_false h64) ?_
      refine T_skip <| T_seq <| T_seq ?_
      obtain ⟨x, hx⟩ : ∃ x, x = ((numS (dOf s)).1) - 1 := ⟨_, rfl⟩
      obtain ⟨y, hy⟩ : ∃ y, y = (12 * ((((numS (dOf s)).1) - 1) / 7)) + (Pi.nat7 ((((numS (dOf s)).1) - 1) % 7)) := ⟨_, rfl⟩
      refine T_wk (Wk.eq (show _ = [ps 0 (sv (st s)), ps 2 (.opt 0 0), ps 11 (.opt 456 0), ps 134 (bv (decide ((((tOf s).length : Nat) : Int) < ((s.length : Nat) : Int)))), pb 0 37 [(iv 0), (iv 0)], pb 456 37 [(iv x), (iv y)]] from by rw [hx, hy])) ?_
      refine T_r mixed [(1, .call [] [(.agg [(iv x), (iv y)])] [] (.tup [(sv (st ((nameS x y).1))), (iv ((nameS x y).2))]) [])] [ps 0 (sv (st s)), ps 2 (.opt 0 0), ps 11 (.opt 456 0), ps 13 (sv (st ((nameS x y).1))), ps 14 (iv ((nameS x y).2)), pb 0 37 [(iv 0), (iv 0)], pb 456 37 [(iv x), (iv y)]] (obs_cons (name_pc x y (by unfold Pi.I64; omega) (by unfold Pi.I64; omega)) (obs_cons (rfl : Ren0 680 [(.agg [(iv x), (iv y)])]) obs_nil)) ?_
      refine T_seq ?_
      by_cases h67 : ((nameS x y).2) = 0
      · refine T_r mixed [(3, .gd false (.no)), (4, .gd false (.no)), (5, .gd false (.val (.av (.bool (!decide (((nameS x y).1) = s)))))), (6, .yes false)] [ps 2 (.opt 0 0), ps 11 (.opt 456 0), ps 154 (bv (!(decide (((nameS x y).1) = s)))), pb 0 37 [(iv 0), (iv 0)], pb 456 37 [(iv x), (iv y)]] (obs_cons (bt h67) (obs_cons (bt h67) (obs_cons (bt h67) (obs_cons (st_ne _ _ : (!((st ((nameS x y).1)).toList == (st s).toList)) = !decide (((nameS x y).1) = s)) (obs_cons (bt h67) obs_nil))))) ?_
        by_cases h68 : ((nameS x y).1) = s
        · refine T_el (bt h68) ?_
          refine T_skip <| T_seq ?_
          refine T_r mixed [] [ps 2 (.opt 0 0), ps 3 (iv 0), pb 0 37 [(iv x), (iv y)]] (obs_nil) ?_
          rw [(named_some (s := s) h1 h2 h3 h4 h5 (val_M h37 h38) (j := (x, y)) (by unfold jOf stepsOf; rw [if_neg (by omega)]; exact Prod.ext (by show _ = x; omega) (by show _ = y; omega))).trans (checked_yes h67 h68)]
          exact T_ret fun cx_ a_ hI_ => rt hc0 [ps 2 (.opt 0 0), ps 3 (iv 0), pb 0 37 [(iv x), (iv y)]] [0] hI_
        refine T_th (bf h68) ?_
        refine T_seq ?_
        refine T_r mixed [] [ps 2 (.opt 0 0), ps 3 (iv 2), pb 0 37 [(iv 0), (iv 0)]] (obs_nil) ?_
        rw [(named_some (s := s) h1 h2 h3 h4 h5 (val_M h37 h38) (j := (x, y)) (by unfold jOf stepsOf; rw [if_neg (by omega)]; exact Prod.ext (by show _ = x; omega) (by show _ = y; omega))).trans (checked_no2 h68)]
        exact T_ret fun cx_ a_ hI_ => rt hc0 [ps 2 (.opt 0 0), ps 3 (iv 2), pb 0 37 [(iv 0), (iv 0)]] [0] hI_
      refine T_r mixed [(3, .gd true .no), (4, .gd true .no), (5, .gd true .no), (6, .yes true)] [ps 2 (.opt 0 0), ps 11 (.opt 456 0), ps 154 (bv true), pb 0 37 [(iv 0), (iv 0)], pb 456 37 [(iv x), (iv y)]] (obs_cons (bf h67) (obs_cons (bf h67) (obs_cons (bf h67) (obs_cons (bf h67) obs_nil)))) ?_
      refine T_then (b := true) rfl rfl ?_
      refine T_seq ?_
      refine T_r mixed [] [ps 2 (.opt 0 0), ps 3 (iv 2), pb 0 37 [(iv 0), (iv 0)]] (obs_nil) ?_
      rw [(named_some (s := s) h1 h2 h3 h4 h5 (val_M h37 h38) (j := (x, y)) (by unfold jOf stepsOf; rw [if_neg (by omega)]; exact Prod.ext (by show _ = x; omega) (by show _ = y; omega))).trans (checked_no1 h67)]
      exact T_ret fun cx_ a_ hI_ => rt hc0 [ps 2 (.opt 0 0), ps 3 (iv 2), pb 0 37 [(iv 0), (iv 0)]] [0] hI_
    refine T_r mixed [(1, .val (.av (.bool (decide ((qOf s) = ([77] : List UInt8)))))), (3, .gd false .no), (4, .gd false .no), (5, .gd false .no), (6, .gd false .no), (7, .yes false)] [ps 0 (sv (st s)), ps 2 (.opt 0 0), ps 4 (sv (st (tOf s))), ps 6 (sv (st (qOf s))), ps 7 (iv ((numS (dOf s)).1)), ps 11 (.opt 456 0), ps 12 (nv ((qOf s).length)), ps 68 (bv false), pb 0 37 [(iv 0), (iv 0)], pb 456 37 [(iv (((numS (dOf s)).1) - 1)), (iv ((12 * ((((numS (dOf s)).1) - 1) / 7)) + (Pi.nat7 ((((numS (dOf s)).1) - 1) % 7))))]] (obs_cons (st_eq _ _ : ((st (qOf s)).toList == (st ([77] : List UInt8)).toList) = decide ((qOf s) = ([77] : List UInt8))) (obs_cons (decide_eq_false h37) (obs_cons (decide_eq_false h37) (obs_cons (decide_eq_false h37) (obs_cons (decide_eq_false h37) (obs_cons (decide_eq_false h37) obs_nil)))))) ?_
    refine T_else (b := false) rfl rfl ?_
    refine T_seq ?_
    by_cases h69 : (qOf s) = ([109] : List UInt8)
    · refine T_r mixed [(1, .val (.av (.bool (decide ((qOf s) = ([109] : List UInt8)))))), (3, .gd true (.no)), (4, .gd true (.no)), (5, .gd true (.call [] [(iv (((numS (dOf s)).1) - 1))] [] (bv (perfB (((numS (dOf s)).1) - 1))) [])), (6, .gd true (.no)), (7, .yes true)] [ps 0 (sv (st s)), ps 2 (.opt 0 0), ps 4 (sv (st (tOf s))), ps 6 (sv (st (qOf s))), ps 7 (iv ((numS (dOf s)).1)), ps 11 (.opt 456 0), ps 12 (nv ((qOf s).length)), ps 84 (bv (!(perfB (((numS (dOf s)).1) - 1)))), pb 0 37 [(iv 0), (iv 0)], pb 456 37 [(iv (((numS (dOf s)).1) - 1)), (iv ((12 * ((((numS (dOf s)).1) - 1) / 7)) + (Pi.nat7 ((((numS (dOf s)).1) - 1) % 7))))]] (obs_cons (st_eq _ _ : ((st (qOf s)).toList == (st ([109] : List UInt8)).toList) = decide ((qOf s) = ([109] : List UInt8))) (obs_cons (decide_eq_true h69) (obs_cons (decide_eq_true h69) (obs_cons (by simp only [InK]; omega : InK .i64 (((numS (dOf s)).1) - 1)) (obs_cons (decide_eq_true h69) (obs_cons (perfect_pc (((numS (dOf s)).1) - 1) (by omega)) (obs_cons (rfl : Ren0 672 [(iv (((numS (dOf s)).1) - 1))]) (obs_cons (decide_eq_true h69) (obs_cons (decide_eq_true h69) obs_nil))))))))) ?_
      by_cases h70 : (perfB (((numS (dOf s)).1) - 1)) = true
      · refine T_el (congrArg Bool.not h70) ?_
        refine T_seq ?_
        refine T_r mixed [(1, .call [] [(sv (st (qOf s))), (sv (st [65]))] [] (sv (st (Lib.trimS (qOf s) [65]))) []), (2, .val (.av (.bool (decide ((Lib.trimS (qOf s) [65]) = ([] : List UInt8))))))] [ps 0 (sv (st s)), ps 2 (.opt 0 0), ps 4 (sv (st (tOf s))), ps 6 (sv (st (qOf s))), ps 7 (iv ((numS (dOf s)).1)), ps 11 (.opt 456 0), ps 12 (nv ((qOf s).length)), ps 97 (bv (decide ((Lib.trimS (qOf s) [65]) = ([] : List UInt8)))), pb 0 37 [(iv 0), (iv 0)], pb 456 37 [(iv (((numS (dOf s)).1) - 1)), (iv ((12 * ((((numS (dOf s)).1) - 1) / 7)) + (Pi.nat7 ((((numS (dOf s)).1) - 1) % 7))))]] (obs_cons (trim_pc (qOf s) [65] (by omega) (by decide) (one_ascii (by decide))) (obs_cons (rfl : [(sv (st (qOf s))), (sv (st ([65] : List UInt8)))] = renL (sigi [] 712) [(sv (st (qOf s))), (sv (st [65]))]) (obs_cons (st_eq _ _ : ((st (Lib.trimS (qOf s) [65])).toList == (st ([] : List UInt8)).toList) = decide ((Lib.trimS (qOf s) [65]) = ([] : List UInt8))) obs_nil))) ?_
        by_cases h71 : (Lib.trimS (qOf s) [65]) = ([] : List UInt8)
        · refine T_th (decide_eq_true h71) ?_
          refine T_r mixed [] [ps 0 (sv (st s)), ps 2 (.opt 0 0), ps 4 (sv (st (tOf s))), ps 11 (.opt 456 0), pb 0 37 [(iv 0), (iv 0)], pb 456 37 [(iv (((numS (dOf s)).1) - 1)), (iv (((12 * ((((numS (dOf s)).1) - 1) / 7)) + (Pi.nat7 ((((numS (dOf s)).1) - 1) % 7))) + (((qOf s).length : Nat) : Int)))]] (obs_cons (by simp only [InK]; omega : InK .i64 (((12 * ((((numS (dOf s)).1) - 1) / 7)) + (Pi.nat7 ((((numS (dOf s)).1) - 1) % 7))) + (((qOf s).length : Nat) : Int))) obs_nil) ?_
          refine T_blk <| T_seq <| T_seq ?_
          refine T_r mixed [] [ps 0 (sv (st s)), ps 2 (.opt 0 0), ps 11 (.opt 456 0), ps 134 (bv (decide ((((tOf s).length : Nat) : Int) < ((s.length : Nat) : Int)))), pb 0 37 [(iv 0), (iv 0)], pb 456 37 [(iv (((numS (dOf s)).1) - 1)), (iv (((12 * ((((numS (dOf s)).1) - 1) / 7)) + (Pi.nat7 ((((numS (dOf s)).1) - 1) % 7))) + (((qOf s).length : Nat) : Int)))]] (obs_nil) ?_
          by_cases h72 : (((tOf s).length : Nat) : Int) < ((s.length : Nat) : Int)
          · refine T_th (decide_eq_true h72) ?_
            refine T_r mixed [] [ps 0 (sv (st s)), ps 2 (.opt 0 0), ps 11 (.opt 456 0), pb 0 37 [(iv 0), (iv 0)], pb 456 37 [(iv (0 - (((numS (dOf s)).1) - 1))), (iv (0 - (((12 * ((((numS (dOf s)).1) - 1) / 7)) + (Pi.nat7 ((((numS (dOf s)).1) - 1) % 7))) + (((qOf s).length : Nat) : Int))))]] (obs_cons (by simp only [InK]; omega : InK .i64 (0 - (((numS (dOf s)).1) - 1))) (obs_cons (by simp only [InK]; omega : InK .i64 (0 - (((12 * ((((numS (dOf s)).1) - 1) / 7)) + (Pi.nat7 ((((numS (dOf s)).1) - 1) % 7))) + (((qOf s).length : Nat) : Int)))) obs_nil)) ?_
            refine T_seq <| T_seq ?_
            obtain ⟨x, hx⟩ : ∃ x, x = 0 - (((numS (dOf s)).1) - 1) := ⟨_, rfl⟩
            obtain ⟨y, hy⟩ : ∃ y, y = 0 - (((12 * ((((numS (dOf s)).1) - 1) / 7)) + (Pi.nat7 ((((numS (dOf s)).1) - 1) % 7))) + (((qOf s).length : Nat) : Int)) := ⟨_, rfl⟩
            refine T_wk (Wk.eq (show _ = [ps 0 (sv (st s)), ps 2 (.opt 0 0), ps 11 (.opt 456 0), pb 0 37 [(iv 0), (iv 0)], pb 456 37 [(iv x), (iv y)]] from by rw [hx, hy])) ?_
            refine T_r mixed [(1, .call [] [(.agg [(iv x), (iv y)])] [] (.tup [(sv (st ((nameS x y).1))), (iv ((nameS x y).2))]) [])] [ps 0 (sv (st s)), ps 2 (.opt 0 0), ps 11 (.opt 456 0), ps 13 (sv (st ((nameS x y).1))), ps 14 (iv ((nameS x y).2)), pb 0 37 [(iv 0), (iv 0)], pb 456 37 [(iv x), (iv y)]] (obs_cons (name_pc x y (by unfold Pi.I64; omega) (by unfold Pi.I64; omega)) (obs_cons (rfl : Ren0 912 [(.agg [(iv x), (iv y)])]) obs_nil)) ?_
            refine T_seq ?_
            by_cases h73 : ((nameS x y).2) = 0
            · refine T_r mixed [(3, .gd false (.no)), (4, .gd false (.no)), (5, .gd false (.val (.av (.bool (!decide (((nameS x y).1) = s)))))), (6, .yes false)] [ps 2 (.opt 0 0), ps 11 (.opt 456 0), ps 154 (bv (!(decide (((nameS x y).1) = s)))), pb 0 37 [(iv 0), (iv 0)], pb 456 37 [(iv x), (iv y)]] (obs_cons (bt h73) (obs_cons (bt h73) (obs_cons (bt h73) (obs_cons (st_ne _ _ : (!((st ((nameS x y).1)).toList == (st s).toList)) = !decide (((nameS x y).1) = s)) (obs_cons (bt h73) obs_nil))))) ?_
              by_cases h74 : ((nameS x y).1) = s
              · refine T_el (bt h74) ?_
                refine T_skip <| T_seq ?_
                refine T_r mixed [] [ps 2 (.opt 0 0), ps 3 (iv 0), pb 0 37 [(iv x), (iv y)]] (obs_nil) ?_
                rw [(named_some (s := s) h1 h2 h3 h4 h5 (val_A (fun c => h6 c.1) (fun c => h37 c.1) (fun c => c.2 h70) h71) (j := (x, y)) (by unfold jOf stepsOf; rw [if_pos (by omega)]; exact Prod.ext (by show _ = x; omega) (by show _ = y; omega))).trans (checked_yes h73 h74)]
                exact T_ret fun cx_ a_ hI_ => rt hc0 [ps 2 (.opt 0 0), ps 3 (iv 0), pb 0 37 [(iv x), (iv y)]] [0] hI_
              refine T_th (bf h74) ?_
              refine T_seq ?_
              refine T_r mixed [] [ps 2 (.opt 0 0), ps 3 (iv 2), pb 0 37 [(iv 0), (iv 0)]] (obs_nil) ?_
              rw [(named_some (s := s) h1 h2 h3 h4 h5 (val_A (fun c => h6 c.1) (fun c => h37 c.1) (fun c => c.2 h70) h71) (j := (x, y)) (by unfold jOf stepsOf; rw [if_pos (by omega)]; exact Prod.ext (by show _ = x; omega) (by show _ = y; omega))).trans (checked_no2 h74)]
              exact T_ret fun cx_ a_ hI_ => rt hc0 [ps 2 (.opt 0 0), ps 3 (iv 2), pb 0 37 [(iv 0), (iv 0)]] [0] hI_
            refine T_r mixed [(3, .gd true .no), (4, .gd true .no), (5, .gd true .no), (6, .yes true)] [ps 2 (.opt 0 0), ps 11 (.opt 456 0), ps 154 (bv true), pb 0 37 [(iv 0), (iv 0)], pb 456 37 [(iv x), (iv y)]] (obs_cons (bf h73) (obs_cons (bf h73) (obs_cons (bf h73) (obs_cons (bf h73) obs_nil)))) ?_
            refine T_then (b := true) rfl rfl ?_
            refine T_seq ?_
            refine T_r mixed [] [ps 2 (.opt 0 0), ps 3 (iv 2), pb 0 37 [(iv 0), (iv 0)]] (obs_nil) ?_
            rw [(named_some (s := s) h1 h2 h3 h4 h5 (val_A (fun c => h6 c.1) (fun c => h37 c.1) (fun c => c.2 h70) h71) (j := (x, y)) (by unfold jOf stepsOf; rw [if_pos (by omega)]; exact Prod.ext (by show _ = x; omega) (by show _ = y; omega))).trans (checked_no1 h73)]
            exact T_ret fun cx_ a_ hI_ => rt hc0 [ps 2 (.opt 0 0), ps 3 (iv 2), pb 0 37 [(iv 0), (iv 0)]] [0] hI_
          refine T_el (decide_eq_false h72) ?_
          refine T_skip <| T_seq <| T_seq ?_
          obtain ⟨x, hx⟩ : ∃ x, x = ((numS (dOf s)).1) - 1 := ⟨_, rfl⟩
          obtain ⟨y, hy⟩ : ∃ y, y = ((12 * ((((numS (dOf s)).1) - 1) / 7)) + (Pi.nat7 ((((numS (dOf s)).1) - 1) % 7))) + (((qOf s).length : Nat) : Int) := ⟨_, rfl⟩
          refine T_wk (Wk.eq (show _ = [ps 0 (sv (st s)), ps 2 (.opt 0 0), ps 11 (.opt 456 0), ps 134 (bv (decide ((((tOf s).length : Nat) : Int) < ((s.length : Nat) : Int)))), pb 0 37 [(iv 0), (iv 0)], pb 456 37 [(iv x), (iv y)]] from by rw [hx, hy])) ?_
          refine T_r mixed [(1, .call [] [(.agg [(iv x), (iv y)])] [] (.tup [(sv (st ((nameS x y).1))), (iv ((nameS x y).2))]) [])] [ps 0 (sv (st s)), ps 2 (.opt 0 0), ps 11 (.opt 456 0), ps 13 (sv (st ((nameS x y).1))), ps 14 (iv ((nameS x y).2)), pb 0 37 [(iv 0), (iv 0)], pb 456 37 [(iv x), (iv y)]] (obs_cons (name_pc x y (by unfold Pi.I64; omega) (by unfold Pi.I64; omega)) (obs_cons (rfl : Ren0 832 [(.agg [(iv x), (iv y)])]) obs_nil)) ?_
          refine T_seq ?_
          by_cases h75 : ((nameS x y).2) = 0
          · refine T_r mixed [(3, .gd false (.no)), (4, .gd false (.no)), (5, .gd false (.val (.av (.bool (!decide (((nameS x y).1) = s)))))), (6, .yes false)] [ps 2 (.opt 0 0), ps 11 (.opt 456 0), ps 154 (bv (!(decide (((nameS x y).1) = s)))), pb 0 37 [(iv 0), (iv 0)], pb 456 37 [(iv x), (iv y)]] (obs_cons (bt h75) (obs_cons (bt h75) (obs_cons (bt h75) (obs_cons (st_ne _ _ : (!((st ((nameS x y).1)).toList == (st s).toList)) = !decide (((nameS x y).1) = s)) (obs_cons (bt h75) obs_nil))))) ?_
            by_cases h76 : ((nameS x y).1) = s
            · refine T_el (bt h76) ?_
              refine T_skip <| T_seq ?_
              refine T_r mixed [] [ps 2 (.opt 0 0), ps 3 (iv 0), pb 0 37 [(iv x), (iv y)]] (obs_nil) ?_
              rw [(named_some (s := s) h1 h2 h3 h4 h5 (val_A (fun c => h6 c.1) (fun c => h37 c.1) (fun c => c.2 h70) h71) (j := (x, y)) (by unfold jOf stepsOf; rw [if_neg (by omega)]; exact Prod.ext (by show _ = x; omega) (by show _ = y; omega))).trans (checked_yes h75 h76)]
              exact T_ret fun cx_ a_ hI_ => rt hc0 [ps 2 (.opt 0 0), ps 3 (iv 0), pb 0 37 [(iv x), (iv y)]] [0] hI_
            refine T_th (bf h76) ?_
            refine T_seq ?_
            refine T_r mixed [] [ps 2 (.opt 0 0), ps 3 (iv 2), pb 0 37 [(iv 0), (iv 0)]] (obs_nil) ?_
            rw [(named_some (s := s) h1 h2 h3 h4 h5 (val_A (fun c => h6 c.1) (fun c => h37 c.1) (fun c => c.2 h70) h71) (j := (x, y)) (by unfold jOf stepsOf; rw [if_neg (by omega)]; exact Prod.ext (by show _ = x; omega) (by show _ = y; omega))).trans (checked_no2 h76)]
            exact T_ret fun cx_ a_ hI_ => rt hc0 [ps 2 (.opt 0 0), ps 3 (iv 2), pb 0 37 [(iv 0), (iv 0)]] [0] hI_
          refine T_r mixed [(3, .gd true .no), (4, .gd true .no), (5, .gd true .no), (6, .yes true)] [ps 2 (.opt 0 0), ps 11 (.opt 456 0), ps 154 (bv true), pb 0 37 [(iv 0), (iv 0)], pb 456 37 [(iv x), (iv y)]] (obs_cons (bf h75) (obs_cons (bf h75) (obs_cons (bf h75) (obs_cons (bf h75) obs_nil)))) ?_
          refine T_then (b := true) rfl rfl ?_
          refine T_seq ?_
          refine T_r mixed [] [ps 2 (.opt 0 0), ps 3 (iv 2), pb 0 37 [(iv 0), (iv 0)]] (obs_nil) ?_
          rw [(named_some (s := s) h1 h2 h3 h4 h5 (val_A (fun c => h6 c.1) (fun c => h37 c.1) (fun c => c.2 h70) h71) (j := (x, y)) (by unfold jOf stepsOf; rw [if_neg (by omega)]; exact Prod.ext (by show _ = x; omega) (by show _ = y; omega))).trans (checked_no1 h75)]
          exact T_ret fun cx_ a_ hI_ => rt hc0 [ps 2 (.opt 0 0), ps 3 (iv 2), pb 0 37 [(iv 0), (iv 0)]] [0] hI_
        refine T_el (decide_eq_false h71) ?_
        refine T_seq ?_
        by_cases h77 : (Lib.trimS (qOf s) [100]) = ([] : List UInt8)
        · refine T_r mixed [(1, .call [] [(sv (st (qOf s))), (sv (st [100]))] [] (sv (st (Lib.trimS (qOf s) [100]))) []), (2, .val (.av (.bool (decide ((Lib.trimS (qOf s) [100]) = ([] : List UInt8)))))), (4, .gd true (.no)), (5, .gd true (.no)), (6, .gd true (.call [] [(iv (((numS (dOf s)).1) - 1))] [] (bv (perfB (((numS (dOf s)).1) - 1))) [])), (7, .yes true)] [ps 0 (sv (st s)), ps 2 (.opt 0 0), ps 4 (sv (st (tOf s))), ps 6 (sv (st (qOf s))), ps 11 (.opt 456 0), ps 12 (nv ((qOf s).length)), ps 106 (bv (perfB (((numS (dOf s)).1) - 1))), pb 0 37 [(iv 0), (iv 0)], pb 456 37 [(iv (((numS (dOf s)).1) - 1)), (iv ((12 * ((((numS (dOf s)).1) - 1) / 7)) + (Pi.nat7 ((((numS (dOf s)).1) - 1) % 7))))]] (obs_cons (trim_pc (qOf s) [100] (by omega) (by decide) (one_ascii (by decide))) (obs_cons (rfl : [(sv (st (qOf s))), (sv (st ([100] : List UInt8)))] = renL (sigi [] 744) [(sv (st (qOf s))), (sv (st [100]))]) (obs_cons (st_eq _ _ : ((st (Lib.trimS (qOf s) [100])).toList == (st ([] : List UInt8)).toList) = decide ((Lib.trimS (qOf s) [100]) = ([] : List UInt8))) (obs_cons (decide_eq_true h77) (obs_cons (decide_eq_true h77) (obs_cons (by simp only [InK]; omega : InK .i64 (((numS (dOf s)).1) - 1)) (obs_cons (decide_eq_true h77) (obs_cons (perfect_pc (((numS (dOf s)).1) - 1) (by omega)) (obs_cons (rfl : Ren0 784 [(iv (((numS (dOf s)).1) - 1))]) (obs_cons (decide_eq_true h77) obs_nil)))))))))) ?_
          refine T_then (b := (perfB (((numS (dOf s)).1) - 1))) rfl h70 ?_
          refine T_r mixed [] [ps 0 (sv (st s)), ps 2 (.opt 0 0), ps 4 (sv (st (tOf s))), ps 11 (.opt 456 0), pb 0 37 [(iv 0), (iv 0)], pb 456 37 [(iv (((numS (dOf s)).1) - 1)), (iv (((12 * ((((numS (dOf s)).1) - 1) / 7)) + (Pi.nat7 ((((numS (dOf s)).1) - 1) % 7))) - (((qOf s).length : Nat) : Int)))]] (obs_cons (by simp only [InK]; omega : InK .i64 (((12 * ((((numS (dOf s)).1) - 1) / 7)) + (Pi.nat7 ((((numS (dOf s)).1) - 1) % 7))) - (((qOf s).length : Nat) : Int))) obs_nil) ?_
          refine T_blk <| T_seq <| T_seq ?_
          refine T_r mixed [] [ps 0 (sv (st s)), ps 2 (.opt 0 0), ps 11 (.opt 456 0), ps 134 (bv (decide ((((tOf s).length : Nat) : Int) < ((s.length : Nat) : Int)))), pb 0 37 [(iv 0), (iv 0)], pb 456 37 [(iv (((numS (dOf s)).1) - 1)), (iv (((12 * ((((numS (dOf s)).1) - 1) / 7)) + (Pi.nat7 ((((numS (dOf s)).1) - 1) % 7))) - (((qOf s).length : Nat) : Int)))]] (obs_nil) ?_
          by_cases h78 : (((tOf s).length : Nat) : Int) < ((s.length : Nat) : Int)
          · refine T_th (decide_eq_true h78) ?_
            refine T_r mixed [] [ps 0 (sv (st s)), ps 2 (.opt 0 0), ps 11 (.opt 456 0), pb 0 37 [(iv 0), (iv 0)], pb 456 37 [(iv (0 - (((numS (dOf s)).1) - 1))), (iv (0 - (((12 * ((((numS (dOf s)).1) - 1) / 7)) + (Pi.nat7 ((((numS (dOf s)).1) - 1) % 7))) - (((qOf s).length : Nat) : Int))))]] (obs_cons (by simp only [InK]; omega : InK .i64 (0 - (((numS (dOf s)).1) - 1))) (obs_cons (by simp only [InK]; omega : InK .i64 (0 - (((12 * ((((numS (dOf s)).1) - 1) / 7)) + (Pi.nat7 ((((numS (dOf s)).1) - 1) % 7))) - (((qOf s).length : Nat) : Int)))) obs_nil)) ?_
            refine T_seq <| T_seq ?_
            obtain ⟨x, hx⟩ : ∃ x, x = 0 - (((numS (dOf s)).1) - 1) := ⟨_, rfl⟩
            obtain ⟨y, hy⟩ : ∃ y, y = 0 - (((12 * ((((numS (dOf s)).1) - 1) / 7)) + (Pi.nat7 ((((numS (dOf s)).1) - 1) % 7))) - (((qOf s).length : Nat) : Int)) := ⟨_, rfl⟩
            refine T_wk (Wk.eq (show _ = [ps 0 (sv (st s)), ps 2 (.opt 0 0), ps 11 (.opt 456 0), pb 0 37 [(iv 0), (iv 0)], pb 456 37 [(iv x), (iv y)]] from by rw [hx, hy])) ?_
            refine T_r mixed [(1, .call [] [(.agg [(iv x), (iv y)])] [] (.tup [(sv (st ((nameS x y).1))), (iv ((nameS x y).2))]) [])] [ps 0 (sv (st s)), ps 2 (.opt 0 0), ps 11 (.opt 456 0), ps 13 (sv (st ((nameS x y).1))), ps 14 (iv ((nameS x y).2)), pb 0 37 [(iv 0), (iv 0)], pb 456 37 [(iv x), (iv y)]] (obs_cons (name_pc x y (by unfold Pi.I64; omega) (by unfold Pi.I64; omega)) (obs_cons (rfl : Ren0 984 [(.agg [(iv x), (iv y)])]) obs_nil)) ?_
            refine T_seq ?_
            by_cases h79 : ((nameS x y).2) = 0
            · refine T_r mixed [(3, .gd false (.no)), (4, .gd false (.no)), (5, .gd false (.val (.av (.bool (!decide (((nameS x y).1) = s)))))), (6, .yes false)] [ps 2 (.opt 0 0), ps 11 (.opt 456 0), ps 154 (bv (!(decide (((nameS x y).1) = s)))), pb 0 37 [(iv 0), (iv 0)], pb 456 37 [(iv x), (iv y)]] (obs_cons (bt h79) (obs_cons (bt h79) (obs_cons (bt h79) (obs_cons (st_ne _ _ : (!((st ((nameS x y).1)).toList == (st s).toList)) = !decide (((nameS x y).1) = s)) (obs_cons (bt h79) obs_nil))))) ?_
              by_cases h80 : ((nameS x y).1) = s
              · refine T_el (bt h80) ?_
                refine T_skip <| T_seq ?_
                refine T_r mixed [] [ps 2 (.opt 0 0), ps 3 (iv 0), pb 0 37 [(iv x), (iv y)]] (obs_nil) ?_
                rw [(named_some (s := s) h1 h2 h3 h4 h5 (val_d (fun c => h6 c.1) (fun c => h37 c.1) (fun c => c.2 h70) h71 h77 h70) (j := (x, y)) (by unfold jOf stepsOf; rw [if_pos (by omega)]; exact Prod.ext (by show _ = x; omega) (by show _ = y; omega))).trans (checked_yes h79 h80)]
                exact T_ret fun cx_ a_ hI_ => rt hc0 [ps 2 (.opt 0 0), ps 3 (iv 0), pb 0 37 [(iv x), (iv y)]] [0] hI_
              refine T_th (bf h80) ?_
              refine T_seq ?_
              refine T_r mixed [] [ps 2 (.opt 0 0), ps 3 (iv 2), pb 0 37 [(iv 0), (iv 0)]] (obs_nil) ?_
              rw [(named_some (s := s) h1 h2 h3 h4 h5 (val_d (fun c => h6 c.1) (fun c => h37 c.1) (fun c => c.2 h70) h71 h77 h70) (j := (x, y)) (by unfold jOf stepsOf; rw [if_pos (by omega)]; exact Prod.ext (by show _ = x; omega) (by show _ = y; omega))).trans (checked_no2 h80)]
              exact T_ret fun cx_ a_ hI_ => rt hc0 [ps 2 (.opt 0 0), ps 3 (iv 2), pb 0 37 [(iv 0), (iv 0)]] [0] hI_
            refine T_r mixed [(3, .gd true .no), (4, .gd true .no), (5, .gd true .no), (6, .yes true)] [ps 2 (.opt 0 0), ps 11 (.opt 456 0), ps 154 (bv true), pb 0 37 [(iv 0), (iv 0)], pb 456 37 [(iv x), (iv y)]] (obs_cons (bf h79) (obs_cons (bf h79) (obs_cons (bf h79) (obs_cons (bf h79) obs_nil)))) ?_
            refine T_then (b := true) rfl rfl ?_
            refine T_seq ?_
            refine T_r mixed [] [ps 2 (.opt 0 0), ps 3 (iv 2), pb 0 37 [(iv 0), (iv 0)]] (obs_nil) ?_
            rw [(named_some (s := s) h1 h2 h3 h4 h5 (val_d (fun c => h6 c.1) (fun c => h37 c.1) (fun c => c.2 h70) h71 h77 h70) (j := (x, y)) (by unfold jOf stepsOf; rw [if_pos (by omega)]; exact Prod.ext (by show _ = x; omega) (by show _ = y; omega))).trans (checked_no1 h79)]
            exact T_ret fun cx_ a_ hI_ => rt hc0 [ps 2 (.opt 0 0), ps 3 (iv 2), pb 0 37 [(iv 0), (iv 0)]] [0] hI_
          refine T_el (decide_eq_false h78) ?_
          refine T_skip <| T_seq <| T_seq ?_
          obtain ⟨x, hx⟩ : ∃ x, x = ((numS (dOf s)).1) - 1 := ⟨_, rfl⟩
          obtain ⟨y, hy⟩ : ∃ y, y = ((12 * ((((numS (dOf s)).1) - 1) / 7)) + (Pi.nat7 ((((numS (dOf s)).1) - 1) % 7))) - (((qOf s).length : Nat) : Int) := ⟨_, rfl⟩
          refine T_wk (Wk.eq (show _ = [ps 0 (sv (st s)), ps 2 (.opt 0 0), ps 11 (.opt 456 0), ps 134 (bv (decide ((((tOf s).length : Nat) : Int) < ((s.length : Nat) : Int)))), pb 0 37 [(iv 0), (iv 0)], pb 456 37 [(iv x), (iv y)]] from by rw [hx, hy])) ?_
          refine T_r mixed [(1, .call [] [(.agg [(iv x), (iv y)])] [] (.tup [(sv (st ((nameS x y).1))), (iv ((nameS x y).2))]) [])] [ps 0 (sv (st s)), ps 2 (.opt 0 0), ps 11 (.opt 456 0), ps 13 (sv (st ((nameS x y).1))), ps 14 (iv ((nameS x y).2)), pb 0 37 [(iv 0), (iv 0)], pb 456 37 [(iv x), (iv y)]] (obs_cons (name_pc x y (by unfold Pi.I64; omega) (by unfold Pi.I64; omega)) (obs_cons (rfl : Ren0 904 [(.agg [(iv x), (iv y)])]) obs_nil)) ?_
          refine T_seq ?_
          by_cases h81 : ((nameS x y).2) = 0
          · refine T_r mixed [(3, .gd false (.no)), (4, .gd false (.no)), (5, .gd false (.val (.av (.bool (!decide (((nameS x y).1) = s)))))), (6, .yes false)] [ps 2 (.opt 0 0), ps 11 (.opt 456 0), ps 154 (bv (!(decide (((nameS x y).1) = s)))), pb 0 37 [(iv 0), (iv 0)], pb 456 37 [(iv x), (iv y)]] (obs_cons (bt h81) (obs_cons (bt h81) (obs_cons (bt h81) (obs_cons (st_ne _ _ : (!((st ((nameS x y).1)).toList == (st s).toList)) = !decide (((nameS x y).1) = s)) (obs_cons (bt h81) obs_nil))))) ?_
            by_cases h82 : ((nameS x y).1) = s
            · refine T_el (bt h82) ?_
              refine T_skip <| T_seq ?_
              refine T_r mixed [] [ps 2 (.opt 0 0), ps 3 (iv 0), pb 0 37 [(iv x), (iv y)]] (obs_nil) ?_
              rw [(named_some (s := s) h1 h2 h3 h4 h5 (val_d (fun c => h6 c.1) (fun c => h37 c.1) (fun c => c.2 h70) h71 h77 h70) (j := (x, y)) (by unfold jOf stepsOf; rw [if_neg (by omega)]; exact Prod.ext (by show _ = x; omega) (by show _ = y; omega))).trans (checked_yes h81 h82)]
              exact T_ret fun cx_ a_ hI_ => rt hc0 [ps 2 (.opt 0 0), ps 3 (iv 0), pb 0 37 [(iv x), (iv y)]] [0] hI_
            refine T_th (bf h82) ?_
            refine T_seq ?_
            refine T_r mixed [] [ps 2 (.opt 0 0), ps 3 (iv 2), pb 0 37 [(iv 0), (iv 0)]] (obs_nil) ?_
            rw [(named_some (s := s) h1 h2 h3 h4 h5 (val_d (fun c => h6 c.1) (fun c => h37 c.1) (fun c => c.2 h70) h71 h77 h70) (j := (x, y)) (by unfold jOf stepsOf; rw [if_neg (by omega)]; exact Prod.ext (by show _ = x; omega) (by show _ = y; omega))).trans (checked_no2 h82)]
            exact T_ret fun cx_ a_ hI_ => rt hc0 [ps 2 (.opt 0 0), ps 3 (iv 2), pb 0 37 [(iv 0), (iv 0)]] [0] hI_
          refine T_r mixed [(3, .gd true .no), (4, .gd true .no), (5, .gd true .no), (6, .yes true)] [ps 2 (.opt 0 0), ps 11 (.opt 456 0), ps 154 (bv true), pb 0 37 [(iv 0), (iv 0)], pb 456 37 [(iv x), (iv y)]] (obs_cons (bf h81) (obs_cons (bf h81) (obs_cons (bf h81) (obs_cons (bf h81) obs_nil)))) ?_
          refine T_then (b := true) rfl rfl ?_
          refine T_seq ?_
          refine T_r mixed [] [ps 2 (.opt 0 0), ps 3 (iv 2), pb 0 37 [(iv 0), (iv 0)]] (obs_nil) ?_
          rw [(named_some (s := s) h1 h2 h3 h4 h5 (val_d (fun c => h6 c.1) (fun c => h37 c.1) (fun c => c.2 h70) h71 h77 h70) (j := (x, y)) (by unfold jOf stepsOf; rw [if_neg (by omega)]; exact Prod.ext (by show _ = x; omega) (by show _ = y; omega))).trans (checked_no1 h81)]
          exact T_ret fun cx_ a_ hI_ => rt hc0 [ps 2 (.opt 0 0), ps 3 (iv 2), pb 0 37 [(iv 0), (iv 0)]] [0] hI_
        refine T_r mixed [(1, .call [] [(sv (st (qOf s))), (sv (st [100]))] [] (sv (st (Lib.trimS (qOf s) [100]))) []), (2, .val (.av (.bool (decide ((Lib.trimS (qOf s) [100]) = ([] : List UInt8)))))), (4, .gd false .no), (5, .gd false .no), (6, .gd false .no), (7, .yes false)] [ps 0 (sv (st s)), ps 2 (.opt 0 0), ps 4 (sv (st (tOf s))), ps 6 (sv (st (qOf s))), ps 11 (.opt 456 0), ps 12 (nv ((qOf s).length)), ps 106 (bv false), pb 0 37 [(iv 0), (iv 0)], pb 456 37 [(iv (((numS (dOf s)).1) - 1)), (iv ((12 * ((((numS (dOf s)).1) - 1) / 7)) + (Pi.nat7 ((((numS (dOf s)).1) - 1) % 7))))]] (obs_cons (trim_pc (qOf s) [100] (by omega) (by decide) (one_ascii (by decide))) (obs_cons (rfl : [(sv (st (qOf s))), (sv (st ([100] : List UInt8)))] = renL (sigi [] 744) [(sv (st (qOf s))), (sv (st [100]))]) (obs_cons (st_eq _ _ : ((st (Lib.trimS (qOf s) [100])).toList == (st ([] : List UInt8)).toList) = decide ((Lib.trimS (qOf s) [100]) = ([] : List UInt8))) (obs_cons (decide_eq_false h77) (obs_cons (decide_eq_false h77) (obs_cons (decide_eq_false h77) (obs_cons (decide_eq_false h77) obs_nil))))))) ?_
        refine T_else (b := false) rfl rfl ?_
        refine T_seq ?_
        refine T_r mixed [(1, .call [] [(sv (st (qOf s))), (sv (st [100]))] [] (sv (st (Lib.trimS (qOf s) [100]))) []), (2, .val (.av (.bool (decide ((Lib.trimS (qOf s) [100]) = ([] : List UInt8))))))] [ps 0 (sv (st s)), ps 2 (.opt 0 0), ps 4 (sv (st (tOf s))), ps 11 (.opt 456 0), ps 12 (nv ((qOf s).length)), ps 120 (bv (decide ((Lib.trimS (qOf s) [100]) = ([] : List UInt8)))), pb 0 37 [(iv 0), (iv 0)], pb 456 37 [(iv (((numS (dOf s)).1) - 1)), (iv ((12 * ((((numS (dOf s)).1) - 1) / 7)) + (Pi.nat7 ((((numS (dOf s)).1) - 1) % 7))))]] (obs_cons (trim_pc (qOf s) [100] (by omega) (by decide) (one_ascii (by decide))) (obs_cons (rfl : [(sv (st (qOf s))), (sv (st ([100] : List UInt8)))] = renL (sigi [] 816) [(sv (st (qOf s))), (sv (st [100]))]) (obs_cons (st_eq _ _ : ((st (Lib.trimS (qOf s) [100])).toList == (st ([] : List UInt8)).toList) = decide ((Lib.trimS (qOf s) [100]) = ([] : List UInt8))) obs_nil))) ?_
        refine T_el (decide_eq_false h77) ?_
        refine T_seq ?_
        refine T_r mixed [] [ps 2 (.opt 0 0), ps 3 (iv 2), pb 0 37 [(iv 0), (iv 0)]] (obs_nil) ?_
        rw [named_none (s := s) h1 h2 h3 h4 h5 (val_no (fun c => h6 c.1) (fun c => h37 c.1) (fun c => c.2 h70) h71 h77)]
        exact T_ret fun cx_ a_ hI_ => rt hc0 [ps 2 (.opt 0 0), ps 3 (iv 2), pb 0 37 [(iv 0), (iv 0)]] [0] hI_
      refine T_th (congrArg Bool.not (Bool.eq_false_iff.2 h70)) ?_
      refine T_r mixed [] [ps 0 (sv (st s)), ps 2 (.opt 0 0), ps 4 (sv (st (tOf s))), ps 11 (.opt 456 0), pb 0 37 [(iv 0), (iv 0)], pb 456 37 [(iv (((numS (dOf s)).1) - 1)), (iv (((12 * ((((numS (dOf s)).1) - 1) / 7)) + (Pi.nat7 ((((numS (dOf s)).1) - 1) % 7))) - 1))]] (obs_cons (by simp only [InK]; omega : InK .i64 (((12 * ((((numS (dOf s)).1) - 1) / 7)) + (Pi.nat7 ((((numS (dOf s)).1) - 1) % 7))) - 1)) obs_nil) ?_
      refine T_blk <| T_seq <| T_seq ?_
      refine T_r mixed [] [ps 0 (sv (st s)), ps 2 (.opt 0 0), ps 11 (.opt 456 0), ps 134 (bv (decide ((((tOf s).length : Nat) : Int) < ((s.length : Nat) : Int)))), pb 0 37 [(iv 0), (iv 0)], pb 456 37 [(iv (((numS (dOf s)).1) - 1)), (iv (((12 * ((((numS (dOf s)).1) - 1) / 7)) + (Pi.nat7 ((((numS (dOf s)).1) - 1) % 7))) - 1))]] (obs_nil) ?_
      by_cases h83 : (((tOf s).length : Nat) : Int) < ((s.length : Nat) : Int)
      · refine T_th (decide_eq_true h83) ?_
        refine T_r mixed [] [ps 0 (sv (st s)), ps 2 (.opt 0 0), ps 11 (.opt 456 0), pb 0 37 [(iv 0), (iv 0)], pb 456 37 [(iv (0 - (((numS (dOf s)).1) - 1))), (iv (0 - (((12 * ((((numS (dOf s)).1) - 1) / 7)) + (Pi.nat7 ((((numS (dOf s)).1) - 1) % 7))) - 1)))]] (obs_cons (by simp only [InK]; omega : InK .i64 (0 - (((numS (dOf s)).1) - 1))) (obs_cons (by simp only [InK]; omega : InK .i64 (0 - (((12 * ((((numS (dOf s)).1) - 1) / 7)) + (Pi.nat7 ((((numS (dOf s)).1) - 1) % 7))) - 1))) obs_nil)) ?_
        refine T_seq <| T_seq ?_
        obtain ⟨x, hx⟩ : ∃ x, x = 0 - (((numS (dOf s)).1) - 1) := ⟨_, rfl⟩
        obtain ⟨y, hy⟩ : ∃ y, y = 0 - (((12 * ((((numS (dOf s)).1) - 1) / 7)) + (Pi.nat7 ((((numS (dOf s)).1) - 1) % 7))) - 1) := ⟨_, rfl⟩
        refine T_wk (Wk.eq (show _ = [ps 0 (sv (st s)), ps 2 (.opt 0 0), ps 11 (.opt 456 0), pb 0 37 [(iv 0), (iv 0)], pb 456 37 [(iv x), (iv y)]] from by rw [hx, hy])) ?_
        refine T_r mixed [(1, .call [] [(.agg [(iv x), (iv y)])] [] (.tup [(sv (st ((nameS x y).1))), (iv ((nameS x y).2))]) [])] [ps 0 (sv (st s)), ps 2 (.opt 0 0), ps 11 (.opt 456 0), ps 13 (sv (st ((nameS x y).1))), ps 14 (iv ((nameS x y).2)), pb 0 37 [(iv 0), (iv 0)], pb 456 37 [(iv x), (iv y)]] (obs_cons (name_pc x y (by unfold Pi.I64; omega) (by unfold Pi.I64; omega)) (obs_cons (rfl : Ren0 872 [(.agg [(iv x), (iv y)])]) obs_nil)) ?_
        refine T_seq ?_
        by_cases h84 : ((nameS x y).2) = 0
        · refine T_r mixed [(3, .gd false (.no)), (4, .gd false (.no)), (5, .gd false (.val (.av (.bool (!decide (((nameS x y).1) = s)))))), (6, .yes false)] [ps 2 (.opt 0 0), ps 11 (.opt 456 0), ps 154 (bv (!(decide (((nameS x y).1) = s)))), pb 0 37 [(iv 0), (iv 0)], pb 456 37 [(iv x), (iv y)]] (obs_cons (bt h84) (obs_cons (bt h84) (obs_cons (bt h84) (obs_cons (st_ne _ _ : (!((st ((nameS x y).1)).toList == (st s).toList)) = !decide (((nameS x y).1) = s)) (obs_cons (bt h84) obs_nil))))) ?_
          by_cases h85 : ((nameS x y).1) = s
          · refine T_el (bt h85) ?_
            refine T_skip <| T_seq ?_
            refine T_r mixed [] [ps 2 (.opt 0 0), ps 3 (iv 0), pb 0 37 [(iv x), (iv y)]] (obs_nil) ?_
            rw [(named_some (s := s) h1 h2 h3 h4 h5 (val_m (fun c => h6 c.1) (fun c => h37 c.1) h69 h70) (j := (x, y)) (by unfold jOf stepsOf; rw [if_pos (by omega)]; exact Prod.ext (by show _ = x; omega) (by show _ = y; omega))).trans (checked_yes h84 h85)]
            exact T_ret fun cx_ a_ hI_ => rt hc0 [ps 2 (.opt 0 0), ps 3 (iv 0), pb 0 37 [(iv x), (iv y)]] [0] hI_
          refine T_th (bf h85) ?_
          refine T_seq ?_
          refine T_r mixed [] [ps 2 (.opt 0 0), ps 3 (iv 2), pb 0 37 [(iv 0), (iv 0)]] (obs_nil) ?_
          rw [(named_some (s := s) h1 h2 h3 h4 h5 (val_m (fun c => h6 c.1) (fun c => h37 c.1) h69 h70) (j := (x, y)) (by unfold jOf stepsOf; rw [if_pos (by omega)]; exact Prod.ext (by show _ = x; omega) (by show _ = y; omega))).trans (checked_no2 h85)]
          exact T_ret fun cx_ a_ hI_ => rt hc0 [ps 2 (.opt 0 0), ps 3 (iv 2), pb 0 37 [(iv 0), (iv 0)]] [0] hI_
        refine T_r mixed [(3, .gd true .no), (4, .gd true .no), (5, .gd true .no), (6, .yes true)] [ps 2 (.opt 0 0), ps 11 (.opt 456 0), ps 154 (bv true), pb 0 37 [(iv 0), (iv 0)], pb 456 37 [(iv x), (iv y)]] (obs_cons (bf h84) (obs_cons (bf h84) (obs_cons (bf h84) (obs_cons (bf h84) obs_nil)))) ?_
        refine T_then (b := true) rfl rfl ?_
        refine T_seq ?_
        refine T_r mixed [] [ps 2 (.opt 0 0), ps 3 (iv 2), pb 0 37 [(iv 0), (iv 0)]] (obs_nil) ?_
        rw [(named_some (s := s) h1 h2 h3 h4 h5 (val_m (fun c => h6 c.1) (fun c => h37 c.1) h69 h70) (j := (x, y)) (by unfold jOf stepsOf; rw [if_pos (by omega)]; exact Prod.ext (by show _ = x; omega) (by show _ = y; omega))).trans (checked_no1 h84)]
        exact T_ret fun cx_ a_ hI_ => rt hc0 [ps 2 (.opt 0 0), ps 3 (iv 2), pb 0 37 [(iv 0), (iv 0)]] [0] hI_
      refine T_el (decide_eq_false h83) ?_
      refine T_skip <| T_seq <| T_seq ?_
      obtain ⟨x, hx⟩ : ∃ x, x = ((numS (dOf s)).1) - 1 := ⟨_, rfl⟩
      obtain ⟨y, hy⟩ : ∃ y, y = ((12 * ((((numS (dOf s)).1) - 1) / 7)) + (Pi.nat7 ((((numS (dOf s)).1) - 1) % 7))) - 1 := ⟨_, rfl⟩
      refine T_wk (Wk.eq (show _ = [ps 0 (sv (st s)), ps 2 (.opt 0 0), ps 11 (.opt 456 0), ps 134 (bv (decide ((((tOf s).length : Nat) : Int) < ((s.length : Nat) : Int)))), pb 0 37 [(iv 0), (iv 0)], pb 456 37 [(iv x), (iv y)]] from by rw [hx, hy])) ?_
      refine T_r mixed [(1, .call [] [(.agg [(iv x), (iv y)])] [] (.tup [(sv (st ((nameS x y).1))), (iv ((nameS x y).2))]) [])] [ps 0 (sv (st s)), ps 2 (.opt 0 0), ps 11 (.opt 456 0), ps 13 (sv (st ((nameS x y).1))), ps 14 (iv ((nameS x y).2)), pb 0 37 [(iv 0), (iv 0)], pb 456 37 [(iv x), (iv y)]] (obs_cons (name_pc x y (by unfold Pi.I64; omega) (by unfold Pi.I64; omega)) (obs_cons (rfl : Ren0 792 [(.agg [(iv x), (iv y)])]) obs_nil)) ?_
      refine T_seq ?_
      by_cases h86 : ((nameS x y).2) = 0
      · refine T_r mixed [(3, .gd false (.no)), (4, .gd false (.no)), (5, .gd false (.val (.av (.bool (!decide (((nameS x y).1) = s)))))), (6, .yes false)] [ps 2 (.opt 0 0), ps 11 (.opt 456 0), ps 154 (bv (!(decide (((nameS x y).1) = s)))), pb 0 37 [(iv 0), (iv 0)], pb 456 37 [(iv x), (iv y)]] (obs_cons (bt h86) (obs_cons (bt h86) (obs_cons (bt h86) (obs_cons (st_ne _ _ : (!((st ((nameS x y).1)).toList == (st s).toList)) = !decide (((nameS x y).1) = s)) (obs_cons (bt h86) obs_nil))))) ?_
        by_cases h87 : ((nameS x y).1) = s
        · refine T_el (bt h87) ?_
          refine T_skip <| T_seq ?_
          refine T_r mixed [] [ps 2 (.opt 0 0), ps 3 (iv 0), pb 0 37 [(iv x), (iv y)]] (obs_nil) ?_
          rw [(named_some (s := s) h1 h2 h3 h4 h5 (val_m (fun c => h6 c.1) (fun c => h37 c.1) h69 h70) (j := (x, y)) (by unfold jOf stepsOf; rw [if_neg (by omega)]; exact Prod.ext (by show _ = x; omega) (by show _ = y; omega))).trans (checked_yes h86 h87)]
          exact T_ret fun cx_ a_ hI_ => rt hc0 [ps 2 (.opt 0 0), ps 3 (iv 0), pb 0 37 [(iv x), (iv y)]] [0] hI_
        refine T_th (bf h87) ?_
        refine T_seq ?_
        refine T_r mixed [] [ps 2 (.opt 0 0), ps 3 (iv 2), pb 0 37 [(iv 0), (iv 0)]] (obs_nil) ?_
        rw [(named_some (s := s) h1 h2 h3 h4 h5 (val_m (fun c => h6 c.1) (fun c => h37 c.1) h69 h70) (j := (x, y)) (by unfold jOf stepsOf; rw [if_neg (by omega)]; exact Prod.ext (by show _ = x; omega) (by show _ = y; omega))).trans (checked_no2 h87)]
        exact T_ret fun cx_ a_ hI_ => rt hc0 [ps 2 (.opt 0 0), ps 3 (iv 2), pb 0 37 [(iv 0), (iv 0)]] [0] hI_
      refine T_r mixed [(3, .gd true .no), (4, .gd true .no), (5, .gd true .no), (6, .yes true)] [ps 2 (.opt 0 0), ps 11 (.opt 456 0), ps 154 (bv true), pb 0 37 [(iv 0), (iv 0)], pb 456 37 [(iv x), (iv y)]] (obs_cons (bf h86) (obs_cons (bf h86) (obs_cons (bf h86) (obs_cons (bf h86) obs_nil)))) ?_
      refine T_then (b := true) rfl rfl ?_
      refine T_seq ?_
      refine T_r mixed [] [ps 2 (.opt 0 0), ps 3 (iv 2), pb 0 37 [(iv 0), (iv 0)]] (obs_nil) ?_
      rw [(named_some (s := s) h1 h2 h3 h4 h5 (val_m (fun c => h6 c.1) (fun c => h37 c.1) h69 h70) (j := (x, y)) (by unfold jOf stepsOf; rw [if_neg (by omega)]; exact Prod.ext (by show _ = x; omega) (by show _ = y; omega))).trans (checked_no1 h86)]
      exact T_ret fun cx_ a_ hI_ => rt hc0 [ps 2 (.opt 0 0), ps 3 (iv 2), pb 0 37 [(iv 0), (iv 0)]] [0] hI_
    refine T_r mixed [(1, .val (.av (.bool (decide ((qOf s) = ([109] : List UInt8)))))), (3, .gd false .no), (4, .gd false .no), (5, .gd false .no), (6, .gd false .no), (7, .yes false)] [ps 0 (sv (st s)), ps 2 (.opt 0 0), ps 4 (sv (st (tOf s))), ps 6 (sv (st (qOf s))), ps 7 (iv ((numS (dOf s)).1)), ps 11 (.opt 456 0), ps 12 (nv ((qOf s).length)), ps 84 (bv false), pb 0 37 [(iv 0), (iv 0)], pb 456 37 [(iv (((numS (dOf s)).1) - 1)), (iv ((12 * ((((numS (dOf s)).1) - 1) / 7)) + (Pi.nat7 ((((numS (dOf s)).1) - 1) % 7))))]] (obs_cons (st_eq _ _ : ((st (qOf s)).toList == (st ([109] : List UInt8)).toList) = decide ((qOf s) = ([109] : List UInt8))) (obs_cons (decide_eq_false h69) (obs_cons (decide_eq_false h69) (obs_cons (decide_eq_false h69) (obs_cons (decide_eq_false h69) (obs_cons (decide_eq_false h69) obs_nil)))))) ?_
    refine T_else (b := false) rfl rfl ?_
    refine T_seq ?_
    refine T_r mixed [(1, .call [] [(sv (st (qOf s))), (sv (st [65]))] [] (sv (st (Lib.trimS (qOf s) [65]))) []), (2, .val (.av (.bool (decide ((Lib.trimS (qOf s) [65]) = ([] : List UInt8))))))] [ps 0 (sv (st s)), ps 2 (.opt 0 0), ps 4 (sv (st (tOf s))), ps 6 (sv (st (qOf s))), ps 7 (iv ((numS (dOf s)).1)), ps 11 (.opt 456 0), ps 12 (nv ((qOf s).length)), ps 97 (bv (decide ((Lib.trimS (qOf s) [65]) = ([] : List UInt8)))), pb 0 37 [(iv 0), (iv 0)], pb 456 37 [(iv (((numS (dOf s)).1) - 1)), (iv ((12 * ((((numS (dOf s)).1) - 1) / 7)) + (Pi.nat7 ((((numS (dOf s)).1) - 1) % 7))))]] (obs_cons (trim_pc (qOf s) [65] (by omega) (by decide) (one_ascii (by decide))) (obs_cons (rfl : [(sv (st (qOf s))), (sv (st ([65] : List UInt8)))] = renL (sigi [] 712) [(sv (st (qOf s))), (sv (st [65]))]) (obs_cons (st_eq _ _ : ((st (Lib.trimS (qOf s) [65])).toList == (st ([] : List UInt8)).toList) = decide ((Lib.trimS (qOf s) [65]) = ([] : List UInt8))) obs_nil))) ?_
    by_cases h88 : (Lib.trimS (qOf s) [65]) = ([] : List UInt8)
    · refine T_th (decide_eq_true h88) ?_
      refine T_r mixed [] [ps 0 (sv (st s)), ps 2 (.opt 0 0), ps 4 (sv (st (tOf s))), ps 11 (.opt 456 0), pb 0 37 [(iv 0), (iv 0)], pb 456 37 [(iv (((numS (dOf s)).1) - 1)), (iv (((12 * ((((numS (dOf s)).1) - 1) / 7)) + (Pi.nat7 ((((numS (dOf s)).1) - 1) % 7))) + (((qOf s).length : Nat) : Int)))]] (obs_cons (by simp only [InK]; omega : InK .i64 (((12 * ((((numS (dOf s)).1) - 1) / 7)) + (Pi.nat7 ((((numS (dOf s)).1) - 1) % 7))) + (((qOf s).length : Nat) : Int))) obs_nil) ?_
      refine T_blk <| T_seq <| T_seq ?_
      refine T_r mixed [] [ps 0 (sv (st s)), ps 2 (.opt 0 0), ps 11 (.opt 456 0), ps 134 (bv (decide ((((tOf s).length : Nat) : Int) < ((s.length : Nat) : Int)))), pb 0 37 [(iv 0), (iv 0)], pb 456 37 [(iv (((numS (dOf s)).1) - 1)), (iv (((12 * ((((numS (dOf s)).1) - 1) / 7)) + (Pi.nat7 ((((numS (dOf s)).1) - 1) % 7))) + (((qOf s).length : Nat) : Int)))]] (obs_nil) ?_
      by_cases h89 : (((tOf s).length : Nat) : Int) < ((s.length : Nat) : Int)
      · refine T_th (decide_eq_true h89) ?_
        refine T_r mixed [] [ps 0 (sv (st s)), ps 2 (.opt 0 0), ps 11 (.opt 456 0), pb 0 37 [(iv 0), (iv 0)], pb 456 37 [(iv (0 - (((numS (dOf s)).1) - 1))), (iv (0 - (((12 * ((((numS (dOf s)).1) - 1) / 7)) + (Pi.nat7 ((((numS (dOf s)).1) - 1) % 7))) + (((qOf s).length : Nat) : Int))))]] (obs_cons (by simp only [InK]; omega : InK .i64 (0 - (((numS (dOf s)).1) - 1))) (obs_cons (by simp only [InK]; omega : InK .i64 (0 - (((12 * ((((numS (dOf s)).1) - 1) / 7)) + (Pi.nat7 ((((numS (dOf s)).1) - 1) % 7))) + (((qOf s).length : Nat) : Int)))) obs_nil)) ?_
        refine T_seq <| T_seq ?_
        obtain ⟨x, hx⟩ : ∃ x, x = 0 - (((numS (dOf s)).1) - 1) := ⟨_, rfl⟩
        obtain ⟨y, hy⟩ : ∃ y, y = 0 - (((12 * ((((numS (dOf s)).1) - 1) / 7)) + (Pi.nat7 ((((numS (dOf s)).1) - 1) % 7))) + (((qOf s).length : Nat) : Int)) := ⟨_, rfl⟩
        refine T_wk (Wk.eq (show _ = [ps 0 (sv (st s)), ps 2 (.opt 0 0), ps 11 (.opt 456 0), pb 0 37 [(iv 0), (iv 0)], pb 456 37 [(iv x), (iv y)]] from by rw [hx, hy])) ?_
        refine T_r mixed [(1, .call [] [(.agg [(iv x), (iv y)])] [] (.tup [(sv (st ((nameS x y).1))), (iv ((nameS x y).2))]) [])] [ps 0 (sv (st s)), ps 2 (.opt 0 0), ps 11 (.opt 456 0), ps 13 (sv (st ((nameS x y).1))), ps 14 (iv ((nameS x y).2)), pb 0 37 [(iv 0), (iv 0)], pb 456 37 [(iv x), (iv y)]] (obs_cons (name_pc x y (by unfold Pi.I64; omega) (by unfold Pi.I64; omega)) (obs_cons (rfl : Ren0 912 [(.agg [(iv x), (iv y)])]) obs_nil)) ?_
        refine T_seq ?_
        by_cases h90 : ((nameS x y).2) = 0
        · refine T_r mixed [(3, .gd false (.no)), (4, .gd false (.no)), (5, .gd false (.val (.av (.bool (!decide (((nameS x y).1) = s)))))), (6, .yes false)] [ps 2 (.opt 0 0), ps 11 (.opt 456 0), ps 154 (bv (!(decide (((nameS x y).1) = s)))), pb 0 37 [(iv 0), (iv 0)], pb 456 37 [(iv x), (iv y)]] (obs_cons (bt h90) (obs_cons (bt h90) (obs_cons (bt h90) (obs_cons (st_ne _ _ : (!((st ((nameS x y).1)).toList == (st s).toList)) = !decide (((nameS x y).1) = s)) (obs_cons (bt h90) obs_nil))))) ?_
          by_cases h91 : ((nameS x y).1) = s
          · refine T_el (bt h91) ?_
            refine T_skip <| T_seq ?_
            refine T_r mixed [] [ps 2 (.opt 0 0), ps 3 (iv 0), pb 0 37 [(iv x), (iv y)]] (obs_nil) ?_
            rw [(named_some (s := s) h1 h2 h3 h4 h5 (val_A (fun c => h6 c.1) (fun c => h37 c.1) (fun c => h69 c.1) h88) (j := (x, y)) (by unfold jOf stepsOf; rw [if_pos (by omega)]; exact Prod.ext (by show _ = x; omega) (by show _ = y; omega))).trans (checked_yes h90 h91)]
            exact T_ret fun cx_ a_ hI_ => rt hc0 [ps 2 (.opt 0 0), ps 3 (iv 0), pb 0 37 [(iv x), (iv y)]] [0] hI_
          refine T_th (bf h91) ?_
          refine T_seq ?_
          refine T_r mixed [] [ps 2 (.opt 0 0), ps 3 (iv 2), pb 0 37 [(iv 0), (iv 0)]] (obs_nil) ?_
          rw [(named_some (s := s) h1 h2 h3 h4 h5 (val_A (fun c => h6 c.1) (fun c => h37 c.1) (fun c => h69 c.1) h88) (j := (x, y)) (by unfold jOf stepsOf; rw [if_pos (by omega)]; exact Prod.ext (by show _ = x; omega) (by show _ = y; omega))).trans (checked_no2 h91)]
          exact T_ret fun cx_ a_ hI_ => rt hc0 [ps 2 (.opt 0 0), ps 3 (iv 2), pb 0 37 [(iv 0), (iv 0)]] [0] hI_
        refine T_r mixed [(3, .gd true .no), (4, .gd true .no), (5, .gd true .no), (6, .yes true)] [ps 2 (.opt 0 0), ps 11 (.opt 456 0), ps 154 (bv true), pb 0 37 [(iv 0), (iv 0)], pb 456 37 [(iv x), (iv y)]] (obs_cons (bf h90) (obs_cons (bf h90) (obs_cons (bf h90) (obs_cons (bf h90) obs_nil)))) ?_
        refine T_then (b := true) rfl rfl ?_
        refine T_seq ?_
        refine T_r mixed [] [ps 2 (.opt 0 0), ps 3 (iv 2), pb 0 37 [(iv 0), (iv 0)]] (obs_nil) ?_
        rw [(named_some (s := s) h1 h2 h3 h4 h5 (val_A (fun c => h6 c.1) (fun c => h37 c.1) (fun c => h69 c.1) h88) (j := (x, y)) (by unfold jOf stepsOf; rw [if_pos (by omega)]; exact Prod.ext (by show _ = x; omega) (by show _ = y; omega))).trans (checked_no1 h90)]
        exact T_ret fun cx_ a_ hI_ => rt hc0 [ps 2 (.opt 0 0), ps 3 (iv 2), pb 0 37 [(iv 0), (iv 0)]] [0] hI_
      refine T_el (decide_eq_false h89) ?_
      refine T_skip <| T_seq <| T_seq ?_
      obtain ⟨x, hx⟩ : ∃ x, x = ((numS (dOf s)).1) - 1 := ⟨_, rfl⟩
      obtain ⟨y, hy⟩ : ∃ y, y = ((12 * ((((numS (dOf s)).1) - 1) / 7)) + (Pi.nat7 ((((numS (dOf s)).1) - 1) % 7))) + (((qOf s).length : Nat) : Int) := ⟨_, rfl⟩
      refine T_wk (Wk.eq (show _ = [ps 0 (sv (st s)), ps 2 (.opt 0 0), ps 11 (.opt 456 0), ps 134 (bv (decide ((((tOf s).length : Nat) : Int) < ((s.length : Nat) : Int)))), pb 0 37 [(iv 0), (iv 0)], pb 456 37 [(iv x), (iv y)]] from by rw [hx, hy])) ?_
      refine T_r mixed [(1, .call [] [(.agg [(iv x), (iv y)])] [] (.tup [(sv (st ((nameS x y).1))), (iv ((nameS x y).2))]) [])] [ps 0 (sv (st s)), ps 2 (.opt 0 0), ps 11 (.opt 456 0), ps 13 (sv (st ((nameS x y).1))), ps 14 (iv ((nameS x y).2)), pb 0 37 [(iv 0), (iv 0)], pb 456 37 [(iv x), (iv y)]] (obs_cons (name_pc x y (by unfold Pi.I64; omega) (by unfold Pi.I64; omega)) (obs_cons (rfl : Ren0 832 [(.agg [(iv x), (iv y)])]) obs_nil)) ?_
      refine T_seq ?_
      by_cases h92 : ((nameS x y).2) = 0
      · refine T_r mixed [(3, .gd false (.no)), (4, .gd false (.no)), (5, .gd false (.val (.av (.bool (!decide (((nameS x y).1) = s)))))), (6, .yes false)] [ps 2 (.opt 0 0), ps 11 (.opt 456 0), ps 154 (bv (!(decide (((nameS x y).1) = s)))), pb 0 37 [(iv 0), (iv 0)], pb 456 37 [(iv x), (iv y)]] (obs_cons (bt h92) (obs_cons (bt h92) (obs_cons (bt h92) (obs_cons (st_ne _ _ : (!((st ((nameS x y).1)).toList == (st s).toList)) = !decide (((nameS x y).1) = s)) (obs_cons (bt h92) obs_nil))))) ?_
        by_cases h93 : ((nameS x y).1) = s
        · refine T_el (bt h93) ?_
          refine T_skip <| T_seq ?_
          refine T_r mixed [] [ps 2 (.opt 0 0), ps 3 (iv 0), pb 0 37 [(iv x), (iv y)]] (obs_nil) ?_
          rw [(named_some (s := s) h1 h2 h3 h4 h5 (val_A (fun c => h6 c.1) (fun c => h37 c.1) (fun c => h69 c.1) h88) (j := (x, y)) (by unfold jOf stepsOf; rw [if_neg (by omega)]; exact Prod.ext (by show _ = x; omega) (by show _ = y; omega))).trans (checked_yes h92 h93)]
          exact T_ret fun cx_ a_ hI_ => rt hc0 [ps 2 (.opt 0 0), ps 3 (iv 0), pb 0 37 [(iv x), (iv y)]] [0] hI_
        refine T_th (bf h93) ?_
        refine T_seq ?_
        refine T_r mixed [] [ps 2 (.opt 0 0), ps 3 (iv 2), pb 0 37 [(iv 0), (iv 0)]] (obs_nil) ?_
        rw [(named_some (s := s) h1 h2 h3 h4 h5 (val_A (fun c => h6 c.1) (fun c => h37 c.1) (fun c => h69 c.1) h88) (j := (x, y)) (by unfold jOf stepsOf; rw [if_neg (by omega)]; exact Prod.ext (by show _ = x; omega) (by show _ = y; omega))).trans (checked_no2 h93)]
        exact T_ret fun cx_ a_ hI_ => rt hc0 [ps 2 (.opt 0 0), ps 3 (iv 2), pb 0 37 [(iv 0), (iv 0)]] [0] hI_
      refine T_r mixed [(3, .gd true .no), (4, .gd true .no), (5, .gd true .no), (6, .yes true)] [ps 2 (.opt 0 0), ps 11 (.opt 456 0), ps 154 (bv true), pb 0 37 [(iv 0), (iv 0)], pb 456 37 [(iv x), (iv y)]] (obs_cons (bf h92) (obs_cons (bf h92) (obs_cons (bf h92) (obs_cons (bf h92) obs_nil)))) ?_
      refine T_then (b := true) rfl rfl ?_
      refine T_seq ?_
      refine T_r mixed [] [ps 2 (.opt 0 0), ps 3 (iv 2), pb 0 37 [(iv 0), (iv 0)]] (obs_nil) ?_
      rw [(named_some (s := s) h1 h2 h3 h4 h5 (val_A (fun c => h6 c.1) (fun c => h37 c.1) (fun c => h69 c.1) h88) (j := (x, y)) (by unfold jOf stepsOf; rw [if_neg (by omega)]; exact Prod.ext (by show _ = x; omega) (by show _ = y; omega))).trans (checked_no1 h92)]
      exact T_ret fun cx_ a_ hI_ => rt hc0 [ps 2 (.opt 0 0), ps 3 (iv 2), pb 0 37 [(iv 0), (iv 0)]] [0] hI_
    refine T_el (decide_eq_false h88) ?_
    refine T_seq ?_
    by_cases h94 : (Lib.trimS (qOf s) [100]) = ([] : List UInt8)
    · refine T_r mixed [(1, .call [] [(sv (st (qOf s))), (sv (st [100]))] [] (sv (st (Lib.trimS (qOf s) [100]))) []), (2, .val (.av (.bool (decide ((Lib.trimS (qOf s) [100]) = ([] : List UInt8)))))), (4, .gd true (.no)), (5, .gd true (.no)), (6, .gd true (.call [] [(iv (((numS (dOf s)).1) - 1))] [] (bv (perfB (((numS (dOf s)).1) - 1))) [])), (7, .yes true)] [ps 0 (sv (st s)), ps 2 (.opt 0 0), ps 4 (sv (st (tOf s))), ps 6 (sv (st (qOf s))), ps 11 (.opt 456 0), ps 12 (nv ((qOf s).length)), ps 106 (bv (perfB (((numS (dOf s)).1) - 1))), pb 0 37 [(iv 0), (iv 0)], pb 456 37 [(iv (((numS (dOf s)).1) - 1)), (iv ((12 * ((((numS (dOf s)).1) - 1) / 7)) + (Pi.nat7 ((((numS (dOf s)).1) - 1) % 7))))]] (obs_cons (trim_pc (qOf s) [100] (by omega) (by decide) (one_ascii (by decide))) (obs_cons (rfl : [(sv (st (qOf s))), (sv (st ([100] : List UInt8)))] = renL (sigi [] 744) [(sv (st (qOf s))), (sv (st [100]))]) (obs_cons (st_eq _ _ : ((st (Lib.trimS (qOf s) [100])).toList == (st ([] : List UInt8)).toList) = decide ((Lib.trimS (qOf s) [100]) = ([] : List UInt8))) (obs_cons (decide_eq_true h94) (obs_cons (decide_eq_true h94) (obs_cons (by simp only [InK]; omega : InK .i64 (((numS (dOf s)).1) - 1)) (obs_cons (decide_eq_true h94) (obs_cons (perfect_pc (((numS (dOf s)).1) - 1) (by omega)) (obs_cons (rfl : Ren0 784 [(iv (((numS (dOf s)).1) - 1))]) (obs_cons (decide_eq_true h94) obs_nil)))))))))) ?_
      by_cases h95 : (perfB (((numS (dOf s)).1) - 1)) = true
      · refine T_then (b := (perfB (((numS (dOf s)).1) - 1))) rfl h95 ?_
        refine T_r mixed [] [ps 0 (sv (st s)), ps 2 (.opt 0 0), ps 4 (sv (st (tOf s))), ps 11 (.opt 456 0), pb 0 37 [(iv 0), (iv 0)], pb 456 37 [(iv (((numS (dOf s)).1) - 1)), (iv (((12 * ((((numS (dOf s)).1) - 1) / 7)) + (Pi.nat7 ((((numS (dOf s)).1) - 1) % 7))) - (((qOf s).length : Nat) : Int)))]] (obs_cons (by simp only [InK]; omega : InK .i64 (((12 * ((((numS (dOf s)).1) - 1) / 7)) + (Pi.nat7 ((((numS (dOf s)).1) - 1) % 7))) - (((qOf s).length : Nat) : Int))) obs_nil) ?_
        refine T_blk <| T_seq <| T_seq ?_
        refine T_r mixed [] [ps 0 (sv (st s)), ps 2 (.opt 0 0), ps 11 (.opt 456 0), ps 134 (bv (decide ((((tOf s).length : Nat) : Int) < ((s.length : Nat) : Int)))), pb 0 37 [(iv 0), (iv 0)], pb 456 37 [(iv (((numS (dOf s)).1) - 1)), (iv (((12 * ((((numS (dOf s)).1) - 1) / 7)) + (Pi.nat7 ((((numS (dOf s)).1) - 1) % 7))) - (((qOf s).length : Nat) : Int)))]] (obs_nil) ?_
        by_cases h96 : (((tOf s).length : Nat) : Int) < ((s.length : Nat) : Int)
        · refine T_th (decide_eq_true h96) ?_
          refine T_r mixed [] [ps 0 (sv (st s)), ps 2 (.opt 0 0), ps 11 (.opt 456 0), pb 0 37 [(iv 0), (iv 0)], pb 456 37 [(iv (0 - (((numS (dOf s)).1) - 1))), (iv (0 - (((12 * ((((numS (dOf s)).1) - 1) / 7)) + (Pi.nat7 ((((numS (dOf s)).1) - 1) % 7))) - (((qOf s).length : Nat) : Int))))]] (obs_cons (by simp only [InK]; omega : InK .i64 (0 - (((numS (dOf s)).1) - 1))) (obs_cons (by simp only [InK]; omega : InK .i64 (0 - (((12 * ((((numS (dOf s)).1) - 1) / 7)) + (Pi.nat7 ((((numS (dOf s)).1) - 1) % 7))) - (((qOf s).length : Nat) : Int)))) obs_nil)) ?_
          refine T_seq <| T_seq ?_
          obtain ⟨x, hx⟩ : ∃ x, x = 0 - (((numS (dOf s)).1) - 1) := ⟨_, rfl⟩
          obtain ⟨y, hy⟩ : ∃ y, y = 0 - (((12 * ((((numS (dOf s)).1) - 1) / 7)) + (Pi.nat7 ((((numS (dOf s)).1) - 1) % 7))) - (((qOf s).length : Nat) : Int)) := ⟨_, rfl⟩
          refine T_wk (Wk.eq (show _ = [ps 0 (sv (st s)), ps 2 (.opt 0 0), ps 11 (.opt 456 0), pb 0 37 [(iv 0), (iv 0)], pb 456 37 [(iv x), (iv y)]] from by rw [hx, hy])) ?_
          refine T_r mixed [(1, .call [] [(.agg [(iv x), (iv y)])] [] (.tup [(sv (st ((nameS x y).1))), (iv ((nameS x y).2))]) [])] [ps 0 (sv (st s)), ps 2 (.opt 0 0), ps 11 (.opt 456 0), ps 13 (sv (st ((nameS x y).1))), ps 14 (iv ((nameS x y).2)), pb 0 37 [(iv 0), (iv 0)], pb 456 37 [(iv x), (iv y)]] (obs_cons (name_pc x y (by unfold Pi.I64; omega) (by unfold Pi.I64; omega)) (obs_cons (rfl : Ren0 984 [(.agg [(iv x), (iv y)])]) obs_nil)) ?_
          refine T_seq ?_
          by_cases h97 : ((nameS x y).2) = 0
          · refine T_r mixed [(3, .gd false (.no)), (4, .gd false (.no)), (5, .gd false (.val (.av (.bool (!decide (((nameS x y).1) = s)))))), (6, .yes false)] [ps 2 (.opt 0 0), ps 11 (.opt 456 0), ps 154 (bv (!(decide (((nameS x y).1) = s)))), pb 0 37 [(iv 0), (iv 0)], pb 456 37 [(iv x), (iv y)]] (obs_cons (bt h97) (obs_cons (bt h97) (obs_cons (bt h97) (obs_cons (st_ne _ _ : (!((st ((nameS x y).1)).toList == (st s).toList)) = !decide (((nameS x y).1) = s)) (obs_cons (bt h97) obs_nil))))) ?_
            by_cases h98 : ((nameS x y).1) = s
            · refine T_el (bt h98) ?_
              refine T_skip <| T_seq ?_
              refine T_r mixed [] [ps 2 (.opt 0 0), ps 3 (iv 0), pb 0 37 [(iv x), (iv y)]] (obs_nil) ?_
              rw [(named_some (s := s) h1 h2 h3 h4 h5 (val_d (fun c => h6 c.1) (fun c => h37 c.1) (fun c => h69 c.1) h88 h94 h95) (j := (x, y)) (by unfold jOf stepsOf; rw [if_pos (by omega)]; exact Prod.ext (by show _ = x; omega) (by show _ = y; omega))).trans (checked_yes h97 h98)]
              exact T_ret fun cx_ a_ hI_ => rt hc0 [ps 2 (.opt 0 0), ps 3 (iv 0), pb 0 37 [(iv x), (iv y)]] [0] hI_
            refine T_th (bf h98) ?_
            refine T_seq ?_
            refine T_r mixed [] [ps 2 (.opt 0 0), ps 3 (iv 2), pb 0 37 [(iv 0), (iv 0)]] (obs_nil) ?_
            rw [(named_some (s := s) h1 h2 h3 h4 h5 (val_d (fun c => h6 c.1) (fun c => h37 c.1) (fun c => h69 c.1) h88 h94 h95) (j := (x, y)) (by unfold jOf stepsOf; rw [if_pos (by omega)]; exact Prod.ext (by show _ = x; omega) (by show _ = y; omega))).trans (checked_no2 h98)]
            exact T_ret fun cx_ a_ hI_ => rt hc0 [ps 2 (.opt 0 0), ps 3 (iv 2), pb 0 37 [(iv 0), (iv 0)]] [0] hI_
          refine T_r mixed [(3, .gd true .no), (4, .gd true .no), (5, .gd true .no), (6, .yes true)] [ps 2 (.opt 0 0), ps 11 (.opt 456 0), ps 154 (bv true), pb 0 37 [(iv 0), (iv 0)], pb 456 37 [(iv x), (iv y)]] (obs_cons (bf h97) (obs_cons (bf h97) (obs_cons (bf h97) (obs_cons (bf h97) obs_nil)))) ?_
          refine T_then (b := true) rfl rfl ?_
          refine T_seq ?_
          refine T_r mixed [] [ps 2 (.opt 0 0), ps 3 (iv 2), pb 0 37 [(iv 0), (iv 0)]] (obs_nil) ?_
          rw [(named_some (s := s) h1 h2 h3 h4 h5 (val_d (fun c => h6 c.1) (fun c => h37 c.1) (fun c => h69 c.1) h88 h94 h95) (j := (x, y)) (by unfold jOf stepsOf; rw [if_pos (by omega)]; exact Prod.ext (by show _ = x; omega) (by show _ = y; omega))).trans (checked_no1 h97)]
          exact T_ret fun cx_ a_ hI_ => rt hc0 [ps 2 (.opt 0 0), ps 3 (iv 2), pb 0 37 [(iv 0), (iv 0)]] [0] hI_
        refine T_el (decide_eq_false h96) ?_
        refine T_skip <| T_seq <| T_seq ?_
        obtain ⟨x, hx⟩ : ∃ x, x = ((numS (dOf s)).1) - 1 := ⟨_, rfl⟩
        obtain ⟨y, hy⟩ : ∃ y, y = ((12 * ((((numS (dOf s)).1) - 1) / 7)) + (Pi.nat7 ((((numS (dOf s)).1) - 1) % 7))) - (((qOf s).length : Nat) : Int) := ⟨_, rfl⟩
        refine T_wk (Wk.eq (show _ = [ps 0 (sv (st s)), ps 2 (.opt 0 0), ps 11 (.opt 456 0), ps 134 (bv (decide ((((tOf s).length : Nat) : Int) < ((s.length : Nat) : Int)))), pb 0 37 [(iv 0), (iv 0)], pb 456 37 [(iv x), (iv y)]] from by rw [hx, hy])) ?_
        refine T_r mixed [(1, .call [] [(.agg [(iv x), (iv y)])] [] (.tup [(sv (st ((nameS x y).1))), (iv ((nameS x y).2))]) [])] [ps 0 (sv (st s)), ps 2 (.opt 0 0), ps 11 (.opt 456 0), ps 13 (sv (st ((nameS x y).1))), ps 14 (iv ((nameS x y).2)), pb 0 37 [(iv 0), (iv 0)], pb 456 37 [(iv x), (iv y)]] (obs_cons (name_pc x y (by unfold Pi.I64; omega) (by unfold Pi.I64; omega)) (obs_cons (rfl : Ren0 904 [(.agg [(iv x), (iv y)])]) obs_nil)) ?_
        refine T_seq ?_
        by_cases h99 : ((nameS x y).2) = 0
        · refine T_r mixed [(3, .gd false (.no)), (4, .gd false (.no)), (5, .gd false (.val (.av (.bool (!decide (((nameS x y).1) = s)))))), (6, .yes false)] [ps 2 (.opt 0 0), ps 11 (.opt 456 0), ps 154 (bv (!(decide (((nameS x y).1) = s)))), pb 0 37 [(iv 0), (iv 0)], pb 456 37 [(iv x), (iv y)]] (obs_cons (bt h99) (obs_cons (bt h99) (obs_cons (bt h99) (obs_cons (st_ne _ _ : (!((st ((nameS x y).1)).toList == (st s).toList)) = !decide (((nameS x y).1) = s)) (obs_cons (bt h99) obs_nil))))) ?_
          by_cases h100 : ((nameS x y).1) = s
          · refine T_el (bt h100) ?_
            refine T_skip <| T_seq ?_
            refine T_r mixed [] [ps 2 (.opt 0 0), ps 3 (iv 0), pb 0 37 [(iv x), (iv y)]] (obs_nil) ?_
            rw [(named_some (s := s) h1 h2 h3 h4 h5 (val_d (fun c => h6 c.1) (fun c => h37 c.1) (fun c => h69 c.1) h88 h94 h95) (j := (x, y)) (by unfold jOf stepsOf; rw [if_neg (by omega)]; exact Prod.ext (by show _ = x; omega) (by show _ = y; omega))).trans (checked_yes h99 h100)]
            exact T_ret fun cx_ a_ hI_ => rt hc0 [ps 2 (.opt 0 0), ps 3 (iv 0), pb 0 37 [(iv x), (iv y)]] [0] hI_
          refine T_th (bf h100) ?_
          refine T_seq ?_
          refine T_r mixed [] [ps 2 (.opt 0 0), ps 3 (iv 2), pb 0 37 [(iv 0), (iv 0)]] (obs_nil) ?_
          rw [(named_some (s := s) h1 h2 h3 h4 h5 (val_d (fun c => h6 c.1) (fun c => h37 c.1) (fun c => h69 c.1) h88 h94 h95) (j := (x, y)) (by unfold jOf stepsOf; rw [if_neg (by omega)]; exact Prod.ext (by show _ = x; omega) (by show _ = y; omega))).trans (checked_no2 h100)]
          exact T_ret fun cx_ a_ hI_ => rt hc0 [ps 2 (.opt 0 0), ps 3 (iv 2), pb 0 37 [(iv 0), (iv 0)]] [0] hI_
        refine T_r mixed [(3, .gd true .no), (4, .gd true .no), (5, .gd true .no), (6, .yes true)] [ps 2 (.opt 0 0), ps 11 (.opt 456 0), ps 154 (bv true), pb 0 37 [(iv 0), (iv 0)], pb 456 37 [(iv x), (iv y)]] (obs_cons (bf h99) (obs_cons (bf h99) (obs_cons (bf h99) (obs_cons (bf h99) obs_nil)))) ?_
        refine T_then (b := true) rfl rfl ?_
        refine T_seq ?_
        refine T_r mixed [] [ps 2 (.opt 0 0), ps 3 (iv 2), pb 0 37 [(iv 0), (iv 0)]] (obs_nil) ?_
        rw [(named_some (s := s) h1 h2 h3 h4 h5 (val_d (fun c => h6 c.1) (fun c => h37 c.1) (fun c => h69 c.1) h88 h94 h95) (j := (x, y)) (by unfold jOf stepsOf; rw [if_neg (by omega)]; exact Prod.ext (by show _ = x; omega) (by show _ = y; omega))).trans (checked_no1 h99)]
        exact T_ret fun cx_ a_ hI_ => rt hc0 [ps 2 (.opt 0 0), ps 3 (iv 2), pb 0 37 [(iv 0), (iv 0)]] [0] hI_
      refine T_else (b := (perfB (((numS (dOf s)).1) - 1))) rfl (Bool.eq_false_iff.2 h95) ?_
      refine T_seq ?_
      refine T_r mixed [(1, .call [] [(sv (st (qOf s))), (sv (st [100]))] [] (sv (st (Lib.trimS (qOf s) [100]))) []), (2, .val (.av (.bool (decide ((Lib.trimS (qOf s) [100]) = ([] : List UInt8))))))] [ps 0 (sv (st s)), ps 2 (.opt 0 0), ps 4 (sv (st (tOf s))), ps 11 (.opt 456 0), ps 12 (nv ((qOf s).length)), ps 120 (bv (decide ((Lib.trimS (qOf s) [100]) = ([] : List UInt8)))), pb 0 37 [(iv 0), (iv 0)], pb 456 37 [(iv (((numS (dOf s)).1) - 1)), (iv ((12 * ((((numS (dOf s)).1) - 1) / 7)) + (Pi.nat7 ((((numS (dOf s)).1) - 1) % 7))))]] (obs_cons (trim_pc (qOf s) [100] (by omega) (by decide) (one_ascii (by decide))) (obs_cons (rfl : [(sv (st (qOf s))), (sv (st ([100] : List UInt8)))] = renL (sigi [] 816) [(sv (st (qOf s))), (sv (st [100]))]) (obs_cons (st_eq _ _ : ((st (Lib.trimS (qOf s) [100])).toList == (st ([] : List UInt8)).toList) = decide ((Lib.trimS (qOf s) [100]) = ([] : List UInt8))) obs_nil))) ?_
      refine T_th (decide_eq_true h94) ?_
      refine T_r mixed [] [ps 0 (sv (st s)), ps 2 (.opt 0 0), ps 4 (sv (st (tOf s))), ps 11 (.opt 456 0), pb 0 37 [(iv 0), (iv 0)], pb 456 37 [(iv (((numS (dOf s)).1) - 1)), (iv (((12 * ((((numS (dOf s)).1) - 1) / 7)) + (Pi.nat7 ((((numS (dOf s)).1) - 1) % 7))) - ((((qOf s).length : Nat) : Int) + 1)))]] (obs_cons (by simp only [InK]; omega : InK .i64 ((((qOf s).length : Nat) : Int) + 1)) (obs_cons (by simp only [InK]; omega : InK .i64 (((12 * ((((numS (dOf s)).1) - 1) / 7)) + (Pi.nat7 ((((numS (dOf s)).1) - 1) % 7))) - ((((qOf s).length : Nat) : Int) + 1))) obs_nil)) ?_
      refine T_blk <| T_seq <| T_seq ?_
      refine T_r mixed [] [ps 0 (sv (st s)), ps 2 (.opt 0 0), ps 11 (.opt 456 0), ps 134 (bv (decide ((((tOf s).length : Nat) : Int) < ((s.length : Nat) : Int)))), pb 0 37 [(iv 0), (iv 0)], pb 456 37 [(iv (((numS (dOf s)).1) - 1)), (iv (((12 * ((((numS (dOf s)).1) - 1) / 7)) + (Pi.nat7 ((((numS (dOf s)).1) - 1) % 7))) - ((((qOf s).length : Nat) : Int) + 1)))]] (obs_nil) ?_
      by_cases h101 : (((tOf s).length : Nat) : Int) < ((s.length : Nat) : Int)
      · refine T_th (decide_eq_true h101) ?_
        refine T_r mixed [] [ps 0 (sv (st s)), ps 2 (.opt 0 0), ps 11 (.opt 456 0), pb 0 37 [(iv 0), (iv 0)], pb 456 37 [(iv (0 - (((numS (dOf s)).1) - 1))), (iv (0 - (((12 * ((((numS (dOf s)).1) - 1) / 7)) + (Pi.nat7 ((((numS (dOf s)).1) - 1) % 7))) - ((((qOf s).length : Nat) : Int) + 1))))]] (obs_cons (by simp only [InK]; omega : InK .i64 (0 - (((numS (dOf s)).1) - 1))) (obs_cons (by simp only [InK]; omega : InK .i64 (0 - (((12 * ((((numS (dOf s)).1) - 1) / 7)) + (Pi.nat7 ((((numS (dOf s)).1) - 1) % 7))) - ((((qOf s).length : Nat) : Int) + 1)))) obs_nil)) ?_
        refine T_seq <| T_seq ?_
        obtain ⟨x, hx⟩ : ∃ x, x = 0 - (((numS (dOf s)).1) - 1) := ⟨_, rfl⟩
        obtain ⟨y, hy⟩ : ∃ y, y = 0 - (((12 * ((((numS (dOf s)).1) - 1) / 7)) + (Pi.nat7 ((((numS (dOf s)).1) - 1) % 7))) - ((((qOf s).length : Nat) : Int) + 1)) := ⟨_, rfl⟩
        refine T_wk (Wk.eq (show _ = [ps 0 (sv (st s)), ps 2 (.opt 0 0), ps 11 (.opt 456 0), pb 0 37 [(iv 0), (iv 0)], pb 456 37 [(iv x), (iv y)]] from by rw [hx, hy])) ?_
        refine T_r mixed [(1, .call [] [(.agg [(iv x), (iv y)])] [] (.tup [(sv (st ((nameS x y).1))), (iv ((nameS x y).2))]) [])] [ps 0 (sv (st s)), ps 2 (.opt 0 0), ps 11 (.opt 456 0), ps 13 (sv (st ((nameS x y).1))), ps 14 (iv ((nameS x y).2)), pb 0 37 [(iv 0), (iv 0)], pb 456 37 [(iv x), (iv y)]] (obs_cons (name_pc x y (by unfold Pi.I64; omega) (by unfold Pi.I64; omega)) (obs_cons (rfl : Ren0 1024 [(.agg [(iv x), (iv y)])]) obs_nil)) ?_
        refine T_seq ?_
        by_cases h102 : ((nameS x y).2) = 0
        · refine T_r mixed [(3, .gd false (.no)), (4, .gd false (.no)), (5, .gd false (.val (.av (.bool (!decide (((nameS x y).1) = s)))))), (6, .yes false)] [ps 2 (.opt 0 0), ps 11 (.opt 456 0), ps 154 (bv (!(decide (((nameS x y).1) = s)))), pb 0 37 [(iv 0), (iv 0)], pb 456 37 [(iv x), (iv y)]] (obs_cons (bt h102) (obs_cons (bt h102) (obs_cons (bt h102) (obs_cons (st_ne _ _ : (!((st ((nameS x y).1)).toList == (st s).toList)) = !decide (((nameS x y).1) = s)) (obs_cons (bt h102) obs_nil))))) ?_
          by_cases h103 : ((nameS x y).1) = s
          · refine T_el (bt h103) ?_
            refine T_skip <| T_seq ?_
            refine T_r mixed [] [ps 2 (.opt 0 0), ps 3 (iv 0), pb 0 37 [(iv x), (iv y)]] (obs_nil) ?_
            rw [(named_some (s := s) h1 h2 h3 h4 h5 (val_dd (fun c => h6 c.1) (fun c => h37 c.1) (fun c => h69 c.1) h88 h94 h95) (j := (x, y)) (by unfold jOf stepsOf; rw [if_pos (by omega)]; exact Prod.ext (by show _ = x; omega) (by show _ = y; omega))).trans (checked_yes h102 h103)]
            exact T_ret fun cx_ a_ hI_ => rt hc0 [ps 2 (.opt 0 0), ps 3 (iv 0), pb 0 37 [(iv x), (iv y)]] [0] hI_
          refine T_th (bf h103) ?_
          refine T_seq ?_
          refine T_r mixed [] [ps 2 (.opt 0 0), ps 3 (iv 2), pb 0 37 [(iv 0), (iv 0)]] (obs_nil) ?_
          rw [(named_some (s := s) h1 h2 h3 h4 h5 (val_dd (fun c => h6 c.1) (fun c => h37 c.1) (fun c => h69 c.1) h88 h94 h95) (j := (x, y)) (by unfold jOf stepsOf; rw [if_pos (by omega)]; exact Prod.ext (by show _ = x; omega) (by show _ = y; omega))).trans (checked_no2 h103)]
          exact T_ret fun cx_ a_ hI_ => rt hc0 [ps 2 (.opt 0 0), ps 3 (iv 2), pb 0 37 [(iv 0), (iv 0)]] [0] hI_
        refine T_r mixed [(3, .gd true .no), (4, .gd true .no), (5, .gd true .no), (6, .yes true)] [ps 2 (.opt 0 0), ps 11 (.opt 456 0), ps 154 (bv true), pb 0 37 [(iv 0), (iv 0)], pb 456 37 [(iv x), (iv y)]] (obs_cons (bf h102) (obs_cons (bf h102) (obs_cons (bf h102) (obs_cons (bf h102) obs_nil)))) ?_
        refine T_then (b := true) rfl rfl ?_
        refine T_seq ?_
        refine T_r mixed [] [ps 2 (.opt 0 0), ps 3 (iv 2), pb 0 37 [(iv 0), (iv 0)]] (obs_nil) ?_
        rw [(named_some (s := s) h1 h2 h3 h4 h5 (val_dd (fun c => h6 c.1) (fun c => h37 c.1) (fun c => h69 c.1) h88 h94 h95) (j := (x, y)) (by unfold jOf stepsOf; rw [if_pos (by omega)]; exact Prod.ext (by show _ = x; omega) (by show _ = y; omega))).trans (checked_no1 h102)]
        exact T_ret fun cx_ a_ hI_ => rt hc0 [ps 2 (.opt 0 0), ps 3 (iv 2), pb 0 37 [(iv 0), (iv 0)]] [0] hI_
      refine T_el (decide_eq_false h101) ?_
      refine T_skip <| T_seq <| T_seq ?_
      obtain ⟨x, hx⟩ : ∃ x, x = ((numS (dOf s)).1) - 1 := ⟨_, rfl⟩
      obtain ⟨y, hy⟩ : ∃ y, y = ((12 * ((((numS (dOf s)).1) - 1) / 7)) + (Pi.nat7 ((((numS (dOf s)).1) - 1) % 7))) - ((((qOf s).length : Nat) : Int) + 1) := ⟨_, rfl⟩
      refine T_wk (Wk.eq (show _ = [ps 0 (sv (st s)), ps 2 (.opt 0 0), ps 11 (.opt 456 0), ps 134 (bv (decide ((((tOf s).length : Nat) : Int) < ((s.length : Nat) : Int)))), pb 0 37 [(iv 0), (iv 0)], pb 456 37 [(iv x), (iv y)]] from by rw [hx, hy])) ?_
      refine T_r mixed [(1, .call [] [(.agg [(iv x), (iv y)])] [] (.tup [(sv (st ((nameS x y).1))), (iv ((nameS x y).2))]) [])] [ps 0 (sv (st s)), ps 2 (.opt 0 0), ps 11 (.opt 456 0), ps 13 (sv (st ((nameS x y).1))), ps 14 (iv ((nameS x y).2)), pb 0 37 [(iv 0), (iv 0)], pb 456 37 [(iv x), (iv y)]] (obs_cons (name_pc x y (by unfold Pi.I64; omega) (by unfold Pi.I64; omega)) (obs_cons (rfl : Ren0 944 [(.agg [(iv x), (iv y)])]) obs_nil)) ?_
      refine T_seq ?_
      by_cases h104 : ((nameS x y).2) = 0
      · refine T_r mixed [(3, .gd false (.no)), (4, .gd false (.no)), (5, .gd false (.val (.av (.bool (!decide (((nameS x y).1) = s)))))), (6, .yes false)] [ps 2 (.opt 0 0), ps 11 (.opt 456 0), ps 154 (bv (!(decide (((nameS x y).1) = s)))), pb 0 37 [(iv 0), (iv 0)], pb 456 37 [(iv x), (iv y)]] (obs_cons (bt h104) (obs_cons (bt h104) (obs_cons (bt h104) (obs_cons (st_ne _ _ : (!((st ((nameS x y).1)).toList == (st s).toList)) = !decide (((nameS x y).1) = s)) (obs_cons (bt h104) obs_nil))))) ?_
        by_cases h105 : ((nameS x y).1) = s
        · refine T_el (bt h105) ?_
          refine T_skip <| T_seq ?_
          refine T_r mixed [] [ps 2 (.opt 0 0), ps 3 (iv 0), pb 0 37 [(iv x), (iv y)]] (obs_nil) ?_
          rw [(named_some (s := s) h1 h2 h3 h4 h5 (val_dd (fun c => h6 c.1) (fun c => h37 c.1) (fun c => h69 c.1) h88 h94 h95) (j := (x, y)) (by unfold jOf stepsOf; rw [if_neg (by omega)]; exact Prod.ext (by show _ = x; omega) (by show _ = y; omega))).trans (checked_yes h104 h105)]
          exact T_ret fun cx_ a_ hI_ => rt hc0 [ps 2 (.opt 0 0), ps 3 (iv 0), pb 0 37 [(iv x), (iv y)]] [0] hI_
        refine T_th (bf h105) ?_
        refine T_seq ?_
        refine T_r mixed [] [ps 2 (.opt 0 0), ps 3 (iv 2), pb 0 37 [(iv 0), (iv 0)]] (obs_nil) ?_
        rw [(named_some (s := s) h1 h2 h3 h4 h5 (val_dd (fun c => h6 c.1) (fun c => h37 c.1) (fun c => h69 c.1) h88 h94 h95) (j := (x, y)) (by unfold jOf stepsOf; rw [if_neg (by omega)]; exact Prod.ext (by show _ = x; omega) (by show _ = y; omega))).trans (checked_no2 h105)]
        exact T_ret fun cx_ a_ hI_ => rt hc0 [ps 2 (.opt 0 0), ps 3 (iv 2), pb 0 37 [(iv 0), (iv 0)]] [0] hI_
      refine T_r mixed [(3, .gd true .no), (4, .gd true .no), (5, .gd true .no), (6, .yes true)] [ps 2 (.opt 0 0), ps 11 (.opt 456 0), ps 154 (bv true), pb 0 37 [(iv 0), (iv 0)], pb 456 37 [(iv x), (iv y)]] (obs_cons (bf h104) (obs_cons (bf h104) (obs_cons (bf h104) (obs_cons (bf h104) obs_nil)))) ?_
      refine T_then (b := true) rfl rfl ?_
      refine T_seq ?_
      refine T_r mixed [] [ps 2 (.opt 0 0), ps 3 (iv 2), pb 0 37 [(iv 0), (iv 0)]] (obs_nil) ?_
      rw [(named_some (s := s) h1 h2 h3 h4 h5 (val_dd (fun c => h6 c.1) (fun c => h37 c.1) (fun c => h69 c.1) h88 h94 h95) (j := (x, y)) (by unfold jOf stepsOf; rw [if_neg (by omega)]; exact Prod.ext (by show _ = x; omega) (by show _ = y; omega))).trans (checked_no1 h104)]
      exact T_ret fun cx_ a_ hI_ => rt hc0 [ps 2 (.opt 0 0), ps 3 (iv 2), pb 0 37 [(iv 0), (iv 0)]] [0] hI_
    refine T_r mixed [(1, .call [] [(sv (st (qOf s))), (sv (st [100]))] [] (sv (st (Lib.trimS (qOf s) [100]))) []), (2, .val (.av (.bool (decide ((Lib.trimS (qOf s) [100]) = ([] : List UInt8)))))), (4, .gd false .no), (5, .gd false .no), (6, .gd false .no), (7, .yes false)] [ps 0 (sv (st s)), ps 2 (.opt 0 0), ps 4 (sv (st (tOf s))), ps 6 (sv (st (qOf s))), ps 11 (.opt 456 0), ps 12 (nv ((qOf s).length)), ps 106 (bv false), pb 0 37 [(iv 0), (iv 0)], pb 456 37 [(iv (((numS (dOf s)).1) - 1)), (iv ((12 * ((((numS (dOf s)).1) - 1) / 7)) + (Pi.nat7 ((((numS (dOf s)).1) - 1) % 7))))]] (obs_cons (trim_pc (qOf s) [100] (by omega) (by decide) (one_ascii (by decide))) (obs_cons (rfl : [(sv (st (qOf s))), (sv (st ([100] : List UInt8)))] = renL (sigi [] 744) [(sv (st (qOf s))), (sv (st [100]))]) (obs_cons (st_eq _ _ : ((st (Lib.trimS (qOf s) [100])).toList == (st ([] : List UInt8)).toList) = decide ((Lib.trimS (qOf s) [100]) = ([] : List UInt8))) (obs_cons (decide_eq_false h94) (obs_cons (decide_eq_false h94) (obs_cons (decide_eq_false h94) (obs_cons (decide_eq_false h94) obs_nil))))))) ?_
    refine T_else (b := false) rfl rfl ?_
    refine T_seq ?_
    refine T_r mixed [(1, .call [] [(sv (st (qOf s))), (sv (st [100]))] [] (sv (st (Lib.trimS (qOf s) [100]))) []), (2, .val (.av (.bool (decide ((Lib.trimS (qOf s) [100]) = ([] : List UInt8))))))] [ps 0 (sv (st s)), ps 2 (.opt 0 0), ps 4 (sv (st (tOf s))), ps 11 (.opt 456 0), ps 12 (nv ((qOf s).length)), ps 120 (bv (decide ((Lib.trimS (qOf s) [100]) = ([] : List UInt8)))), pb 0 37 [(iv 0), (iv 0)], pb 456 37 [(iv (((numS (dOf s)).1) - 1)), (iv ((12 * ((((numS (dOf s)).1) - 1) / 7)) + (Pi.nat7 ((((numS (dOf s)).1) - 1) % 7))))]] (obs_cons (trim_pc (qOf s) [100] (by omega) (by decide) (one_ascii (by decide))) (obs_cons (rfl : [(sv (st (qOf s))), (sv (st ([100] : List UInt8)))] = renL (sigi [] 816) [(sv (st (qOf s))), (sv (st [100]))]) (obs_cons (st_eq _ _ : ((st (Lib.trimS (qOf s) [100])).toList == (st ([] : List UInt8)).toList) = decide ((Lib.trimS (qOf s) [100]) = ([] : List UInt8))) obs_nil))) ?_
    refine T_el (decide_eq_false h94) ?_
    refine T_seq ?_
    refine T_r mixed [] [ps 2 (.opt 0 0), ps 3 (iv 2), pb 0 37 [(iv 0), (iv 0)]] (obs_nil) ?_
    rw [named_none (s := s) h1 h2 h3 h4 h5 (val_no (fun c => h6 c.1) (fun c => h37 c.1) (fun c => h69 c.1) h88 h94)]
    exact T_ret fun cx_ a_ hI_ => rt hc0 [ps 2 (.opt 0 0), ps 3 (iv 2), pb 0 37 [(iv 0), (iv 0)]] [0] hI_
  refine T_r mixed [(3, .gd true .no), (4, .gd true .no), (5, .yes true), (7, .gd true .no), (8, .gd true .no)] [ps 0 (sv (st s)), ps 2 (.opt 0 0), ps 4 (sv (st (tOf s))), ps 6 (sv (st (qOf s))), ps 7 (iv ((numS (dOf s)).1)), ps 40 (bv true), pb 0 37 [(iv 0), (iv 0)]] (obs_cons (congrArg Bool.not (Bool.eq_false_iff.2 h1) : (!((numS (dOf s)).2)) = true) (obs_cons (congrArg Bool.not (Bool.eq_false_iff.2 h1) : (!((numS (dOf s)).2)) = true) (obs_cons (congrArg Bool.not (Bool.eq_false_iff.2 h1) : (!((numS (dOf s)).2)) = true) (obs_cons (rfl : true = true) (obs_cons (rfl : true = true) obs_nil))))) ?_
  refine T_then (b := true) rfl rfl ?_
  refine T_seq ?_
  refine T_r mixed [] [ps 2 (.opt 0 0), ps 3 (iv 2), pb 0 37 [(iv 0), (iv 0)]] (obs_nil) ?_
  rw [named_form (s := s) (.inl h1)]
  exact T_ret fun cx_ a_ hI_ => rt hc0 [ps 2 (.opt 0 0), ps 3 (iv 2), pb 0 37 [(iv 0), (iv 0)]] [0] hI_
theorem named_pc (s : List UInt8) (hs : s.length ≤ 9223372036854775807) : PC Tryz.prog 16 [(sv (st s))] [] ((.tup [(.agg [(iv ((namedS s).1.1)), (iv ((namedS s).1.2))]), (iv ((namedS s).2))])) [] := pc_trim [none] rfl (fun i => by rcases i with _ | _ | i <;> rfl) (named_pc0 s hs)
end Go.Proofs.YtbgnegmjbnlemaaGreatDoor.Pm
namespace Go.Proofs.YtbgnegmjbnlemaaGreatDoor.Pm
open Go Go.Proofs.YtbgnegmjbnlemaaGreatDoor.Pi

abbrev M4P (r : Int × Int × Int × Int) : PV := .tup [.agg [iv r.1, iv r.2.1, iv r.2.2.1], iv r.2.2.2]
abbrev M3P (r : Int × Int × Int) : PV := .tup [.agg [iv r.1, iv r.2.1], iv r.2.2]
theorem psteps_pc (l a o : Int) (h : rightB l a o = true) : PC Tryz.prog 33 [pitP l a o] [] (iv (Pi.steps l o)) [] :=
  pc_flat (fn_ok Tryz.func33 (by kernel_rfl) (by kernel_rfl)) rfl rfl fun w => steps_any l a o w h
theorem phalves_pc (l a o : Int) (ha : -1000000 ≤ a ∧ a ≤ 1000000) (ho : -1000000 ≤ o ∧ o ≤ 1000000) : PC Tryz.prog 34 [pitP l a o] [] (iv (Pi.halves l a o)) [] :=
  pc_flat (fn_ok Tryz.func34 (by kernel_rfl) (by kernel_rfl)) rfl rfl fun w => halves_any l a o w ha ho
theorem between_pc (l a o x y z : Int) : PC Tryz.prog 14 [pitP l a o, pitP x y z] [] (M3P (Pi.between l a o x y z)) [] :=
  pc_flat (fn_ok Tryz.func14 (by kernel_rfl) (by kernel_rfl)) rfl rfl fun w => between_any l a o x y z w
theorem ref_psteps_pc (l a o : Int) (h : rightB l a o = true) : PC Tryz.prog 20 [pitP l a o] [] (iv (Pi.steps l o)) [] :=
  pc_flat (fn_ok Tryz.func20 (by kernel_rfl) (by kernel_rfl)) rfl rfl fun w => ref_steps_any l a o w h
theorem ref_phalves_pc (l a o : Int) (h : rightB l a o = true) : PC Tryz.prog 21 [pitP l a o] [] (iv (Pi.halves l a o)) [] :=
  pc_flat (fn_ok Tryz.func21 (by kernel_rfl) (by kernel_rfl)) rfl rfl fun w => ref_halves_any l a o w h
theorem ref_pat_pc (s h : Int) (h0 : -1000 ≤ s ∧ s ≤ 1000) (h1 : -100000 ≤ h ∧ h ≤ 100000) : PC Tryz.prog 19 [iv s, iv h] [] (.tup [.agg [iv (s % 7), iv (h - white s), iv (s / 7)], bv (rightB (s % 7) (h - white s) (s / 7))]) [] :=
  pc_flat (fn_ok Tryz.func19 (by kernel_rfl) (by kernel_rfl)) rfl rfl fun w => ref_at_any s h w h0 h1
theorem between_i64 (l a o x y z : Int) : Pi.I64 (Pi.between l a o x y z).1 ∧ Pi.I64 (Pi.between l a o x y z).2.1 := by
  unfold Pi.between Pi.I64
  split
  · rename_i h
    rw [Bool.and_eq_true] at h
    have b1 := bounds h.1
    have b2 := bounds h.2
    dsimp only
    omega
  · decide
end Go.Proofs.YtbgnegmjbnlemaaGreatDoor.Pm
namespace Go.Proofs.YtbgnegmjbnlemaaGreatDoor.Pm
open Go Go.Proofs.YtbgnegmjbnlemaaGreatDoor.Pi

set_option maxRecDepth 100000 in
set_option maxHeartbeats 4000000 in
theorem move_pc0 (l a o s h : Int) (is : Pi.I64 s) (ih : Pi.I64 h) : PC Tryz.prog 12 [(.agg [(iv l), (iv a), (iv o)]), (.agg [(iv s), (iv h)])] [] (M4P (Pi.move l a o s h)) [none] := by
  refine pc_intro Tryz.func12 rfl (by kernel_rfl) (Nat.le_of_ble_eq_true rfl) (by kernel_rfl) (l0 := [ps 0 (.agg [(iv l), (iv a), (iv o)]), ps 1 (.agg [(iv s), (iv h)])]) rfl (fun c0 Bor hc0 => ?_)
  refine T_seq ?_
  refine T_r mixed [] [ps 2 (.opt 0 0), ps 3 (.opt 8 0), ps 4 (.opt 16 0), pb 0 23 [(iv l), (iv a), (iv o)], pb 8 37 [(iv s), (iv h)], pb 16 23 [(iv 0), (iv 0), (iv 0)]] (obs_nil) ?_
  refine T_seq <| T_seq ?_
  refine T_r mixed [(1, .call [] [(.agg [(iv l), (iv a), (iv o)])] [] (bv (rightB l a o)) [])] [ps 2 (.opt 0 0), ps 3 (.opt 8 0), ps 4 (.opt 16 0), ps 9 (bv (!(rightB l a o))), pb 0 23 [(iv l), (iv a), (iv o)], pb 8 37 [(iv s), (iv h)], pb 16 23 [(iv 0), (iv 0), (iv 0)]] (obs_cons (pright_pc l a o) (obs_cons (rfl : Ren0 40 [(.agg [(iv l), (iv a), (iv o)])]) obs_nil)) ?_
  by_cases h1 : (rightB l a o) = true
  · refine T_el (congrArg Bool.not h1) ?_
    refine T_skip <| T_seq <| T_seq ?_
    refine T_r mixed [(1, .call [] [(.agg [(iv s), (iv h)])] [] (bv (withinB s h)) [])] [ps 2 (.opt 0 0), ps 3 (.opt 8 0), ps 4 (.opt 16 0), ps 13 (bv (!(withinB s h))), pb 0 23 [(iv l), (iv a), (iv o)], pb 8 37 [(iv s), (iv h)], pb 16 23 [(iv 0), (iv 0), (iv 0)]] (obs_cons (pwithin_pc s h is ih) (obs_cons (rfl : Ren0 64 [(.agg [(iv s), (iv h)])]) obs_nil)) ?_
    by_cases h2 : (withinB s h) = true
    · refine T_el (congrArg Bool.not h2) ?_
      refine T_skip <| T_seq ?_
      have hb := bounds h1
      have hr := rightB_iff.1 h1
      have hw := withinB_iff.1 h2
      have hq := halves_bd (Pi.steps l o + s) (by omega)
      refine T_r mixed [] [ps 2 (.opt 0 0), ps 3 (.opt 8 0), ps 4 (.opt 16 0), ps 6 (.opt 80 0), pb 0 23 [(iv l), (iv a), (iv o)], pb 8 37 [(iv s), (iv h)], pb 16 23 [(iv 0), (iv 0), (iv 0)], pb 80 23 [(iv 0), (iv 0), (iv 0)]] (obs_nil) ?_
      refine T_seq ?_
      refine T_rd mixed [(1, .call [] [(.agg [(iv l), (iv a), (iv o)])] [] (iv (Pi.steps l o)) []), (5, .call [] [(iv ((Pi.steps l o) + s)), (iv 7)] [] (.tup [(iv (((Pi.steps l o) + s) / 7)), (iv (((Pi.steps l o) + s) % 7))]) [])] [[], [0], [], [2], [0, 1, 2, 3], [0, 1, 2, 3, 4], [0, 1, 2, 3, 4, 5], [0, 1, 2, 3, 4, 5, 6], [0, 1, 2, 3, 4, 5, 6], [0, 1, 2, 3, 4, 5, 6, 7], [0, 1, 2, 3, 4, 5, 6, 7, 9], [0, 1, 2, 3, 4, 5, 6, 7, 8, 9, 10], [0, 1, 2, 3, 4, 5, 6, 7, 8, 9, 10, 11]] [([32], [1, 4]), ([34], [32]), ([36], [6]), ([38], [17, 36]), ([40], [34, 38]), ([42], [40]), ([30], [42]), ([44], [30]), ([46], [30]), ([48], [12]), ([161], [44, 48, 161]), ([50], [12]), ([161], [46, 50, 161])] [ps 2 (.opt 0 0), ps 3 (.opt 8 0), ps 4 (.opt 16 0), ps 6 (.opt 80 0), pb 0 23 [(iv l), (iv a), (iv o)], pb 8 37 [(iv s), (iv h)], pb 16 23 [(iv 0), (iv 0), (iv 0)], pb 80 23 [(iv (((Pi.steps l o) + s) % 7)), (iv 0), (iv (((Pi.steps l o) + s) / 7))]] (obs_cons (psteps_pc l a o h1) (obs_cons (rfl : Ren0 96 [(.agg [(iv l), (iv a), (iv o)])]) (obs_cons (by simp only [InK]; omega : InK .i64 ((Pi.steps l o) + s)) (obs_cons (pfloor_pc ((Pi.steps l o) + s) (by omega) (by omega)) (obs_cons (rfl : Ren0 128 [(iv ((Pi.steps l o) + s)), (iv 7)]) obs_nil))))) ?_
      refine T_seq ?_
      refine T_rd mixed [(1, .call [] [(.agg [(iv l), (iv a), (iv o)])] [] (iv (Pi.halves l a o)) []), (6, .call [] [(.agg [(iv (((Pi.steps l o) + s) % 7)), (iv 0), (iv (((Pi.steps l o) + s) / 7))])] [] (iv (Pi.halves (((Pi.steps l o) + s) % 7) 0 (((Pi.steps l o) + s) / 7))) [])] [[], [0], [], [2], [0, 1, 2, 3], [], [0, 1, 5], [0, 1, 2, 3, 4, 5, 6], [0, 1, 2, 3, 4, 5, 6, 7], [0, 1, 2, 3, 4, 5, 6, 7, 8]] [([52], [1, 4]), ([54], [52]), ([56], [6]), ([58], [17, 56]), ([60], [54, 58]), ([62], [12, 161]), ([64], [62]), ([66], [60, 64]), ([68], [12]), ([161], [66, 68, 161])] [ps 4 (.opt 16 0), ps 6 (.opt 80 0), pb 16 23 [(iv 0), (iv 0), (iv 0)], pb 80 23 [(iv (((Pi.steps l o) + s) % 7)), (iv (((Pi.halves l a o) + h) - (Pi.halves (((Pi.steps l o) + s) % 7) 0 (((Pi.steps l o) + s) / 7)))), (iv (((Pi.steps l o) + s) / 7))]] (obs_cons (phalves_pc l a o (by omega) (by omega)) (obs_cons (rfl : Ren0 200 [(.agg [(iv l), (iv a), (iv o)])]) (obs_cons (by simp only [InK]; omega : InK .i64 ((Pi.halves l a o) + h)) (obs_cons (phalves_pc (((Pi.steps l o) + s) % 7) 0 (((Pi.steps l o) + s) / 7) (by omega) (by omega)) (obs_cons (rfl : Ren0 240 [(.agg [(iv (((Pi.steps l o) + s) % 7)), (iv 0), (iv (((Pi.steps l o) + s) / 7))])]) (obs_cons (by simp only [InK]; omega : InK .i64 (((Pi.halves l a o) + h) - (Pi.halves (((Pi.steps l o) + s) % 7) 0 (((Pi.steps l o) + s) / 7)))) obs_nil)))))) ?_
      refine T_seq <| T_seq ?_
      refine T_r mixed [(1, .call [] [(.agg [(iv (((Pi.steps l o) + s) % 7)), (iv (((Pi.halves l a o) + h) - (Pi.halves (((Pi.steps l o) + s) % 7) 0 (((Pi.steps l o) + s) / 7)))), (iv (((Pi.steps l o) + s) / 7))])] [] (bv (rightB (((Pi.steps l o) + s) % 7) (((Pi.halves l a o) + h) - (Pi.halves (((Pi.steps l o) + s) % 7) 0 (((Pi.steps l o) + s) / 7))) (((Pi.steps l o) + s) / 7))) [])] [ps 4 (.opt 16 0), ps 6 (.opt 80 0), ps 37 (bv (!(rightB (((Pi.steps l o) + s) % 7) (((Pi.halves l a o) + h) - (Pi.halves (((Pi.steps l o) + s) % 7) 0 (((Pi.steps l o) + s) / 7))) (((Pi.steps l o) + s) / 7)))), pb 16 23 [(iv 0), (iv 0), (iv 0)], pb 80 23 [(iv (((Pi.steps l o) + s) % 7)), (iv (((Pi.halves l a o) + h) - (Pi.halves (((Pi.steps l o) + s) % 7) 0 (((Pi.steps l o) + s) / 7)))), (iv (((Pi.steps l o) + s) / 7))]] (obs_cons (pright_pc (((Pi.steps l o) + s) % 7) (((Pi.halves l a o) + h) - (Pi.halves (((Pi.steps l o) + s) % 7) 0 (((Pi.steps l o) + s) / 7))) (((Pi.steps l o) + s) / 7)) (obs_cons (rfl : Ren0 280 [(.agg [(iv (((Pi.steps l o) + s) % 7)), (iv (((Pi.halves l a o) + h) - (Pi.halves (((Pi.steps l o) + s) % 7) 0 (((Pi.steps l o) + s) / 7)))), (iv (((Pi.steps l o) + s) / 7))])]) obs_nil)) ?_
      by_cases h3 : (rightB (((Pi.steps l o) + s) % 7) (((Pi.halves l a o) + h) - (Pi.halves (((Pi.steps l o) + s) % 7) 0 (((Pi.steps l o) + s) / 7))) (((Pi.steps l o) + s) / 7)) = true
      · refine T_el (congrArg Bool.not h3) ?_
        refine T_skip <| T_seq ?_
        refine T_r mixed [] [ps 4 (.opt 16 0), ps 5 (iv 0), pb 16 23 [(iv (((Pi.steps l o) + s) % 7)), (iv (((Pi.halves l a o) + h) - (Pi.halves (((Pi.steps l o) + s) % 7) 0 (((Pi.steps l o) + s) / 7)))), (iv (((Pi.steps l o) + s) / 7))]] (obs_nil) ?_
        rw [move_at h1 h2, at_yes h3]
        exact T_ret fun cx_ a_ hI_ => rt hc0 [ps 4 (.opt 0 0), ps 5 (iv 0), pb 0 23 [(iv (((Pi.steps l o) + s) % 7)), (iv (((Pi.halves l a o) + h) - (Pi.halves (((Pi.steps l o) + s) % 7) 0 (((Pi.steps l o) + s) / 7)))), (iv (((Pi.steps l o) + s) / 7))]] [16] hI_
      refine T_th (congrArg Bool.not (Bool.eq_false_iff.2 h3)) ?_
      refine T_seq ?_
      refine T_r mixed [] [ps 4 (.opt 16 0), ps 5 (iv 3), pb 16 23 [(iv 0), (iv 0), (iv 0)]] (obs_nil) ?_
      rw [move_at h1 h2, at_no (Bool.eq_false_iff.2 h3)]
      exact T_ret fun cx_ a_ hI_ => rt hc0 [ps 4 (.opt 0 0), ps 5 (iv 3), pb 0 23 [(iv 0), (iv 0), (iv 0)]] [16] hI_
    refine T_th (congrArg Bool.not (Bool.eq_false_iff.2 h2)) ?_
    refine T_seq ?_
    refine T_r mixed [] [ps 4 (.opt 16 0), ps 5 (iv 3), pb 16 23 [(iv 0), (iv 0), (iv 0)]] (obs_nil) ?_
    rw [move_no2 h1 (Bool.eq_false_iff.2 h2)]
    exact T_ret fun cx_ a_ hI_ => rt hc0 [ps 4 (.opt 0 0), ps 5 (iv 3), pb 0 23 [(iv 0), (iv 0), (iv 0)]] [16] hI_
  refine T_th (congrArg Bool.not (Bool.eq_false_iff.2 h1)) ?_
  refine T_seq ?_
  refine T_r mixed [] [ps 4 (.opt 16 0), ps 5 (iv 2), pb 16 23 [(iv 0), (iv 0), (iv 0)]] (obs_nil) ?_
  rw [move_no1 (Bool.eq_false_iff.2 h1)]
  exact T_ret fun cx_ a_ hI_ => rt hc0 [ps 4 (.opt 0 0), ps 5 (iv 2), pb 0 23 [(iv 0), (iv 0), (iv 0)]] [16] hI_
theorem move_pc (l a o s h : Int) (is : Pi.I64 s) (ih : Pi.I64 h) : PC Tryz.prog 12 [(.agg [(iv l), (iv a), (iv o)]), (.agg [(iv s), (iv h)])] [] (M4P (Pi.move l a o s h)) [] := pc_trim [none] rfl (fun i => by cases i <;> rfl) (move_pc0 l a o s h is ih)
set_option maxRecDepth 100000 in
set_option maxHeartbeats 4000000 in
theorem ref_move_pc0 (l a o s h : Int) (ha : Pi.I64 a) : PC Tryz.prog 29 [(.agg [(iv l), (iv a), (iv o)]), (.agg [(iv s), (iv h)])] [] (M4P (Pi.move l a o s h)) [none] := by
  refine pc_intro Tryz.func29 rfl (by kernel_rfl) (Nat.le_of_ble_eq_true rfl) (by kernel_rfl) (l0 := [ps 0 (.agg [(iv l), (iv a), (iv o)]), ps 1 (.agg [(iv s), (iv h)])]) rfl (fun c0 Bor hc0 => ?_)
  refine T_seq ?_
  refine T_r mixed [] [ps 2 (.opt 0 0), ps 3 (.opt 8 0), ps 4 (.opt 16 0), pb 0 23 [(iv l), (iv a), (iv o)], pb 8 37 [(iv s), (iv h)], pb 16 23 [(iv 0), (iv 0), (iv 0)]] (obs_nil) ?_
  refine T_seq <| T_seq ?_
  refine T_r mixed [(1, .call [] [(.agg [(iv l), (iv a), (iv o)])] [] (bv (rightB l a o)) [])] [ps 2 (.opt 0 0), ps 3 (.opt 8 0), ps 4 (.opt 16 0), ps 10 (bv (!(rightB l a o))), pb 0 23 [(iv l), (iv a), (iv o)], pb 8 37 [(iv s), (iv h)], pb 16 23 [(iv 0), (iv 0), (iv 0)]] (obs_cons (ref_pright_pc l a o ha) (obs_cons (rfl : Ren0 40 [(.agg [(iv l), (iv a), (iv o)])]) obs_nil)) ?_
  by_cases h1 : (rightB l a o) = true
  · refine T_el (congrArg Bool.not h1) ?_
    refine T_skip <| T_seq <| T_seq ?_
    refine T_r mixed [(1, .call [] [(.agg [(iv s), (iv h)])] [] (bv (withinB s h)) [])] [ps 2 (.opt 0 0), ps 3 (.opt 8 0), ps 4 (.opt 16 0), ps 14 (bv (!(withinB s h))), pb 0 23 [(iv l), (iv a), (iv o)], pb 8 37 [(iv s), (iv h)], pb 16 23 [(iv 0), (iv 0), (iv 0)]] (obs_cons (ref_pwithin_pc s h) (obs_cons (rfl : Ren0 64 [(.agg [(iv s), (iv h)])]) obs_nil)) ?_
    by_cases h2 : (withinB s h) = true
    · refine T_el (congrArg Bool.not h2) ?_
      refine T_skip <| T_seq ?_
      have hb := bounds h1
      have hw := withinB_iff.1 h2
      refine T_rd mixed [(1, .call [] [(.agg [(iv l), (iv a), (iv o)])] [] (iv (Pi.steps l o)) []), (6, .call [] [(.agg [(iv l), (iv a), (iv o)])] [] (iv (Pi.halves l a o)) []), (10, .call [] [(iv ((Pi.steps l o) + s)), (iv ((Pi.halves l a o) + h))] [] (.tup [(.agg [(iv (((Pi.steps l o) + s) % 7)), (iv (((Pi.halves l a o) + h) - white ((Pi.steps l o) + s))), (iv (((Pi.steps l o) + s) / 7))]), (bv (rightB (((Pi.steps l o) + s) % 7) (((Pi.halves l a o) + h) - white ((Pi.steps l o) + s)) (((Pi.steps l o) + s) / 7)))]) [])] [[], [0], [], [2], [0, 1, 2, 3], [], [0, 1, 5], [], [7], [0, 1, 5, 6, 7, 8], [0, 1, 2, 3, 4, 5, 6, 7, 8, 9], [0, 1, 2, 3, 4, 5, 6, 7, 8, 9, 10], [0, 1, 2, 3, 4, 5, 6, 7, 8, 9, 10, 11], [0, 1, 2, 3, 4, 5, 6, 7, 8, 9, 10, 11], [], [0, 1, 2, 3, 4, 5, 6, 7, 8, 9, 10, 11, 12, 14], [0, 1, 2, 3, 4, 5, 6, 7, 8, 9, 10, 11, 12, 13, 14, 15]] [([34], [1, 4]), ([36], [34]), ([38], [6]), ([40], [17, 38]), ([42], [36, 40]), ([44], [1, 4]), ([46], [44]), ([48], [6]), ([50], [17, 48]), ([52], [46, 50]), ([54], [42, 52]), ([32], [54]), ([56], [32]), ([58], [32]), ([12, 385], []), ([385], [12, 56, 385]), ([14], [58])] [ps 4 (.opt 16 0), ps 6 (.opt 192 0), ps 7 (bv (rightB (((Pi.steps l o) + s) % 7) (((Pi.halves l a o) + h) - white ((Pi.steps l o) + s)) (((Pi.steps l o) + s) / 7))), pb 16 23 [(iv 0), (iv 0), (iv 0)], pb 192 23 [(iv (((Pi.steps l o) + s) % 7)), (iv (((Pi.halves l a o) + h) - white ((Pi.steps l o) + s))), (iv (((Pi.steps l o) + s) / 7))]] (obs_cons (ref_psteps_pc l a o h1) (obs_cons (rfl : Ren0 88 [(.agg [(iv l), (iv a), (iv o)])]) (obs_cons (by simp only [InK]; omega : InK .i64 ((Pi.steps l o) + s)) (obs_cons (ref_phalves_pc l a o h1) (obs_cons (rfl : Ren0 128 [(.agg [(iv l), (iv a), (iv o)])]) (obs_cons (by simp only [InK]; omega : InK .i64 ((Pi.halves l a o) + h)) (obs_cons (ref_pat_pc ((Pi.steps l o) + s) ((Pi.halves l a o) + h) (by omega) (by omega)) (obs_cons (rfl : Ren0 160 [(iv ((Pi.steps l o) + s)), (iv ((Pi.halves l a o) + h))]) obs_nil)))))))) ?_
      refine T_seq <| T_seq ?_
      refine T_r mixed [] [ps 4 (.opt 16 0), ps 6 (.opt 192 0), ps 31 (bv (!(rightB (((Pi.steps l o) + s) % 7) (((Pi.halves l a o) + h) - white ((Pi.steps l o) + s)) (((Pi.steps l o) + s) / 7)))), pb 16 23 [(iv 0), (iv 0), (iv 0)], pb 192 23 [(iv (((Pi.steps l o) + s) % 7)), (iv (((Pi.halves l a o) + h) - white ((Pi.steps l o) + s))), (iv (((Pi.steps l o) + s) / 7))]] (obs_nil) ?_
      by_cases h3 : (rightB (((Pi.steps l o) + s) % 7) (((Pi.halves l a o) + h) - white ((Pi.steps l o) + s)) (((Pi.steps l o) + s) / 7)) = true
      · refine T_el (congrArg Bool.not h3) ?_
        refine T_skip <| T_seq ?_
        refine T_r mixed [] [ps 4 (.opt 16 0), ps 5 (iv 0), pb 16 23 [(iv (((Pi.steps l o) + s) % 7)), (iv (((Pi.halves l a o) + h) - white ((Pi.steps l o) + s))), (iv (((Pi.steps l o) + s) / 7))]] (obs_nil) ?_
        rw [move_at h1 h2, at_white, if_pos h3]
        exact T_ret fun cx_ a_ hI_ => rt hc0 [ps 4 (.opt 0 0), ps 5 (iv 0), pb 0 23 [(iv (((Pi.steps l o) + s) % 7)), (iv (((Pi.halves l a o) + h) - white ((Pi.steps l o) + s))), (iv (((Pi.steps l o) + s) / 7))]] [16] hI_
      refine T_th (congrArg Bool.not (Bool.eq_false_iff.2 h3)) ?_
      refine T_seq ?_
      refine T_r mixed [] [ps 4 (.opt 16 0), ps 5 (iv 3), pb 16 23 [(iv 0), (iv 0), (iv 0)]] (obs_nil) ?_
      rw [move_at h1 h2, at_white, if_neg h3]
      exact T_ret fun cx_ a_ hI_ => rt hc0 [ps 4 (.opt 0 0), ps 5 (iv 3), pb 0 23 [(iv 0), (iv 0), (iv 0)]] [16] hI_
    refine T_th (congrArg Bool.not (Bool.eq_false_iff.2 h2)) ?_
    refine T_seq ?_
    refine T_r mixed [] [ps 4 (.opt 16 0), ps 5 (iv 3), pb 16 23 [(iv 0), (iv 0), (iv 0)]] (obs_nil) ?_
    rw [move_no2 h1 (Bool.eq_false_iff.2 h2)]
    exact T_ret fun cx_ a_ hI_ => rt hc0 [ps 4 (.opt 0 0), ps 5 (iv 3), pb 0 23 [(iv 0), (iv 0), (iv 0)]] [16] hI_
  refine T_th (congrArg Bool.not (Bool.eq_false_iff.2 h1)) ?_
  refine T_seq ?_
  refine T_r mixed [] [ps 4 (.opt 16 0), ps 5 (iv 2), pb 16 23 [(iv 0), (iv 0), (iv 0)]] (obs_nil) ?_
  rw [move_no1 (Bool.eq_false_iff.2 h1)]
  exact T_ret fun cx_ a_ hI_ => rt hc0 [ps 4 (.opt 0 0), ps 5 (iv 2), pb 0 23 [(iv 0), (iv 0), (iv 0)]] [16] hI_
theorem ref_move_pc (l a o s h : Int) (ha : Pi.I64 a) : PC Tryz.prog 29 [(.agg [(iv l), (iv a), (iv o)]), (.agg [(iv s), (iv h)])] [] (M4P (Pi.move l a o s h)) [] := pc_trim [none] rfl (fun i => by cases i <;> rfl) (ref_move_pc0 l a o s h ha)
end Go.Proofs.YtbgnegmjbnlemaaGreatDoor.Pm
namespace Go.Proofs.YtbgnegmjbnlemaaGreatDoor.Pm
open Go Go.Proofs.YtbgnegmjbnlemaaGreatDoor.Pi

set_option maxRecDepth 100000 in
set_option maxHeartbeats 4000000 in
theorem stack_pc (k : Int) (hk : ¬ stkI k = []) : PC Tryz.prog 15 [(iv k)] [] (.osl 0 0 ((stkT k).length)) [some (9, (txs (stkT k)))] := by
  have hk9 := stk_kinds hk
  refine pc_intro Tryz.func15 rfl (by kernel_rfl) (Nat.le_of_ble_eq_true rfl) (by kernel_rfl) (l0 := [ps 0 (iv k)]) rfl (fun c0 Bor hc0 => ?_)
  refine T_seq ?_
  refine T_r mixed [] [ps 0 (iv k)] (obs_nil) ?_
  refine T_seq <| T_seq ?_
  refine T_r mixed [] [ps 3 (iv k)] (obs_nil) ?_
  refine T_block <| T_seq ?_
  refine T_r mixed [] [ps 3 (iv k), ps 4 (bv (decide (k = 1)))] (obs_nil) ?_
  by_cases h1 : k = 1
  · refine T_th (decide_eq_true h1) ?_
    refine T_seq ?_
    refine T_r mixed [] [ps 2 (.osl 32 0 2), pb 32 9 [(sv (st ([77, 51] : List UInt8))), (sv (st ([80, 53] : List UInt8)))]] (obs_nil) ?_
    rw [show stkT k = [[77, 51], [80, 53]] from by rw [h1]; decide]
    exact T_ret fun cx_ a_ hI_ => rt hc0 [ps 2 (.osl 0 0 2), pb 0 9 [(sv (st ([77, 51] : List UInt8))), (sv (st ([80, 53] : List UInt8)))]] [32] hI_ (hbk := by exact obs_cons rfl (obs_nil))
  refine T_el (decide_eq_false h1) ?_
  refine T_seq ?_
  refine T_r mixed [] [ps 3 (iv k), ps 7 (bv (decide (k = 2)))] (obs_nil) ?_
  by_cases h2 : k = 2
  · refine T_th (decide_eq_true h2) ?_
    refine T_seq ?_
    refine T_r mixed [] [ps 2 (.osl 48 0 2), pb 48 9 [(sv (st ([109, 51] : List UInt8))), (sv (st ([80, 53] : List UInt8)))]] (obs_nil) ?_
    rw [show stkT k = [[109, 51], [80, 53]] from by rw [h2]; decide]
    exact T_ret fun cx_ a_ hI_ => rt hc0 [ps 2 (.osl 0 0 2), pb 0 9 [(sv (st ([109, 51] : List UInt8))), (sv (st ([80, 53] : List UInt8)))]] [48] hI_ (hbk := by exact obs_cons rfl (obs_nil))
  refine T_el (decide_eq_false h2) ?_
  refine T_seq ?_
  refine T_r mixed [] [ps 3 (iv k), ps 10 (bv (decide (k = 3)))] (obs_nil) ?_
  by_cases h3 : k = 3
  · refine T_th (decide_eq_true h3) ?_
    refine T_seq ?_
    refine T_r mixed [] [ps 2 (.osl 64 0 2), pb 64 9 [(sv (st ([109, 51] : List UInt8))), (sv (st ([100, 53] : List UInt8)))]] (obs_nil) ?_
    rw [show stkT k = [[109, 51], [100, 53]] from by rw [h3]; decide]
    exact T_ret fun cx_ a_ hI_ => rt hc0 [ps 2 (.osl 0 0 2), pb 0 9 [(sv (st ([109, 51] : List UInt8))), (sv (st ([100, 53] : List UInt8)))]] [64] hI_ (hbk := by exact obs_cons rfl (obs_nil))
  refine T_el (decide_eq_false h3) ?_
  refine T_seq ?_
  refine T_r mixed [] [ps 3 (iv k), ps 13 (bv (decide (k = 4)))] (obs_nil) ?_
  by_cases h4 : k = 4
  · refine T_th (decide_eq_true h4) ?_
    refine T_seq ?_
    refine T_r mixed [] [ps 2 (.osl 80 0 2), pb 80 9 [(sv (st ([77, 51] : List UInt8))), (sv (st ([65, 53] : List UInt8)))]] (obs_nil) ?_
    rw [show stkT k = [[77, 51], [65, 53]] from by rw [h4]; decide]
    exact T_ret fun cx_ a_ hI_ => rt hc0 [ps 2 (.osl 0 0 2), pb 0 9 [(sv (st ([77, 51] : List UInt8))), (sv (st ([65, 53] : List UInt8)))]] [80] hI_ (hbk := by exact obs_cons rfl (obs_nil))
  refine T_el (decide_eq_false h4) ?_
  refine T_seq ?_
  refine T_r mixed [] [ps 3 (iv k), ps 16 (bv (decide (k = 5)))] (obs_nil) ?_
  by_cases h5 : k = 5
  · refine T_th (decide_eq_true h5) ?_
    refine T_seq ?_
    refine T_r mixed [] [ps 2 (.osl 96 0 3), pb 96 9 [(sv (st ([77, 51] : List UInt8))), (sv (st ([80, 53] : List UInt8))), (sv (st ([109, 55] : List UInt8)))]] (obs_nil) ?_
    rw [show stkT k = [[77, 51], [80, 53], [109, 55]] from by rw [h5]; decide]
    exact T_ret fun cx_ a_ hI_ => rt hc0 [ps 2 (.osl 0 0 3), pb 0 9 [(sv (st ([77, 51] : List UInt8))), (sv (st ([80, 53] : List UInt8))), (sv (st ([109, 55] : List UInt8)))]] [96] hI_ (hbk := by exact obs_cons rfl (obs_nil))
  refine T_el (decide_eq_false h5) ?_
  refine T_seq ?_
  refine T_r mixed [] [ps 3 (iv k), ps 19 (bv (decide (k = 6)))] (obs_nil) ?_
  by_cases h6 : k = 6
  · refine T_th (decide_eq_true h6) ?_
    refine T_seq ?_
    refine T_r mixed [] [ps 2 (.osl 112 0 3), pb 112 9 [(sv (st ([77, 51] : List UInt8))), (sv (st ([80, 53] : List UInt8))), (sv (st ([77, 55] : List UInt8)))]] (obs_nil) ?_
    rw [show stkT k = [[77, 51], [80, 53], [77, 55]] from by rw [h6]; decide]
    exact T_ret fun cx_ a_ hI_ => rt hc0 [ps 2 (.osl 0 0 3), pb 0 9 [(sv (st ([77, 51] : List UInt8))), (sv (st ([80, 53] : List UInt8))), (sv (st ([77, 55] : List UInt8)))]] [112] hI_ (hbk := by exact obs_cons rfl (obs_nil))
  refine T_el (decide_eq_false h6) ?_
  refine T_seq ?_
  refine T_r mixed [] [ps 3 (iv k), ps 22 (bv (decide (k = 7)))] (obs_nil) ?_
  by_cases h7 : k = 7
  · refine T_th (decide_eq_true h7) ?_
    refine T_seq ?_
    refine T_r mixed [] [ps 2 (.osl 128 0 3), pb 128 9 [(sv (st ([109, 51] : List UInt8))), (sv (st ([80, 53] : List UInt8))), (sv (st ([109, 55] : List UInt8)))]] (obs_nil) ?_
    rw [show stkT k = [[109, 51], [80, 53], [109, 55]] from by rw [h7]; decide]
    exact T_ret fun cx_ a_ hI_ => rt hc0 [ps 2 (.osl 0 0 3), pb 0 9 [(sv (st ([109, 51] : List UInt8))), (sv (st ([80, 53] : List UInt8))), (sv (st ([109, 55] : List UInt8)))]] [128] hI_ (hbk := by exact obs_cons rfl (obs_nil))
  refine T_el (decide_eq_false h7) ?_
  refine T_seq ?_
  refine T_r mixed [] [ps 3 (iv k), ps 25 (bv (decide (k = 8)))] (obs_nil) ?_
  by_cases h8 : k = 8
  · refine T_th (decide_eq_true h8) ?_
    refine T_seq ?_
    refine T_r mixed [] [ps 2 (.osl 144 0 3), pb 144 9 [(sv (st ([109, 51] : List UInt8))), (sv (st ([100, 53] : List UInt8))), (sv (st ([109, 55] : List UInt8)))]] (obs_nil) ?_
    rw [show stkT k = [[109, 51], [100, 53], [109, 55]] from by rw [h8]; decide]
    exact T_ret fun cx_ a_ hI_ => rt hc0 [ps 2 (.osl 0 0 3), pb 0 9 [(sv (st ([109, 51] : List UInt8))), (sv (st ([100, 53] : List UInt8))), (sv (st ([109, 55] : List UInt8)))]] [144] hI_ (hbk := by exact obs_cons rfl (obs_nil))
  refine T_el (decide_eq_false h8) ?_
  refine T_seq ?_
  refine T_r mixed [] [ps 28 (bv (decide (k = 9)))] (obs_nil) ?_
  by_cases h9 : k = 9
  · refine T_th (decide_eq_true h9) ?_
    refine T_seq ?_
    refine T_r mixed [] [ps 2 (.osl 160 0 3), pb 160 9 [(sv (st ([109, 51] : List UInt8))), (sv (st ([100, 53] : List UInt8))), (sv (st ([100, 55] : List UInt8)))]] (obs_nil) ?_
    rw [show stkT k = [[109, 51], [100, 53], [100, 55]] from by rw [h9]; decide]
    exact T_ret fun cx_ a_ hI_ => rt hc0 [ps 2 (.osl 0 0 3), pb 0 9 [(sv (st ([109, 51] : List UInt8))), (sv (st ([100, 53] : List UInt8))), (sv (st ([100, 55] : List UInt8)))]] [160] hI_ (hbk := by exact obs_cons rfl (obs_nil))
  · exfalso; omega
set_option maxRecDepth 100000 in
set_option maxHeartbeats 4000000 in
theorem stack_nil_pc (k : Int) (hk : stkI k = []) : PC Tryz.prog 15 [(iv k)] [] (.av (.slice none 0 0)) [] := by
  have hk9 := stk_none hk
  refine pc_intro Tryz.func15 rfl (by kernel_rfl) (Nat.le_of_ble_eq_true rfl) (by kernel_rfl) (l0 := [ps 0 (iv k)]) rfl (fun c0 Bor hc0 => ?_)
  refine T_seq ?_
  refine T_r mixed [] [ps 0 (iv k)] (obs_nil) ?_
  refine T_seq <| T_seq ?_
  refine T_r mixed [] [ps 3 (iv k)] (obs_nil) ?_
  refine T_block <| T_seq ?_
  refine T_r mixed [] [ps 3 (iv k), ps 4 (bv (decide (k = 1)))] (obs_nil) ?_
  have h1 : ¬ (k = 1) := (by omega)
  refine T_el (decide_eq_false h1) ?_
  refine T_seq ?_
  refine T_r mixed [] [ps 3 (iv k), ps 7 (bv (decide (k = 2)))] (obs_nil) ?_
  have h2 : ¬ (k = 2) := (by omega)
  refine T_el (decide_eq_false h2) ?_
  refine T_seq ?_
  refine T_r mixed [] [ps 3 (iv k), ps 10 (bv (decide (k = 3)))] (obs_nil) ?_
  have h3 : ¬ (k = 3) := (by omega)
  refine T_el (decide_eq_false h3) ?_
  refine T_seq ?_
  refine T_r mixed [] [ps 3 (iv k), ps 13 (bv (decide (k = 4)))] (obs_nil) ?_
  have h4 : ¬ (k = 4) := (by omega)
  refine T_el (decide_eq_false h4) ?_
  refine T_seq ?_
  refine T_r mixed [] [ps 3 (iv k), ps 16 (bv (decide (k = 5)))] (obs_nil) ?_
  have h5 : ¬ (k = 5) := (by omega)
  refine T_el (decide_eq_false h5) ?_
  refine T_seq ?_
  refine T_r mixed [] [ps 3 (iv k), ps 19 (bv (decide (k = 6)))] (obs_nil) ?_
  have h6 : ¬ (k = 6) := (by omega)
  refine T_el (decide_eq_false h6) ?_
  refine T_seq ?_
  refine T_r mixed [] [ps 3 (iv k), ps 22 (bv (decide (k = 7)))] (obs_nil) ?_
  have h7 : ¬ (k = 7) := (by omega)
  refine T_el (decide_eq_false h7) ?_
  refine T_seq ?_
  refine T_r mixed [] [ps 3 (iv k), ps 25 (bv (decide (k = 8)))] (obs_nil) ?_
  have h8 : ¬ (k = 8) := (by omega)
  refine T_el (decide_eq_false h8) ?_
  refine T_seq ?_
  refine T_r mixed [] [ps 28 (bv (decide (k = 9)))] (obs_nil) ?_
  have h9 : ¬ (k = 9) := (by omega)
  refine T_el (decide_eq_false h9) ?_
  refine T_skip <| T_blk <| T_seq ?_
  refine T_r mixed [] [ps 2 (.av (.slice none 0 0))] (obs_nil) ?_
  exact T_ret fun cx_ a_ hI_ => rtN hc0 [ps 2 (.av (.slice none 0 0))] [] hI_
set_option maxRecDepth 100000 in
set_option maxHeartbeats 4000000 in
theorem rstack_pc (k : Int) (hk : ¬ stkI k = []) : PC Tryz.prog 17 [(iv k)] [] (.osl 0 0 ((stkR k).length)) [some (3, (ints (stkR k)))] := by
  have hk9 := stk_kinds hk
  refine pc_intro Tryz.func17 rfl (by kernel_rfl) (Nat.le_of_ble_eq_true rfl) (by kernel_rfl) (l0 := [ps 0 (iv k)]) rfl (fun c0 Bor hc0 => ?_)
  refine T_seq ?_
  refine T_r mixed [] [ps 0 (iv k)] (obs_nil) ?_
  refine T_seq <| T_seq ?_
  refine T_r mixed [] [ps 3 (iv k)] (obs_nil) ?_
  refine T_block <| T_seq ?_
  refine T_r mixed [] [ps 3 (iv k), ps 4 (bv (decide (k = 1)))] (obs_nil) ?_
  by_cases h1 : k = 1
  · refine T_th (decide_eq_true h1) ?_
    refine T_seq ?_
    refine T_r mixed [] [ps 2 (.osl 32 0 3), pb 32 3 [(iv 4), (iv 7), (iv 0)]] (obs_nil) ?_
    rw [show stkR k = [4, 7, 0] from by rw [h1]; decide]
    exact T_ret fun cx_ a_ hI_ => rt hc0 [ps 2 (.osl 0 0 3), pb 0 3 [(iv 4), (iv 7), (iv 0)]] [32] hI_ (hbk := by exact obs_cons rfl (obs_nil))
  refine T_el (decide_eq_false h1) ?_
  refine T_seq ?_
  refine T_r mixed [] [ps 3 (iv k), ps 7 (bv (decide (k = 2)))] (obs_nil) ?_
  by_cases h2 : k = 2
  · refine T_th (decide_eq_true h2) ?_
    refine T_seq ?_
    refine T_r mixed [] [ps 2 (.osl 48 0 3), pb 48 3 [(iv 3), (iv 7), (iv 0)]] (obs_nil) ?_
    rw [show stkR k = [3, 7, 0] from by rw [h2]; decide]
    exact T_ret fun cx_ a_ hI_ => rt hc0 [ps 2 (.osl 0 0 3), pb 0 3 [(iv 3), (iv 7), (iv 0)]] [48] hI_ (hbk := by exact obs_cons rfl (obs_nil))
  refine T_el (decide_eq_false h2) ?_
  refine T_seq ?_
  refine T_r mixed [] [ps 3 (iv k), ps 10 (bv (decide (k = 3)))] (obs_nil) ?_
  by_cases h3 : k = 3
  · refine T_th (decide_eq_true h3) ?_
    refine T_seq ?_
    refine T_r mixed [] [ps 2 (.osl 64 0 3), pb 64 3 [(iv 3), (iv 6), (iv 0)]] (obs_nil) ?_
    rw [show stkR k = [3, 6, 0] from by rw [h3]; decide]
    exact T_ret fun cx_ a_ hI_ => rt hc0 [ps 2 (.osl 0 0 3), pb 0 3 [(iv 3), (iv 6), (iv 0)]] [64] hI_ (hbk := by exact obs_cons rfl (obs_nil))
  refine T_el (decide_eq_false h3) ?_
  refine T_seq ?_
  refine T_r mixed [] [ps 3 (iv k), ps 13 (bv (decide (k = 4)))] (obs_nil) ?_
  by_cases h4 : k = 4
  · refine T_th (decide_eq_true h4) ?_
    refine T_seq ?_
    refine T_r mixed [] [ps 2 (.osl 80 0 3), pb 80 3 [(iv 4), (iv 8), (iv 0)]] (obs_nil) ?_
    rw [show stkR k = [4, 8, 0] from by rw [h4]; decide]
    exact T_ret fun cx_ a_ hI_ => rt hc0 [ps 2 (.osl 0 0 3), pb 0 3 [(iv 4), (iv 8), (iv 0)]] [80] hI_ (hbk := by exact obs_cons rfl (obs_nil))
  refine T_el (decide_eq_false h4) ?_
  refine T_seq ?_
  refine T_r mixed [] [ps 3 (iv k), ps 16 (bv (decide (k = 5)))] (obs_nil) ?_
  by_cases h5 : k = 5
  · refine T_th (decide_eq_true h5) ?_
    refine T_seq ?_
    refine T_r mixed [] [ps 2 (.osl 96 0 3), pb 96 3 [(iv 4), (iv 7), (iv 10)]] (obs_nil) ?_
    rw [show stkR k = [4, 7, 10] from by rw [h5]; decide]
    exact T_ret fun cx_ a_ hI_ => rt hc0 [ps 2 (.osl 0 0 3), pb 0 3 [(iv 4), (iv 7), (iv 10)]] [96] hI_ (hbk := by exact obs_cons rfl (obs_nil))
  refine T_el (decide_eq_false h5) ?_
  refine T_seq ?_
  refine T_r mixed [] [ps 3 (iv k), ps 19 (bv (decide (k = 6)))] (obs_nil) ?_
  by_cases h6 : k = 6
  · refine T_th (decide_eq_true h6) ?_
    refine T_seq ?_
    refine T_r mixed [] [ps 2 (.osl 112 0 3), pb 112 3 [(iv 4), (iv 7), (iv 11)]] (obs_nil) ?_
    rw [show stkR k = [4, 7, 11] from by rw [h6]; decide]
    exact T_ret fun cx_ a_ hI_ => rt hc0 [ps 2 (.osl 0 0 3), pb 0 3 [(iv 4), (iv 7), (iv 11)]] [112] hI_ (hbk := by exact obs_cons rfl (obs_nil))
  refine T_el (decide_eq_false h6) ?_
  refine T_seq ?_
  refine T_r mixed [] [ps 3 (iv k), ps 22 (bv (decide (k = 7)))] (obs_nil) ?_
  by_cases h7 : k = 7
  · refine T_th (decide_eq_true h7) ?_
    refine T_seq ?_
    refine T_r mixed [] [ps 2 (.osl 128 0 3), pb 128 3 [(iv 3), (iv 7), (iv 10)]] (obs_nil) ?_
    rw [show stkR k = [3, 7, 10] from by rw [h7]; decide]
    exact T_ret fun cx_ a_ hI_ => rt hc0 [ps 2 (.osl 0 0 3), pb 0 3 [(iv 3), (iv 7), (iv 10)]] [128] hI_ (hbk := by exact obs_cons rfl (obs_nil))
  refine T_el (decide_eq_false h7) ?_
  refine T_seq ?_
  refine T_r mixed [] [ps 3 (iv k), ps 25 (bv (decide (k = 8)))] (obs_nil) ?_
  by_cases h8 : k = 8
  · refine T_th (decide_eq_true h8) ?_
    refine T_seq ?_
    refine T_r mixed [] [ps 2 (.osl 144 0 3), pb 144 3 [(iv 3), (iv 6), (iv 10)]] (obs_nil) ?_
    rw [show stkR k = [3, 6, 10] from by rw [h8]; decide]
    exact T_ret fun cx_ a_ hI_ => rt hc0 [ps 2 (.osl 0 0 3), pb 0 3 [(iv 3), (iv 6), (iv 10)]] [144] hI_ (hbk := by exact obs_cons rfl (obs_nil))
  refine T_el (decide_eq_false h8) ?_
  refine T_seq ?_
  refine T_r mixed [] [ps 28 (bv (decide (k = 9)))] (obs_nil) ?_
  by_cases h9 : k = 9
  · refine T_th (decide_eq_true h9) ?_
    refine T_seq ?_
    refine T_r mixed [] [ps 2 (.osl 160 0 3), pb 160 3 [(iv 3), (iv 6), (iv 9)]] (obs_nil) ?_
    rw [show stkR k = [3, 6, 9] from by rw [h9]; decide]
    exact T_ret fun cx_ a_ hI_ => rt hc0 [ps 2 (.osl 0 0 3), pb 0 3 [(iv 3), (iv 6), (iv 9)]] [160] hI_ (hbk := by exact obs_cons rfl (obs_nil))
  · exfalso; omega
set_option maxRecDepth 100000 in
set_option maxHeartbeats 4000000 in
theorem rstack_nil_pc (k : Int) (hk : stkI k = []) : PC Tryz.prog 17 [(iv k)] [] (.av (.slice none 0 0)) [] := by
  have hk9 := stk_none hk
  refine pc_intro Tryz.func17 rfl (by kernel_rfl) (Nat.le_of_ble_eq_true rfl) (by kernel_rfl) (l0 := [ps 0 (iv k)]) rfl (fun c0 Bor hc0 => ?_)
  refine T_seq ?_
  refine T_r mixed [] [ps 0 (iv k)] (obs_nil) ?_
  refine T_seq <| T_seq ?_
  refine T_r mixed [] [ps 3 (iv k)] (obs_nil) ?_
  refine T_block <| T_seq ?_
  refine T_r mixed [] [ps 3 (iv k), ps 4 (bv (decide (k = 1)))] (obs_nil) ?_
  have h1 : ¬ (k = 1) := (by omega)
  refine T_el (decide_eq_false h1) ?_
  refine T_seq ?_
  refine T_r mixed [] [ps 3 (iv k), ps 7 (bv (decide (k = 2)))] (obs_nil) ?_
  have h2 : ¬ (k = 2) := (by omega)
  refine T_el (decide_eq_false h2) ?_
  refine T_seq ?_
  refine T_r mixed [] [ps 3 (iv k), ps 10 (bv (decide (k = 3)))] (obs_nil) ?_
  have h3 : ¬ (k = 3) := (by omega)
  refine T_el (decide_eq_false h3) ?_
  refine T_seq ?_
  refine T_r mixed [] [ps 3 (iv k), ps 13 (bv (decide (k = 4)))] (obs_nil) ?_
  have h4 : ¬ (k = 4) := (by omega)
  refine T_el (decide_eq_false h4) ?_
  refine T_seq ?_
  refine T_r mixed [] [ps 3 (iv k), ps 16 (bv (decide (k = 5)))] (obs_nil) ?_
  have h5 : ¬ (k = 5) := (by omega)
  refine T_el (decide_eq_false h5) ?_
  refine T_seq ?_
  refine T_r mixed [] [ps 3 (iv k), ps 19 (bv (decide (k = 6)))] (obs_nil) ?_
  have h6 : ¬ (k = 6) := (by omega)
  refine T_el (decide_eq_false h6) ?_
  refine T_seq ?_
  refine T_r mixed [] [ps 3 (iv k), ps 22 (bv (decide (k = 7)))] (obs_nil) ?_
  have h7 : ¬ (k = 7) := (by omega)
  refine T_el (decide_eq_false h7) ?_
  refine T_seq ?_
  refine T_r mixed [] [ps 3 (iv k), ps 25 (bv (decide (k = 8)))] (obs_nil) ?_
  have h8 : ¬ (k = 8) := (by omega)
  refine T_el (decide_eq_false h8) ?_
  refine T_seq ?_
  refine T_r mixed [] [ps 28 (bv (decide (k = 9)))] (obs_nil) ?_
  have h9 : ¬ (k = 9) := (by omega)
  refine T_el (decide_eq_false h9) ?_
  refine T_skip <| T_blk <| T_seq ?_
  refine T_r mixed [] [ps 2 (.av (.slice none 0 0))] (obs_nil) ?_
  exact T_ret fun cx_ a_ hI_ => rtN hc0 [ps 2 (.av (.slice none 0 0))] [] hI_
end Go.Proofs.YtbgnegmjbnlemaaGreatDoor.Pm
