/-
  SUMS: the reference: walk. (Printed by wip/pm.) | SUMS: a NaN, rounded: nought. | SUMS: the law: walk. (Printed by wip/pm.) | SUMS: rows that came in are not longer than can be.
-/
import Derived.Test.YtgkahjaoajjgcaaJLawSums23
import Derived.Test.YtgkahjaoajjgcaaJLawSums22
namespace Go.Proofs.Ytgkahjaoajjgcaa.Pm
open Go Mx

theorem lim_sums (T : List (List Int)) (G : List Int) : (sums (RR T) G).length = long (RR T) T.length := by rw [sums_length, RR_len]
theorem take_sums {T : List (List Int)} {G : List Int} {k : Nat} (hk : k < long (RR T) T.length) : ints ((sums (RR T) G).take k) ++ [iv (Mx.part (RR T) G T.length k)] = ints ((sums (RR T) G).take (k + 1)) := by
  have hl : k < (sums (RR T) G).length := by rw [lim_sums]; exact hk
  have e := sums_X (T := RR T) (G := G) (k := k) (by rw [RR_len]; exact hk)
  rw [RR_len] at e
  rw [List.take_succ_eq_append_getElem hl]
  have e2 : (sums (RR T) G)[k] = Mx.part (RR T) G T.length k := by
    rw [← e, X_def]
    simp [List.getD_eq_getElem?_getD, hl]
  rw [e2]
  unfold ints
  simp
theorem take_len {T : List (List Int)} {G : List Int} {k : Nat} (hk : k ≤ long (RR T) T.length) : ((sums (RR T) G).take k).length = k := by
  rw [List.length_take, lim_sums]; omega
theorem take_all (T : List (List Int)) (G : List Int) : (sums (RR T) G).take (long (RR T) T.length) = sums (RR T) G := by rw [← lim_sums T G, List.take_length]
theorem part_past {T : List (List Int)} {G : List Int} {i k : Nat} (h : (T.getD i []).length ≤ k) : Mx.part (RR T) G (i + 1) k = Mx.part (RR T) G i k := by
  have hz : (T.getD i []).getD k 0 = 0 := X_past (l := T.getD i []) h
  rw [part_step, hz, Int.mul_zero, Int.add_zero]
theorem ref_small_pc (n m : Int) (hm : 0 ≤ m ∧ m ≤ 9007199254740992) : PC Try.prog 18 [(iv n), (iv m)] [] (bv (decide (-m ≤ n ∧ n ≤ m))) [] := by
  refine pc_intro Try.func18 rfl (by kernel_rfl) (Nat.le_of_ble_eq_true rfl) (by kernel_rfl) (l0 := [ps 0 (iv n), ps 1 (iv m)]) rfl (fun c0 Bor hc0 => ?_)
  refine T_seq ?_
  refine T_region [] [ks 0, ks 1] (fun _ => mixed) (l' := [ps 0 (iv n), ps 1 (iv m)]) (obs := []) (by kernel_rfl) (obs_nil) ?_
  refine T_seq ?_
  by_cases h1 : n ≤ m
  · refine T_region [(4, .gd true (.no)), (5, .gd true (.no)), (6, .gd true (.no)), (7, .gd true (.no)), (8, .yes true)] [ks 4] (fun _ => mixed) (l' := [ps 4 (bv (decide ((0 - m) ≤ n)))]) (obs := [(decide (n ≤ m)) = true, (decide (n ≤ m)) = true, (decide (n ≤ m)) = true, InK .i64 (0 - m), (decide (n ≤ m)) = true, (decide (n ≤ m)) = true]) (by kernel_rfl) (obs_cons (decide_eq_true h1) (obs_cons (decide_eq_true h1) (obs_cons (decide_eq_true h1) (obs_cons (by simp only [InK]; omega) (obs_cons (decide_eq_true h1) (obs_cons (decide_eq_true h1) (obs_nil))))))) ?_
    refine T_wk (Wk.eq (show _ = [ps 4 (bv (decide (-m ≤ n ∧ n ≤ m)))] from by rw [show decide ((0 - m) ≤ n) = decide (-m ≤ n ∧ n ≤ m) from decide_eq_decide.2 (by omega)])) ?_
    exact T_ret fun cx_ a_ hI_ => ret_ok (H' := []) (.inr rfl) (Wk.ren2 [ps 4 (bv (decide (-m ≤ n ∧ n ≤ m)))] 0 hc0 [] rfl rfl (by kernel_rfl) (by kernel_rfl)) rfl (obs_nil) (fun cx_ a_ hI_ => ret_res (l' := [ps 4 (bv (decide (-m ≤ n ∧ n ≤ m)))]) (by kernel_rfl) cx_ a_ hI_) hI_
  · refine T_region [(4, .gd false .no), (5, .gd false .no), (6, .gd false .no), (7, .gd false .no), (8, .yes false)] [ks 4] (fun _ => mixed) (l' := [ps 4 (bv false)]) (obs := [(decide (n ≤ m)) = false, (decide (n ≤ m)) = false, (decide (n ≤ m)) = false, (decide (n ≤ m)) = false, (decide (n ≤ m)) = false]) (by kernel_rfl) (obs_cons (decide_eq_false h1) (obs_cons (decide_eq_false h1) (obs_cons (decide_eq_false h1) (obs_cons (decide_eq_false h1) (obs_cons (decide_eq_false h1) (obs_nil)))))) ?_
    rw [decide_eq_false (show ¬ (-m ≤ n ∧ n ≤ m) from by omega)]
    exact T_ret fun cx_ a_ hI_ => ret_ok (H' := []) (.inr rfl) (Wk.ren2 [ps 4 (bv false)] 0 hc0 [] rfl rfl (by kernel_rfl) (by kernel_rfl)) rfl (obs_nil) (fun cx_ a_ hI_ => ret_res (l' := [ps 4 (bv false)]) (by kernel_rfl) cx_ a_ hI_) hI_
set_option maxRecDepth 100000 in
set_option maxHeartbeats 4000000 in
theorem ref_sum_pc (T : List (List Int)) (G : List Int) (hTl : T.length ≤ 9223372036854775807) (hrow : ∀ i, (T.getD i []).length * 8 ≤ 140737488351232) : PC Try.prog 12 [(.ssl (rows T) 0 T.length), (.ssl (ints G) 0 G.length)] [] (sumR T G) [] := by
  refine pc_intro Try.func12 rfl (by kernel_rfl) (Nat.le_of_ble_eq_true rfl) (by kernel_rfl) (l0 := [ps 0 (.ssl (rows T) 0 T.length), ps 1 (.ssl (ints G) 0 G.length)]) rfl (fun c0 Bor hc0 => ?_)
  refine T_seq ?_
  refine T_region [] [ks 0, ks 1] (fun _ => mixed) (l' := [ps 0 (.ssl (rows T) 0 T.length), ps 1 (.ssl (ints G) 0 G.length)]) (obs := []) (by kernel_rfl) (obs_nil) ?_
  refine T_seq ?_
  refine T_seq ?_
  refine T_region [] [ks 0, ks 1, ks 18] (fun _ => mixed) (l' := [ps 0 (.ssl (rows T) 0 T.length), ps 1 (.ssl (ints G) 0 G.length), ps 18 (bv (decide (256 < ((T.length : Nat) : Int))))]) (obs := []) (by kernel_rfl) (obs_nil) ?_
  by_cases h1 : 256 < ((T.length : Nat) : Int)
  · refine T_then (b := (decide (256 < ((T.length : Nat) : Int)))) rfl (decide_eq_true h1) ?_
    refine T_seq ?_
    refine T_region [] [ks 4, ks 5] (fun _ => mixed) (l' := [ps 4 (.av (.slice none 0 0)), ps 5 (iv 5)]) (obs := []) (by kernel_rfl) (obs_nil) ?_
    rw [sumR_no (c := 5) (fun h => by have := h.n; rw [RR_len] at this; omega) (if_pos (by omega))]
    exact T_ret fun cx_ a_ hI_ => ret_ok (H' := []) (.inr rfl) (Wk.ren2 [ps 4 (.av (.slice none 0 0)), ps 5 (iv 5)] 0 hc0 [] rfl rfl (by kernel_rfl) (by kernel_rfl)) rfl (obs_nil) (fun cx_ a_ hI_ => ret_res (l' := [ps 4 (.av (.slice none 0 0)), ps 5 (iv 5)]) (by kernel_rfl) cx_ a_ hI_) hI_
  · refine T_else (b := (decide (256 < ((T.length : Nat) : Int)))) rfl (decide_eq_false h1) ?_
    refine T_skip ?_
    refine T_seq ?_
    refine T_seq ?_
    refine T_region [] [ks 0, ks 1, ks 23] (fun _ => mixed) (l' := [ps 0 (.ssl (rows T) 0 T.length), ps 1 (.ssl (ints G) 0 G.length), ps 23 (bv (!(decide (((G.length : Nat) : Int) = ((T.length : Nat) : Int)))))]) (obs := []) (by kernel_rfl) (obs_nil) ?_
    by_cases h2 : ((G.length : Nat) : Int) = ((T.length : Nat) : Int)
    · refine T_else (b := (!(decide (((G.length : Nat) : Int) = ((T.length : Nat) : Int))))) rfl (congrArg Bool.not (decide_eq_true h2)) ?_
      refine T_skip ?_
      refine T_seq ?_
      refine T_region [] [ks 0, ks 1, ks 6] (fun _ => mixed) (l' := [ps 0 (.ssl (rows T) 0 T.length), ps 1 (.ssl (ints G) 0 G.length), ps 6 (iv 0)]) (obs := []) (by kernel_rfl) (obs_nil) ?_
      refine T_seq ?_
      refine T_seq ?_
      refine T_region [] [ks 0, ks 1, ks 6, ks 24, ks 25, ks 26] (fun _ => mixed) (l' := [ps 0 (.ssl (rows T) 0 T.length), ps 1 (.ssl (ints G) 0 G.length), ps 6 (iv 0), ps 24 (.ssl (rows T) 0 T.length), ps 25 (nv T.length), ps 26 (iv 0)]) (obs := []) (by kernel_rfl) (obs_nil) ?_
      refine T_block ?_
      refine T_loop (α := {x : Nat // x ≤ T.length ∧ (∀ j, j < x → LoudOk (G.getD j 0) ∧ RowGood (T.getD j []))}) (fun x => [ps 0 (.ssl (rows T) 0 T.length), ps 1 (.ssl (ints G) 0 G.length), ps 6 (nv (long (RR T) x.1)), ps 24 (.ssl (rows T) 0 T.length), ps 25 (nv T.length), ps 26 (nv x.1)]) (fun x => T.length - x.1) 0 ⟨0, ⟨Nat.zero_le _, fun j hj => absurd hj (Nat.not_lt_zero _)⟩⟩ (Wk.ren2 [ps 0 (.ssl (rows T) 0 T.length), ps 1 (.ssl (ints G) 0 G.length), ps 6 (nv (long (RR T) 0)), ps 24 (.ssl (rows T) 0 T.length), ps 25 (nv T.length), ps 26 (nv 0)] 0 hc0 [] rfl rfl (by kernel_rfl) (by kernel_rfl)) ?_
      rintro ⟨i, ⟨hi, hgd⟩⟩
      refine T_seq ?_
      refine T_region [] [ks 0, ks 1, ks 6, ks 24, ks 25, ks 26, ks 27] (fun _ => mixed) (l' := [ps 0 (.ssl (rows T) 0 T.length), ps 1 (.ssl (ints G) 0 G.length), ps 6 (nv (long (RR T) i)), ps 24 (.ssl (rows T) 0 T.length), ps 25 (nv T.length), ps 26 (nv i), ps 27 (bv (decide (((i : Nat) : Int) < ((T.length : Nat) : Int))))]) (obs := []) (by kernel_rfl) (obs_nil) ?_
      refine T_seq ?_
      by_cases h3 : ((i : Nat) : Int) < ((T.length : Nat) : Int)
      · refine T_then (b := (decide (((i : Nat) : Int) < ((T.length : Nat) : Int)))) rfl (decide_eq_true h3) ?_
        refine T_skip ?_
        refine T_seq ?_
        refine T_block ?_
        refine T_seq ?_
        refine T_region [(1, .nat i), (2, .val (.ssl (ints (T.getD i [])) 0 ((T.getD i []).length)))] [ks 0, ks 1, ks 6, ks 7, ks 8, ks 24, ks 25, ks 26] (fun _ => mixed) (l' := [ps 0 (.ssl (rows T) 0 T.length), ps 1 (.ssl (ints G) 0 G.length), ps 6 (nv (long (RR T) i)), ps 7 (nv i), ps 8 (.ssl (ints (T.getD i [])) 0 ((T.getD i []).length)), ps 24 (.ssl (rows T) 0 T.length), ps 25 (nv T.length), ps 26 (nv i)]) (obs := [(0 : Int) ≤ ((i : Nat) : Int) ∧ ((i : Nat) : Int) < ((T.length : Nat) : Int), 0 + (((i : Nat) : Int) : Int).toNat * 1 = i, i + 1 ≤ ((rows T)).length ∧ (((rows T)).drop i).take 1 = [(.ssl (ints (T.getD i [])) 0 ((T.getD i []).length))]]) (by kernel_rfl) (obs_cons (by omega) (obs_cons (by omega) (obs_cons (flat_at1 rowC (fun _ => rfl) [] T i (by omega)) (obs_nil)))) ?_
        refine T_seq ?_
        refine T_seq ?_
        refine T_region [(2, .nat i), (3, .val (iv (G.getD i 0))), (4, .call [] [(iv (G.getD i 0)), (iv 1048576)] [] (bv (decide (-1048576 ≤ (G.getD i 0) ∧ (G.getD i 0) ≤ 1048576))) [])] [ks 0, ks 1, ks 6, ks 8, ks 24, ks 25, ks 26, ks 36] (fun _ => mixed) (l' := [ps 0 (.ssl (rows T) 0 T.length), ps 1 (.ssl (ints G) 0 G.length), ps 6 (nv (long (RR T) i)), ps 8 (.ssl (ints (T.getD i [])) 0 ((T.getD i []).length)), ps 24 (.ssl (rows T) 0 T.length), ps 25 (nv T.length), ps 26 (nv i), ps 36 (bv (!(decide (-1048576 ≤ (G.getD i 0) ∧ (G.getD i 0) ≤ 1048576))))]) (obs := [(0 : Int) ≤ ((i : Nat) : Int) ∧ ((i : Nat) : Int) < ((G.length : Nat) : Int), 0 + (((i : Nat) : Int) : Int).toNat * 1 = i, i + 1 ≤ ((ints G)).length ∧ (((ints G)).drop i).take 1 = [(iv (G.getD i 0))], PC Try.prog 18 [(iv (G.getD i 0)), (iv 1048576)] [] (bv (decide (-1048576 ≤ (G.getD i 0) ∧ (G.getD i 0) ≤ 1048576))) [], [(iv (G.getD i 0)), (iv 1048576)] = renL (sigi [] 80) [(iv (G.getD i 0)), (iv 1048576)]]) (by kernel_rfl) (obs_cons (by omega) (obs_cons (by omega) (obs_cons (ints_at (by omega)) (obs_cons (ref_small_pc (G.getD i 0) 1048576 (by decide)) (obs_cons rfl (obs_nil)))))) ?_
        by_cases h4 : -1048576 ≤ (G.getD i 0) ∧ (G.getD i 0) ≤ 1048576
        · refine T_else (b := (!(decide (-1048576 ≤ (G.getD i 0) ∧ (G.getD i 0) ≤ 1048576)))) rfl (congrArg Bool.not (decide_eq_true h4)) ?_
          refine T_skip ?_
          refine T_seq ?_
          refine T_seq ?_
          refine T_region [] [ks 0, ks 1, ks 6, ks 8, ks 24, ks 25, ks 26, ks 37, ks 38, ks 39] (fun _ => mixed) (l' := [ps 0 (.ssl (rows T) 0 T.length), ps 1 (.ssl (ints G) 0 G.length), ps 6 (nv (long (RR T) i)), ps 8 (.ssl (ints (T.getD i [])) 0 ((T.getD i []).length)), ps 24 (.ssl (rows T) 0 T.length), ps 25 (nv T.length), ps 26 (nv i), ps 37 (.ssl (ints (T.getD i [])) 0 ((T.getD i []).length)), ps 38 (nv ((T.getD i []).length)), ps 39 (iv 0)]) (obs := []) (by kernel_rfl) (obs_nil) ?_
          refine T_block ?_
          refine T_loop (α := {x : Nat // x ≤ (T.getD i []).length ∧ (∀ j, j < x → SampOk (X (T.getD i []) j))}) (fun x => [ps 0 (.ssl (rows T) 0 T.length), ps 1 (.ssl (ints G) 0 G.length), ps 6 (nv (long (RR T) i)), ps 8 (.ssl (ints (T.getD i [])) 0 ((T.getD i []).length)), ps 24 (.ssl (rows T) 0 T.length), ps 25 (nv T.length), ps 26 (nv i), ps 37 (.ssl (ints (T.getD i [])) 0 ((T.getD i []).length)), ps 38 (nv ((T.getD i []).length)), ps 39 (nv x.1)]) (fun x => (T.getD i []).length - x.1) 0 ⟨0, ⟨Nat.zero_le _, fun j hj => absurd hj (Nat.not_lt_zero _)⟩⟩ (Wk.ren2 [ps 0 (.ssl (rows T) 0 T.length), ps 1 (.ssl (ints G) 0 G.length), ps 6 (nv (long (RR T) i)), ps 8 (.ssl (ints (T.getD i [])) 0 ((T.getD i []).length)), ps 24 (.ssl (rows T) 0 T.length), ps 25 (nv T.length), ps 26 (nv i), ps 37 (.ssl (ints (T.getD i [])) 0 ((T.getD i []).length)), ps 38 (nv ((T.getD i []).length)), ps 39 (nv 0)] 0 hc0 [] rfl rfl (by kernel_rfl) (by kernel_rfl)) ?_
          rintro ⟨k, ⟨hk, hsm⟩⟩
          refine T_seq ?_
          refine T_region [] [ks 0, ks 1, ks 6, ks 8, ks 24, ks 25, ks 26, ks 37, ks 38, ks 39, ks 40] (fun _ => mixed) (l' := [ps 0 (.ssl (rows T) 0 T.length), ps 1 (.ssl (ints G) 0 G.length), ps 6 (nv (long (RR T) i)), ps 8 (.ssl (ints (T.getD i [])) 0 ((T.getD i []).length)), ps 24 (.ssl (rows T) 0 T.length), ps 25 (nv T.length), ps 26 (nv i), ps 37 (.ssl (ints (T.getD i [])) 0 ((T.getD i []).length)), ps 38 (nv ((T.getD i []).length)), ps 39 (nv k), ps 40 (bv (decide (((k : Nat) : Int) < (((T.getD i []).length : Nat) : Int))))]) (obs := []) (by kernel_rfl) (obs_nil) ?_
          refine T_seq ?_
          by_cases h5 : ((k : Nat) : Int) < (((T.getD i []).length : Nat) : Int)
          · refine T_then (b := (decide (((k : Nat) : Int) < (((T.getD i []).length : Nat) : Int)))) rfl (decide_eq_true h5) ?_
            refine T_skip ?_
            refine T_seq ?_
            refine T_block ?_
            refine T_seq ?_
            refine T_region [(0, .nat k), (1, .val (iv ((T.getD i []).getD k 0)))] [ks 0, ks 1, ks 6, ks 8, ks 10, ks 24, ks 25, ks 26, ks 37, ks 38, ks 39] (fun _ => mixed) (l' := [ps 0 (.ssl (rows T) 0 T.length), ps 1 (.ssl (ints G) 0 G.length), ps 6 (nv (long (RR T) i)), ps 8 (.ssl (ints (T.getD i [])) 0 ((T.getD i []).length)), ps 10 (iv ((T.getD i []).getD k 0)), ps 24 (.ssl (rows T) 0 T.length), ps 25 (nv T.length), ps 26 (nv i), ps 37 (.ssl (ints (T.getD i [])) 0 ((T.getD i []).length)), ps 38 (nv ((T.getD i []).length)), ps 39 (nv k)]) (obs := [(0 : Int) ≤ ((k : Nat) : Int) ∧ ((k : Nat) : Int) < (((T.getD i []).length : Nat) : Int), 0 + (((k : Nat) : Int) : Int).toNat * 1 = k, k + 1 ≤ ((ints (T.getD i []))).length ∧ (((ints (T.getD i []))).drop k).take 1 = [(iv ((T.getD i []).getD k 0))]]) (by kernel_rfl) (obs_cons (by omega) (obs_cons (by omega) (obs_cons (ints_at (by omega)) (obs_nil)))) ?_
            refine T_seq ?_
            refine T_region [(1, .call [] [(iv ((T.getD i []).getD k 0)), (iv 16777216)] [] (bv (decide (-16777216 ≤ ((T.getD i []).getD k 0) ∧ ((T.getD i []).getD k 0) ≤ 16777216))) [])] [ks 0, ks 1, ks 6, ks 8, ks 24, ks 25, ks 26, ks 37, ks 38, ks 39, ks 45] (fun _ => mixed) (l' := [ps 0 (.ssl (rows T) 0 T.length), ps 1 (.ssl (ints G) 0 G.length), ps 6 (nv (long (RR T) i)), ps 8 (.ssl (ints (T.getD i [])) 0 ((T.getD i []).length)), ps 24 (.ssl (rows T) 0 T.length), ps 25 (nv T.length), ps 26 (nv i), ps 37 (.ssl (ints (T.getD i [])) 0 ((T.getD i []).length)), ps 38 (nv ((T.getD i []).length)), ps 39 (nv k), ps 45 (bv (!(decide (-16777216 ≤ ((T.getD i []).getD k 0) ∧ ((T.getD i []).getD k 0) ≤ 16777216))))]) (obs := [PC Try.prog 18 [(iv ((T.getD i []).getD k 0)), (iv 16777216)] [] (bv (decide (-16777216 ≤ ((T.getD i []).getD k 0) ∧ ((T.getD i []).getD k 0) ≤ 16777216))) [], [(iv ((T.getD i []).getD k 0)), (iv 16777216)] = renL (sigi [] 40) [(iv ((T.getD i []).getD k 0)), (iv 16777216)]]) (by kernel_rfl) (obs_cons (ref_small_pc ((T.getD i []).getD k 0) 16777216 (by decide)) (obs_cons rfl (obs_nil))) ?_
            by_cases h6 : -16777216 ≤ ((T.getD i []).getD k 0) ∧ ((T.getD i []).getD k 0) ≤ 16777216
            · refine T_else (b := (!(decide (-16777216 ≤ ((T.getD i []).getD k 0) ∧ ((T.getD i []).getD k 0) ≤ 16777216)))) rfl (congrArg Bool.not (decide_eq_true h6)) ?_
              refine T_skip ?_
              refine T_blk ?_
              refine T_region [] [ks 0, ks 1, ks 6, ks 8, ks 24, ks 25, ks 26, ks 37, ks 38, ks 39] (fun _ => mixed) (l' := [ps 0 (.ssl (rows T) 0 T.length), ps 1 (.ssl (ints G) 0 G.length), ps 6 (nv (long (RR T) i)), ps 8 (.ssl (ints (T.getD i [])) 0 ((T.getD i []).length)), ps 24 (.ssl (rows T) 0 T.length), ps 25 (nv T.length), ps 26 (nv i), ps 37 (.ssl (ints (T.getD i [])) 0 ((T.getD i []).length)), ps 38 (nv ((T.getD i []).length)), ps 39 (iv (((k : Nat) : Int) + 1))]) (obs := [InK .i64 (((k : Nat) : Int) + 1)]) (by kernel_rfl) (obs_cons (by have := hrow i; simp only [InK]; omega) (obs_nil)) ?_
              exact T_back ⟨k + 1, ⟨by omega, fun j hj => if e : j = k then e ▸ h6 else hsm j (by omega)⟩⟩ (Wk.ren2 [ps 0 (.ssl (rows T) 0 T.length), ps 1 (.ssl (ints G) 0 G.length), ps 6 (nv (long (RR T) i)), ps 8 (.ssl (ints (T.getD i [])) 0 ((T.getD i []).length)), ps 24 (.ssl (rows T) 0 T.length), ps 25 (nv T.length), ps 26 (nv i), ps 37 (.ssl (ints (T.getD i [])) 0 ((T.getD i []).length)), ps 38 (nv ((T.getD i []).length)), ps 39 (nv (k + 1))] 0 hc0 [] rfl rfl (by kernel_rfl) (by kernel_rfl)) (show (T.getD i []).length - (k + 1) < (T.getD i []).length - k from by omega)
            · refine T_then (b := (!(decide (-16777216 ≤ ((T.getD i []).getD k 0) ∧ ((T.getD i []).getD k 0) ≤ 16777216)))) rfl (congrArg Bool.not (decide_eq_false h6)) ?_
              refine T_seq ?_
              refine T_region [] [ks 4, ks 5] (fun _ => mixed) (l' := [ps 4 (.av (.slice none 0 0)), ps 5 (iv 3)]) (obs := []) (by kernel_rfl) (obs_nil) ?_
              rw [sumR_no (c := 3) (fun h => h6 ((good_at h (show i < T.length from by omega)).2 k (by omega))) (by unfold errC; rw [if_neg (by omega), if_neg (by omega)])]
              exact T_ret fun cx_ a_ hI_ => loop_ret (loop_ret (ret_ok (H' := []) (.inr rfl) (Wk.ren2 [ps 4 (.av (.slice none 0 0)), ps 5 (iv 3)] 0 hc0 [] rfl rfl (by kernel_rfl) (by kernel_rfl)) rfl (obs_nil) (fun cx_ a_ hI_ => ret_res (l' := [ps 4 (.av (.slice none 0 0)), ps 5 (iv 3)]) (by kernel_rfl) cx_ a_ hI_) hI_))
          · refine T_else (b := (decide (((k : Nat) : Int) < (((T.getD i []).length : Nat) : Int)))) rfl (decide_eq_false h5) ?_
            refine T_break rfl rfl ?_
            refine T_seq ?_
            obtain rfl : k = (T.getD i []).length := by omega
            have hsm2 : RowGood (T.getD i []) := hsm
            refine T_region [] [ks 0, ks 1, ks 6, ks 8, ks 24, ks 25, ks 26, ks 50] (fun _ => mixed) (l' := [ps 0 (.ssl (rows T) 0 T.length), ps 1 (.ssl (ints G) 0 G.length), ps 6 (nv (long (RR T) i)), ps 8 (.ssl (ints (T.getD i [])) 0 ((T.getD i []).length)), ps 24 (.ssl (rows T) 0 T.length), ps 25 (nv T.length), ps 26 (nv i), ps 50 (bv (decide (((long (RR T) i : Nat) : Int) < (((T.getD i []).length : Nat) : Int))))]) (obs := []) (by kernel_rfl) (obs_nil) ?_
            by_cases h7 : ((long (RR T) i : Nat) : Int) < (((T.getD i []).length : Nat) : Int)
            · refine T_then (b := (decide (((long (RR T) i : Nat) : Int) < (((T.getD i []).length : Nat) : Int)))) rfl (decide_eq_true h7) ?_
              refine T_region [] [ks 0, ks 1, ks 6, ks 24, ks 25, ks 26] (fun _ => mixed) (l' := [ps 0 (.ssl (rows T) 0 T.length), ps 1 (.ssl (ints G) 0 G.length), ps 6 (nv ((T.getD i []).length)), ps 24 (.ssl (rows T) 0 T.length), ps 25 (nv T.length), ps 26 (nv i)]) (obs := []) (by kernel_rfl) (obs_nil) ?_
              refine T_blk ?_
              refine T_region [] [ks 0, ks 1, ks 6, ks 24, ks 25, ks 26] (fun _ => mixed) (l' := [ps 0 (.ssl (rows T) 0 T.length), ps 1 (.ssl (ints G) 0 G.length), ps 6 (nv ((T.getD i []).length)), ps 24 (.ssl (rows T) 0 T.length), ps 25 (nv T.length), ps 26 (iv (((i : Nat) : Int) + 1))]) (obs := [InK .i64 (((i : Nat) : Int) + 1)]) (by kernel_rfl) (obs_cons (by simp only [InK]; omega) (obs_nil)) ?_
              exact T_back ⟨i + 1, ⟨by omega, fun j hj => if e : j = i then e ▸ ⟨h4, hsm2⟩ else hgd j (by omega)⟩⟩ (Wk.trans (Wk.eq (show _ = [ps 0 (.ssl (rows T) 0 T.length), ps 1 (.ssl (ints G) 0 G.length), ps 6 (nv (long (RR T) (i + 1))), ps 24 (.ssl (rows T) 0 T.length), ps 25 (nv T.length), ps 26 (iv (((i : Nat) : Int) + 1))] from by rw [show (T.getD i []).length = long (RR T) (i + 1) from by rw [long_step]; omega])) (Wk.ren2 [ps 0 (.ssl (rows T) 0 T.length), ps 1 (.ssl (ints G) 0 G.length), ps 6 (nv (long (RR T) (i + 1))), ps 24 (.ssl (rows T) 0 T.length), ps 25 (nv T.length), ps 26 (nv (i + 1))] 0 hc0 [] rfl rfl (by kernel_rfl) (by kernel_rfl))) (show T.length - (i + 1) < T.length - i from by omega)
            · refine T_else (b := (decide (((long (RR T) i : Nat) : Int) < (((T.getD i []).length : Nat) : Int)))) rfl (decide_eq_false h7) ?_
              refine T_skip ?_
              refine T_blk ?_
              refine T_region [] [ks 0, ks 1, ks 6, ks 24, ks 25, ks 26] (fun _ => mixed) (l' := [ps 0 (.ssl (rows T) 0 T.length), ps 1 (.ssl (ints G) 0 G.length), ps 6 (nv (long (RR T) i)), ps 24 (.ssl (rows T) 0 T.length), ps 25 (nv T.length), ps 26 (iv (((i : Nat) : Int) + 1))]) (obs := [InK .i64 (((i : Nat) : Int) + 1)]) (by kernel_rfl) (obs_cons (by simp only [InK]; omega) (obs_nil)) ?_
              exact T_back ⟨i + 1, ⟨by omega, fun j hj => if e : j = i then e ▸ ⟨h4, hsm2⟩ else hgd j (by omega)⟩⟩ (Wk.trans (Wk.eq (show _ = [ps 0 (.ssl (rows T) 0 T.length), ps 1 (.ssl (ints G) 0 G.length), ps 6 (nv (long (RR T) (i + 1))), ps 24 (.ssl (rows T) 0 T.length), ps 25 (nv T.length), ps 26 (iv (((i : Nat) : Int) + 1))] from by rw [show long (RR T) i = long (RR T) (i + 1) from by rw [long_step]; omega])) (Wk.ren2 [ps 0 (.ssl (rows T) 0 T.length), ps 1 (.ssl (ints G) 0 G.length), ps 6 (nv (long (RR T) (i + 1))), ps 24 (.ssl (rows T) 0 T.length), ps 25 (nv T.length), ps 26 (nv (i + 1))] 0 hc0 [] rfl rfl (by kernel_rfl) (by kernel_rfl))) (show T.length - (i + 1) < T.length - i from by omega)
        · refine T_then (b := (!(decide (-1048576 ≤ (G.getD i 0) ∧ (G.getD i 0) ≤ 1048576)))) rfl (congrArg Bool.not (decide_eq_false h4)) ?_
          refine T_seq ?_
          refine T_region [] [ks 4, ks 5] (fun _ => mixed) (l' := [ps 4 (.av (.slice none 0 0)), ps 5 (iv 3)]) (obs := []) (by kernel_rfl) (obs_nil) ?_
          rw [sumR_no (c := 3) (fun h => h4 (good_at h (show i < T.length from by omega)).1) (by unfold errC; rw [if_neg (by omega), if_neg (by omega)])]
          exact T_ret fun cx_ a_ hI_ => loop_ret (ret_ok (H' := []) (.inr rfl) (Wk.ren2 [ps 4 (.av (.slice none 0 0)), ps 5 (iv 3)] 0 hc0 [] rfl rfl (by kernel_rfl) (by kernel_rfl)) rfl (obs_nil) (fun cx_ a_ hI_ => ret_res (l' := [ps 4 (.av (.slice none 0 0)), ps 5 (iv 3)]) (by kernel_rfl) cx_ a_ hI_) hI_)
      · refine T_else (b := (decide (((i : Nat) : Int) < ((T.length : Nat) : Int)))) rfl (decide_eq_false h3) ?_
        refine T_break rfl rfl ?_
        refine T_seq ?_
        obtain rfl : i = T.length := by omega
        have hG : Mx.Good (RR T) G := good_of (by omega) (by omega) hgd
        refine T_region [] [ks 0, ks 1, ks 6, ks 11] (fun _ => mixed) (l' := [ps 0 (.ssl (rows T) 0 T.length), ps 1 (.ssl (ints G) 0 G.length), ps 6 (nv (long (RR T) T.length)), ps 11 (.av (.slice none 0 0))]) (obs := []) (by kernel_rfl) (obs_nil) ?_
        refine T_seq ?_
        refine T_seq ?_
        refine T_region [] [ks 0, ks 1, ks 6, ks 11, ks 12] (fun _ => mixed) (l' := [ps 0 (.ssl (rows T) 0 T.length), ps 1 (.ssl (ints G) 0 G.length), ps 6 (nv (long (RR T) T.length)), ps 11 (.av (.slice none 0 0)), ps 12 (iv 0)]) (obs := []) (by kernel_rfl) (obs_nil) ?_
        refine T_block ?_
        refine T_wk (Wk.nil (s := 11) 3 (by kernel_rfl)) ?_
        refine T_wk (Wk.less (l' := [ps 0 (.ssl (rows T) 0 T.length), ps 1 (.ssl (ints G) 0 G.length), ps 6 (nv (long (RR T) T.length)), ps 11 (.osl 24 0 0), ps 12 (iv 0), pb 24 3 []]) 25 (by kernel_rfl) (by kernel_rfl)) ?_
        refine T_wk (Wk.eq (show _ = [ps 0 (.ssl (rows T) 0 T.length), ps 1 (.ssl (ints G) 0 G.length), ps 6 (nv (long (RR T) T.length)), ps 11 (.osl 24 0 0), ps 12 (iv 0), pb 24 3 (ints ((sums (RR T) G).take 0))] from by rfl)) ?_
        refine T_loop (α := {x : Nat // x ≤ long (RR T) T.length}) (fun x => [ps 0 (.ssl (rows T) 0 T.length), ps 1 (.ssl (ints G) 0 G.length), ps 6 (nv (long (RR T) T.length)), ps 11 (.osl 0 0 x.1), ps 12 (nv x.1), pb 0 3 (ints ((sums (RR T) G).take x.1))]) (fun x => long (RR T) T.length - x.1) 1 ⟨0, Nat.zero_le _⟩ (Wk.ren3 [ps 0 (.ssl (rows T) 0 T.length), ps 1 (.ssl (ints G) 0 G.length), ps 6 (nv (long (RR T) T.length)), ps 11 (.osl 0 0 0), ps 12 (nv 0), pb 0 3 (ints ((sums (RR T) G).take 0))] 0 hc0 [24] [(kb 0, (ints ((sums (RR T) G).take 0)))] (obs_cons (ints_shd _) (obs_nil)) (by kernel_rfl) rfl rfl (by kernel_rfl) (by kernel_rfl)) ?_
        rintro ⟨k, hk3⟩
        refine T_seq ?_
        refine T_seq ?_
        refine T_region [] [ks 0, ks 1, ks 6, ks 11, ks 12, ks 56, kb 0] (fun _ => mixed) (l' := [ps 0 (.ssl (rows T) 0 T.length), ps 1 (.ssl (ints G) 0 G.length), ps 6 (nv (long (RR T) T.length)), ps 11 (.osl 0 0 k), ps 12 (nv k), ps 56 (bv (decide (((k : Nat) : Int) < ((long (RR T) T.length : Nat) : Int)))), pb 0 3 (ints ((sums (RR T) G).take k))]) (obs := []) (by kernel_rfl) (obs_nil) ?_
        by_cases h8 : ((k : Nat) : Int) < ((long (RR T) T.length : Nat) : Int)
        · refine T_then (b := (decide (((k : Nat) : Int) < ((long (RR T) T.length : Nat) : Int)))) rfl (decide_eq_true h8) ?_
          refine T_skip ?_
          refine T_seq ?_
          refine T_block ?_
          refine T_seq ?_
          refine T_region [] [ks 0, ks 1, ks 6, ks 11, ks 12, ks 13, kb 0] (fun _ => mixed) (l' := [ps 0 (.ssl (rows T) 0 T.length), ps 1 (.ssl (ints G) 0 G.length), ps 6 (nv (long (RR T) T.length)), ps 11 (.osl 0 0 k), ps 12 (nv k), ps 13 (iv 0), pb 0 3 (ints ((sums (RR T) G).take k))]) (obs := []) (by kernel_rfl) (obs_nil) ?_
          refine T_seq ?_
          refine T_seq ?_
          refine T_region [] [ks 0, ks 1, ks 6, ks 11, ks 12, ks 13, ks 59, ks 60, ks 61, kb 0] (fun _ => mixed) (l' := [ps 0 (.ssl (rows T) 0 T.length), ps 1 (.ssl (ints G) 0 G.length), ps 6 (nv (long (RR T) T.length)), ps 11 (.osl 0 0 k), ps 12 (nv k), ps 13 (iv 0), ps 59 (.ssl (rows T) 0 T.length), ps 60 (nv T.length), ps 61 (iv 0), pb 0 3 (ints ((sums (RR T) G).take k))]) (obs := []) (by kernel_rfl) (obs_nil) ?_
          refine T_block ?_
          refine T_wk (Wk.eq (show _ = [ps 0 (.ssl (rows T) 0 T.length), ps 1 (.ssl (ints G) 0 G.length), ps 6 (nv (long (RR T) T.length)), ps 11 (.osl 0 0 k), ps 12 (nv k), ps 13 (iv (Mx.part (RR T) G 0 k)), ps 59 (.ssl (rows T) 0 T.length), ps 60 (nv T.length), ps 61 (iv 0), pb 0 3 (ints ((sums (RR T) G).take k))] from by rfl)) ?_
          refine T_loop (α := {x : Nat // x ≤ T.length}) (fun x => [ps 0 (.ssl (rows T) 0 T.length), ps 1 (.ssl (ints G) 0 G.length), ps 6 (nv (long (RR T) T.length)), ps 11 (.osl 0 0 k), ps 12 (nv k), ps 13 (iv (Mx.part (RR T) G x.1 k)), ps 59 (.ssl (rows T) 0 T.length), ps 60 (nv T.length), ps 61 (nv x.1), pb 0 3 (ints ((sums (RR T) G).take k))]) (fun x => T.length - x.1) 1 ⟨0, Nat.zero_le _⟩ (Wk.ren3 [ps 0 (.ssl (rows T) 0 T.length), ps 1 (.ssl (ints G) 0 G.length), ps 6 (nv (long (RR T) T.length)), ps 11 (.osl 0 0 k), ps 12 (nv k), ps 13 (iv (Mx.part (RR T) G 0 k)), ps 59 (.ssl (rows T) 0 T.length), ps 60 (nv T.length), ps 61 (nv 0), pb 0 3 (ints ((sums (RR T) G).take k))] 0 hc0 [0] [(kb 0, (ints ((sums (RR T) G).take k)))] (obs_cons (ints_shd _) (obs_nil)) (by kernel_rfl) rfl rfl (by kernel_rfl) (by kernel_rfl)) ?_
          rintro ⟨i, hi2⟩
          refine T_seq ?_
          refine T_region [] [ks 0, ks 1, ks 6, ks 11, ks 12, ks 13, ks 59, ks 60, ks 61, ks 62, kb 0] (fun _ => mixed) (l' := [ps 0 (.ssl (rows T) 0 T.length), ps 1 (.ssl (ints G) 0 G.length), ps 6 (nv (long (RR T) T.length)), ps 11 (.osl 0 0 k), ps 12 (nv k), ps 13 (iv (Mx.part (RR T) G i k)), ps 59 (.ssl (rows T) 0 T.length), ps 60 (nv T.length), ps 61 (nv i), ps 62 (bv (decide (((i : Nat) : Int) < ((T.length : Nat) : Int)))), pb 0 3 (ints ((sums (RR T) G).take k))]) (obs := []) (by kernel_rfl) (obs_nil) ?_
          refine T_seq ?_
          by_cases h9 : ((i : Nat) : Int) < ((T.length : Nat) : Int)
          · refine T_then (b := (decide (((i : Nat) : Int) < ((T.length : Nat) : Int)))) rfl (decide_eq_true h9) ?_
            refine T_skip ?_
            refine T_seq ?_
            refine T_block ?_
            refine T_seq ?_
            refine T_region [(1, .nat i), (2, .val (.ssl (ints (T.getD i [])) 0 ((T.getD i []).length)))] [ks 0, ks 1, ks 6, ks 11, ks 12, ks 13, ks 14, ks 15, ks 59, ks 60, ks 61, kb 0] (fun _ => mixed) (l' := [ps 0 (.ssl (rows T) 0 T.length), ps 1 (.ssl (ints G) 0 G.length), ps 6 (nv (long (RR T) T.length)), ps 11 (.osl 0 0 k), ps 12 (nv k), ps 13 (iv (Mx.part (RR T) G i k)), ps 14 (nv i), ps 15 (.ssl (ints (T.getD i [])) 0 ((T.getD i []).length)), ps 59 (.ssl (rows T) 0 T.length), ps 60 (nv T.length), ps 61 (nv i), pb 0 3 (ints ((sums (RR T) G).take k))]) (obs := [(0 : Int) ≤ ((i : Nat) : Int) ∧ ((i : Nat) : Int) < ((T.length : Nat) : Int), 0 + (((i : Nat) : Int) : Int).toNat * 1 = i, i + 1 ≤ ((rows T)).length ∧ (((rows T)).drop i).take 1 = [(.ssl (ints (T.getD i [])) 0 ((T.getD i []).length))]]) (by kernel_rfl) (obs_cons (by omega) (obs_cons (by omega) (obs_cons (flat_at1 rowC (fun _ => rfl) [] T i (by omega)) (obs_nil)))) ?_
            refine T_seq ?_
            refine T_region [] [ks 0, ks 1, ks 6, ks 11, ks 12, ks 13, ks 14, ks 15, ks 59, ks 60, ks 61, ks 69, kb 0] (fun _ => mixed) (l' := [ps 0 (.ssl (rows T) 0 T.length), ps 1 (.ssl (ints G) 0 G.length), ps 6 (nv (long (RR T) T.length)), ps 11 (.osl 0 0 k), ps 12 (nv k), ps 13 (iv (Mx.part (RR T) G i k)), ps 14 (nv i), ps 15 (.ssl (ints (T.getD i [])) 0 ((T.getD i []).length)), ps 59 (.ssl (rows T) 0 T.length), ps 60 (nv T.length), ps 61 (nv i), ps 69 (bv (decide (((k : Nat) : Int) < (((T.getD i []).length : Nat) : Int)))), pb 0 3 (ints ((sums (RR T) G).take k))]) (obs := []) (by kernel_rfl) (obs_nil) ?_
            by_cases h10 : ((k : Nat) : Int) < (((T.getD i []).length : Nat) : Int)
            · refine T_then (b := (decide (((k : Nat) : Int) < (((T.getD i []).length : Nat) : Int)))) rfl (decide_eq_true h10) ?_
              refine T_regionD [(3, .nat k), (4, .val (iv ((T.getD i []).getD k 0))), (7, .nat i), (8, .val (iv (G.getD i 0)))] [[], [], [], [1, 2], [1, 2, 3], [], [], [5, 6], [5, 6, 7], [1, 2, 3, 4, 5, 6, 7, 8], [0, 1, 2, 3, 4, 5, 6, 7, 8, 9], [0, 1, 2, 3, 4, 5, 6, 7, 8, 9, 10]] [([140], [26]), ([142], [30]), ([144], [24]), ([146], [142, 144]), ([148], [146]), ([150], [2]), ([152], [28]), ([154], [150, 152]), ([156], [154]), ([158], [148, 156]), ([160], [140, 158]), ([26], [160])] [ks 0, ks 1, ks 6, ks 11, ks 12, ks 13, ks 59, ks 60, ks 61, kb 0] (l' := [ps 0 (.ssl (rows T) 0 T.length), ps 1 (.ssl (ints G) 0 G.length), ps 6 (nv (long (RR T) T.length)), ps 11 (.osl 0 0 k), ps 12 (nv k), ps 13 (iv ((Mx.part (RR T) G i k) + (((T.getD i []).getD k 0) * (G.getD i 0)))), ps 59 (.ssl (rows T) 0 T.length), ps 60 (nv T.length), ps 61 (nv i), pb 0 3 (ints ((sums (RR T) G).take k))]) (obs := [(0 : Int) ≤ ((k : Nat) : Int) ∧ ((k : Nat) : Int) < (((T.getD i []).length : Nat) : Int), 0 + (((k : Nat) : Int) : Int).toNat * 1 = k, k + 1 ≤ ((ints (T.getD i []))).length ∧ (((ints (T.getD i []))).drop k).take 1 = [(iv ((T.getD i []).getD k 0))], (0 : Int) ≤ ((i : Nat) : Int) ∧ ((i : Nat) : Int) < ((G.length : Nat) : Int), 0 + (((i : Nat) : Int) : Int).toNat * 1 = i, i + 1 ≤ ((ints G)).length ∧ (((ints G)).drop i).take 1 = [(iv (G.getD i 0))], InK .i64 (((T.getD i []).getD k 0) * (G.getD i 0)), InK .i64 ((Mx.part (RR T) G i k) + (((T.getD i []).getD k 0) * (G.getD i 0)))]) mixed (by kernel_rfl) (by kernel_rfl) (obs_cons (by omega) (obs_cons (by omega) (obs_cons (ints_at (by omega)) (obs_cons (by omega) (obs_cons (by omega) (obs_cons (ints_at (by omega)) (obs_cons (by have h1 := prod_in hG (show i < T.length from by omega) k; rw [Int.mul_comm] at h1; have h2 := Mx.part_bd hG k (j := i) (by rw [RR_len]; omega); have h3 := hG.n; rw [RR_len] at h3; simp only [InK]; omega) (obs_cons (by have h1 := prod_in hG (show i < T.length from by omega) k; rw [Int.mul_comm] at h1; have h2 := Mx.part_bd hG k (j := i) (by rw [RR_len]; omega); have h3 := hG.n; rw [RR_len] at h3; simp only [InK]; omega) (obs_nil))))))))) ?_
              refine T_blk ?_
              refine T_region [] [ks 0, ks 1, ks 6, ks 11, ks 12, ks 13, ks 59, ks 60, ks 61, kb 0] (fun _ => mixed) (l' := [ps 0 (.ssl (rows T) 0 T.length), ps 1 (.ssl (ints G) 0 G.length), ps 6 (nv (long (RR T) T.length)), ps 11 (.osl 0 0 k), ps 12 (nv k), ps 13 (iv ((Mx.part (RR T) G i k) + (((T.getD i []).getD k 0) * (G.getD i 0)))), ps 59 (.ssl (rows T) 0 T.length), ps 60 (nv T.length), ps 61 (iv (((i : Nat) : Int) + 1)), pb 0 3 (ints ((sums (RR T) G).take k))]) (obs := [InK .i64 (((i : Nat) : Int) + 1)]) (by kernel_rfl) (obs_cons (by simp only [InK]; omega) (obs_nil)) ?_
              exact T_back ⟨i + 1, by omega⟩ (Wk.trans (Wk.eq (show _ = [ps 0 (.ssl (rows T) 0 T.length), ps 1 (.ssl (ints G) 0 G.length), ps 6 (nv (long (RR T) T.length)), ps 11 (.osl 0 0 k), ps 12 (nv k), ps 13 (iv (Mx.part (RR T) G (i + 1) k)), ps 59 (.ssl (rows T) 0 T.length), ps 60 (nv T.length), ps 61 (iv (((i : Nat) : Int) + 1)), pb 0 3 (ints ((sums (RR T) G).take k))] from by rw [show Mx.part (RR T) G i k + ((T.getD i []).getD k 0) * (G.getD i 0) = Mx.part (RR T) G (i + 1) k from by rw [part_step, Int.mul_comm (G.getD i 0)]])) (Wk.ren3 [ps 0 (.ssl (rows T) 0 T.length), ps 1 (.ssl (ints G) 0 G.length), ps 6 (nv (long (RR T) T.length)), ps 11 (.osl 0 0 k), ps 12 (nv k), ps 13 (iv (Mx.part (RR T) G (i + 1) k)), ps 59 (.ssl (rows T) 0 T.length), ps 60 (nv T.length), ps 61 (nv (i + 1)), pb 0 3 (ints ((sums (RR T) G).take k))] 0 hc0 [0] [(kb 0, (ints ((sums (RR T) G).take k)))] (obs_cons (ints_shd _) (obs_nil)) (by kernel_rfl) rfl rfl (by kernel_rfl) (by kernel_rfl))) (show T.length - (i + 1) < T.length - i from by omega)
            · refine T_else (b := (decide (((k : Nat) : Int) < (((T.getD i []).length : Nat) : Int)))) rfl (decide_eq_false h10) ?_
              refine T_skip ?_
              refine T_blk ?_
              refine T_region [] [ks 0, ks 1, ks 6, ks 11, ks 12, ks 13, ks 59, ks 60, ks 61, kb 0] (fun _ => mixed) (l' := [ps 0 (.ssl (rows T) 0 T.length), ps 1 (.ssl (ints G) 0 G.length), ps 6 (nv (long (RR T) T.length)), ps 11 (.osl 0 0 k), ps 12 (nv k), ps 13 (iv (Mx.part (RR T) G i k)), ps 59 (.ssl (rows T) 0 T.length), ps 60 (nv T.length), ps 61 (iv (((i : Nat) : Int) + 1)), pb 0 3 (ints ((sums (RR T) G).take k))]) (obs := [InK .i64 (((i : Nat) : Int) + 1)]) (by kernel_rfl) (obs_cons (by simp only [InK]; omega) (obs_nil)) ?_
              exact T_back ⟨i + 1, by omega⟩ (Wk.trans (Wk.eq (show _ = [ps 0 (.ssl (rows T) 0 T.length), ps 1 (.ssl (ints G) 0 G.length), ps 6 (nv (long (RR T) T.length)), ps 11 (.osl 0 0 k), ps 12 (nv k), ps 13 (iv (Mx.part (RR T) G (i + 1) k)), ps 59 (.ssl (rows T) 0 T.length), ps 60 (nv T.length), ps 61 (iv (((i : Nat) : Int) + 1)), pb 0 3 (ints ((sums (RR T) G).take k))] from by rw [show Mx.part (RR T) G i k = Mx.part (RR T) G (i + 1) k from (part_past (by omega)).symm])) (Wk.ren3 [ps 0 (.ssl (rows T) 0 T.length), ps 1 (.ssl (ints G) 0 G.length), ps 6 (nv (long (RR T) T.length)), ps 11 (.osl 0 0 k), ps 12 (nv k), ps 13 (iv (Mx.part (RR T) G (i + 1) k)), ps 59 (.ssl (rows T) 0 T.length), ps 60 (nv T.length), ps 61 (nv (i + 1)), pb 0 3 (ints ((sums (RR T) G).take k))] 0 hc0 [0] [(kb 0, (ints ((sums (RR T) G).take k)))] (obs_cons (ints_shd _) (obs_nil)) (by kernel_rfl) rfl rfl (by kernel_rfl) (by kernel_rfl))) (show T.length - (i + 1) < T.length - i from by omega)
          · refine T_else (b := (decide (((i : Nat) : Int) < ((T.length : Nat) : Int)))) rfl (decide_eq_false h9) ?_
            refine T_break rfl rfl ?_
            obtain rfl : i = T.length := by omega
            refine T_region [(3, .app none (some (ints ((sums (RR T) G).take (k + 1)))))] [ks 0, ks 1, ks 6, ks 11, ks 12, kb 33] (fun _ => mixed) (l' := [ps 0 (.ssl (rows T) 0 T.length), ps 1 (.ssl (ints G) 0 G.length), ps 6 (nv (long (RR T) T.length)), ps 11 (.osl 33 0 (k + 1)), ps 12 (nv k), pb 33 3 (ints ((sums (RR T) G).take (k + 1)))]) (obs := [((ints ((sums (RR T) G).take k))).length = k * 1, (k + 1) * 8 ≤ 140737488355328 ∧ k + 1 ≤ 9223372036854775807, (ints ((sums (RR T) G).take k)) ++ [(iv (Mx.part (RR T) G T.length k))] = (ints ((sums (RR T) G).take (k + 1)))]) (by kernel_rfl) (obs_cons (by rw [ints_len, take_len (by omega), Nat.mul_one]) (obs_cons (by have := long_lim hrow T.length; omega) (obs_cons (take_sums (by omega)) (obs_nil)))) ?_
            refine T_blk ?_
            refine T_region [] [ks 0, ks 1, ks 6, ks 11, ks 12, kb 33] (fun _ => mixed) (l' := [ps 0 (.ssl (rows T) 0 T.length), ps 1 (.ssl (ints G) 0 G.length), ps 6 (nv (long (RR T) T.length)), ps 11 (.osl 33 0 (k + 1)), ps 12 (iv (((k : Nat) : Int) + 1)), pb 33 3 (ints ((sums (RR T) G).take (k + 1)))]) (obs := [InK .i64 (((k : Nat) : Int) + 1)]) (by kernel_rfl) (obs_cons (by have := long_lim hrow T.length; simp only [InK]; omega) (obs_nil)) ?_
            exact T_back ⟨k + 1, by omega⟩ (Wk.ren3 [ps 0 (.ssl (rows T) 0 T.length), ps 1 (.ssl (ints G) 0 G.length), ps 6 (nv (long (RR T) T.length)), ps 11 (.osl 0 0 (k + 1)), ps 12 (nv (k + 1)), pb 0 3 (ints ((sums (RR T) G).take (k + 1)))] 0 hc0 [33] [(kb 0, (ints ((sums (RR T) G).take (k + 1))))] (obs_cons (ints_shd _) (obs_nil)) (by kernel_rfl) rfl rfl (by kernel_rfl) (by kernel_rfl)) (show long (RR T) T.length - (k + 1) < long (RR T) T.length - k from by omega)
        · refine T_else (b := (decide (((k : Nat) : Int) < ((long (RR T) T.length : Nat) : Int)))) rfl (decide_eq_false h8) ?_
          refine T_break rfl rfl ?_
          refine T_seq ?_
          obtain rfl : k = long (RR T) T.length := by omega
          refine T_wk (Wk.eq (show _ = [ps 0 (.ssl (rows T) 0 T.length), ps 1 (.ssl (ints G) 0 G.length), ps 6 (nv (long (RR T) T.length)), ps 11 (.osl 0 0 (long (RR T) T.length)), ps 12 (nv (long (RR T) T.length)), ps 56 (bv (decide ((((long (RR T) T.length) : Nat) : Int) < ((long (RR T) T.length : Nat) : Int)))), pb 0 3 (ints (sums (RR T) G))] from by rw [take_all])) ?_
          refine T_wk (Wk.frz (l' := [ps 0 (.ssl (rows T) 0 T.length), ps 1 (.ssl (ints G) 0 G.length), ps 6 (nv (long (RR T) T.length)), ps 11 (.ssl (ints (sums (RR T) G)) 0 (long (RR T) T.length)), ps 12 (nv (long (RR T) T.length)), ps 56 (bv (decide ((((long (RR T) T.length) : Nat) : Int) < ((long (RR T) T.length : Nat) : Int)))), (kb 0, none)]) 0 (T := 3) (cs := (ints (sums (RR T) G))) (by kernel_rfl) (ints_shd _) (by kernel_rfl)) ?_
          refine T_wk (Wk.less (l' := [ps 0 (.ssl (rows T) 0 T.length), ps 1 (.ssl (ints G) 0 G.length), ps 6 (nv (long (RR T) T.length)), ps 11 (.ssl (ints (sums (RR T) G)) 0 (long (RR T) T.length)), ps 12 (nv (long (RR T) T.length)), ps 56 (bv (decide ((((long (RR T) T.length) : Nat) : Int) < ((long (RR T) T.length : Nat) : Int))))]) 25 (by kernel_rfl) (by kernel_rfl)) ?_
          refine T_region [] [ks 4, ks 5] (fun _ => mixed) (l' := [ps 4 (.ssl (ints (sums (RR T) G)) 0 (long (RR T) T.length)), ps 5 (iv 0)]) (obs := []) (by kernel_rfl) (obs_nil) ?_
          rw [sumR_yes hG]
          exact T_ret fun cx_ a_ hI_ => ret_ok (H' := []) (.inr rfl) (Wk.ren2 [ps 4 (.ssl (ints (sums (RR T) G)) 0 (long (RR T) T.length)), ps 5 (iv 0)] 0 hc0 [] rfl rfl (by kernel_rfl) (by kernel_rfl)) rfl (obs_nil) (fun cx_ a_ hI_ => ret_res (l' := [ps 4 (.ssl (ints (sums (RR T) G)) 0 (long (RR T) T.length)), ps 5 (iv 0)]) (by kernel_rfl) cx_ a_ hI_) hI_
    · refine T_then (b := (!(decide (((G.length : Nat) : Int) = ((T.length : Nat) : Int))))) rfl (congrArg Bool.not (decide_eq_false h2)) ?_
      refine T_seq ?_
      refine T_region [] [ks 4, ks 5] (fun _ => mixed) (l' := [ps 4 (.av (.slice none 0 0)), ps 5 (iv 8)]) (obs := []) (by kernel_rfl) (obs_nil) ?_
      rw [sumR_no (c := 8) (fun h => by have := h.g; rw [RR_len] at this; omega) (by unfold errC; rw [if_neg (by omega), if_pos (by omega)])]
      exact T_ret fun cx_ a_ hI_ => ret_ok (H' := []) (.inr rfl) (Wk.ren2 [ps 4 (.av (.slice none 0 0)), ps 5 (iv 8)] 0 hc0 [] rfl rfl (by kernel_rfl) (by kernel_rfl)) rfl (obs_nil) (fun cx_ a_ hI_ => ret_res (l' := [ps 4 (.av (.slice none 0 0)), ps 5 (iv 8)]) (by kernel_rfl) cx_ a_ hI_) hI_
end Go.Proofs.Ytgkahjaoajjgcaa.Pm
namespace Go.Proofs.Ytgkahjaoajjgcaa.Pm
open Go Go.RowKit Go.Proofs.Ytgkahjaoajjgcaa.Fl

theorem run_mul_nan {x : Nat} (hx : 9218868437227405312 < mag x) (w : World) (P : Program) (T : TypeId) :
    ∃ b, 9218868437227405312 < mag b ∧ (binOp .mul T (.float .f64 x) (.float .f64 4674736413210574848)).run P w = .ok (.float .f64 b) (w.drewN 1) := by
  have h := nan_mul hx
  refine ⟨_, ?_, by
    simp only [binOp, Op.floatArith, show FloatKind.f64.format.mul x 4674736413210574848 = none from h]
    rfl⟩
  show 9218868437227405312 < mag ((w.tape w.drawn (.nanBits .f64 x 4674736413210574848) % 2) * 9223372036854775808 + 9218868437227405312 + 1 + (w.tape w.drawn (.nanBits .f64 x 4674736413210574848) / 2) % 4503599627370495)
  generalize w.tape w.drawn (.nanBits .f64 x 4674736413210574848) = t
  unfold mag
  have h1 : t / 2 % 4503599627370495 < 4503599627370495 := Nat.mod_lt _ (by decide)
  have h2 : t % 2 < 2 := Nat.mod_lt _ (by decide)
  generalize t / 2 % 4503599627370495 = u at *
  generalize t % 2 = v at *
  omega
theorem quiet_mag (s : Bool) (t : Nat) : 9218868437227405312 < mag (FloatKind.f64.encode (.nan s (FloatKind.f64.format.quiet t))) := by
  have e : FloatKind.f64.encode (.nan s (FloatKind.f64.format.quiet t)) = Fl.wd s (9218868437227405312 + (t ||| 2251799813685248) % 4503599627370496) := by
    show F.word s (F.infRung + (t ||| 2 ^ 51) % F.binade) = _
    rw [wd_eq, D_inf, D_binade]
  rw [e]
  have h1 : (t ||| 2251799813685248) % 4503599627370496 < 4503599627370496 := Nat.mod_lt _ (by decide)
  have h2 : 0 < (t ||| 2251799813685248) % 4503599627370496 := by
    rcases Nat.eq_zero_or_pos ((t ||| 2251799813685248) % 4503599627370496) with z | z
    · exfalso
      have h3 : ((t ||| 2251799813685248) % 2 ^ 52).testBit 51 = true := by
        rw [Nat.testBit_mod_two_pow, Nat.testBit_or, show (2251799813685248 : Nat) = 2 ^ 51 from by decide, Nat.testBit_two_pow_self]
        simp
      rw [show (2 : Nat) ^ 52 = 4503599627370496 from by decide, z, Nat.zero_testBit] at h3
      cases h3
    · exact z
  rw [(Fl.wd_mag (by omega)).1]
  omega
theorem run_round_nan {name : String} {way : Ieee.Toward} {b : Nat} (hb : 9218868437227405312 < mag b) (w : World) (P : Program) :
    ∃ b' n, 9218868437227405312 < mag b' ∧ (Extern.MathFloor.toIntegral name way #[.float .f64 b]).run P w = .ok (.float .f64 b') (w.drewN n) := by
  obtain ⟨s, t, e⟩ := read_nan hb
  conv in Extern.MathFloor.toIntegral _ _ _ => whnf
  rw [show FloatKind.f64.decode b = F.read b from rfl, e]
  dsimp only
  by_cases h : FloatKind.f64.format.quiet t = t
  · rw [if_pos h]
    exact ⟨b, 0, hb, rfl⟩
  · rw [if_neg h]
    simp only [Sem.run_bind, run_choose_drew, Question.forced, show decide ((2 : Nat) = 1) = false from rfl, Bool.false_eq_true, if_false, Result.andThen_ok, Sem.run_pure]
    refine ⟨_, 1, ?_, rfl⟩
    split
    · exact hb
    · exact quiet_mag s t
theorem round_nan_any (x : Nat) (hx : 9218868437227405312 < mag x) (w : World) :
    Calls Try.prog 13 #[.float .f64 x] w fun e w' => e = .returned (.int .i64 0) ∧ Below w.heap.size w w' := by
  go_enter Try.func13, Try.ntmps13
  go_wp2
  obtain ⟨b, hb, e1⟩ := run_mul_nan hx w Try.prog 42
  rw [e1]
  go_wp2
  obtain ⟨b', n, hb', e2⟩ := run_round_nan (name := "math.RoundToEven") (way := .even) hb (w.drewN 1) Try.prog
  have e3 : (callFunc 20 #[.float .f64 b]).run Try.prog (w.drewN 1) = .ok (.value (.float .f64 b')) ((w.drewN 1).drewN n) := by
    rw [run_callFunc_extern Try.func20 (by kernel_rfl) (by kernel_rfl) (by kernel_rfl) (by kernel_rfl : Extern.find Try.f20 = some (Extern.MathFloor.toIntegral "math.RoundToEven" .even)), e2]
    rfl
  rw [e3]
  have e4 : FloatKind.f64.format.order b' b' = none := nan_ord hb'
  go_wp2
  go_ret
  exact ⟨rfl, below_drewN (Below.refl _ _) _⟩
theorem round_nan_pc (x : Nat) (hx : 9218868437227405312 < mag x) : PC Try.prog 13 [flv x] [] (iv 0) [] :=
  pc_flat (fn_ok Try.func13 (by kernel_rfl) (by kernel_rfl)) rfl rfl fun w => round_nan_any x hx w
end Go.Proofs.Ytgkahjaoajjgcaa.Pm
namespace Go.Proofs.Ytgkahjaoajjgcaa.Pm
open Go Mx Go.Proofs.Ytgkahjaoajjgcaa.Fl

theorem ref_sum_yes (T : List (List Int)) (G : List Int) (hTl : T.length ≤ 9223372036854775807) (hrow : ∀ i, (T.getD i []).length * 8 ≤ 140737488351232) (h : Mx.Good (RR T) G) :
    PC Try.prog 12 [.ssl (rows T) 0 T.length, .ssl (ints G) 0 G.length] [] (.tup [.ssl (ints (sums (RR T) G)) 0 (long (RR T) T.length), iv 0]) [] := by
  rw [← sumR_yes h]; exact ref_sum_pc T G hTl hrow
theorem ref_sum_not (T : List (List Int)) (G : List Int) (hTl : T.length ≤ 9223372036854775807) (hrow : ∀ i, (T.getD i []).length * 8 ≤ 140737488351232) (h : ¬ Mx.Good (RR T) G) :
    PC Try.prog 12 [.ssl (rows T) 0 T.length, .ssl (ints G) 0 G.length] [] (.tup [.ssl [] 0 0, iv (errC T G)]) [] := by
  rw [← sumR_no h rfl]; exact ref_sum_pc T G hTl hrow
theorem ref_round_mix (x : Nat) (hx : mag x ≤ 9218868437227405312) : PC Try.prog 14 [flv x] [] (iv (mixI x)) [] := by
  rw [round_same hx]; exact ref_round_num_pc x hx
set_option maxRecDepth 100000 in
set_option maxHeartbeats 4000000 in
theorem law_sums (T : List (List Int)) (G : List Int) (x : Nat) (hTl : T.length ≤ 9223372036854775807) (hrow : ∀ i, (T.getD i []).length * 8 ≤ 140737488351232) : PC Try.prog 6 [(.ssl (rows T) 0 T.length), (.ssl (ints G) 0 G.length), (flv x)] [] (bv true) [] := by
  refine pc_intro Try.func6 rfl (by kernel_rfl) (Nat.le_of_ble_eq_true rfl) (by kernel_rfl) (l0 := [ps 0 (.ssl (rows T) 0 T.length), ps 1 (.ssl (ints G) 0 G.length), ps 2 (flv x)]) rfl (fun c0 Bor hc0 => ?_)
  refine T_seq ?_
  refine T_region [] [ks 0, ks 1, ks 2] (fun _ => mixed) (l' := [ps 0 (.ssl (rows T) 0 T.length), ps 1 (.ssl (ints G) 0 G.length), ps 2 (flv x)]) (obs := []) (by kernel_rfl) (obs_nil) ?_
  refine T_seq ?_
  by_cases h1 : Mx.Good (RR T) G
  · refine T_region [(2, .call [] [(.ssl (rows T) 0 T.length), (.ssl (ints G) 0 G.length)] [] (.tup [(.ssl (ints (sums (RR T) G)) 0 (long (RR T) T.length)), (iv 0)]) [])] [ks 0, ks 1, ks 2, ks 7, ks 8] (fun _ => mixed) (l' := [ps 0 (.ssl (rows T) 0 T.length), ps 1 (.ssl (ints G) 0 G.length), ps 2 (flv x), ps 7 (.ssl (ints (sums (RR T) G)) 0 (long (RR T) T.length)), ps 8 (iv 0)]) (obs := [PC Try.prog 8 [(.ssl (rows T) 0 T.length), (.ssl (ints G) 0 G.length)] [] (.tup [(.ssl (ints (sums (RR T) G)) 0 (long (RR T) T.length)), (iv 0)]) [], [(.ssl (rows T) 0 T.length), (.ssl (ints G) 0 G.length)] = renL (sigi [] 24) [(.ssl (rows T) 0 T.length), (.ssl (ints G) 0 G.length)]]) (by kernel_rfl) (obs_cons (sum_yes T G hTl hrow rfl rfl h1) (obs_cons rfl (obs_nil))) ?_
    refine T_seq ?_
    refine T_region [(2, .call [] [(.ssl (rows T) 0 T.length), (.ssl (ints G) 0 G.length)] [] (.tup [(.ssl (ints (sums (RR T) G)) 0 (long (RR T) T.length)), (iv 0)]) [])] [ks 2, ks 7, ks 8, ks 9, ks 10] (fun _ => mixed) (l' := [ps 2 (flv x), ps 7 (.ssl (ints (sums (RR T) G)) 0 (long (RR T) T.length)), ps 8 (iv 0), ps 9 (.ssl (ints (sums (RR T) G)) 0 (long (RR T) T.length)), ps 10 (iv 0)]) (obs := [PC Try.prog 12 [(.ssl (rows T) 0 T.length), (.ssl (ints G) 0 G.length)] [] (.tup [(.ssl (ints (sums (RR T) G)) 0 (long (RR T) T.length)), (iv 0)]) [], [(.ssl (rows T) 0 T.length), (.ssl (ints G) 0 G.length)] = renL (sigi [] 88) [(.ssl (rows T) 0 T.length), (.ssl (ints G) 0 G.length)]]) (by kernel_rfl) (obs_cons (ref_sum_yes T G hTl hrow h1) (obs_cons rfl (obs_nil))) ?_
    refine T_seq ?_
    by_cases h2 : mag x ≤ 9218868437227405312
    · refine T_region [(2, .call [] [(.ssl (ints (sums (RR T) G)) 0 (long (RR T) T.length)), (.ssl (ints (sums (RR T) G)) 0 (long (RR T) T.length))] [] (bv true) []), (4, .gd true (.no)), (5, .gd true (.no)), (6, .gd true (.no)), (9, .gd true (.no)), (10, .gd true (.call [] [(flv x)] [] (iv (mixI x)) [])), (11, .gd true (.no)), (12, .gd true (.call [] [(flv x)] [] (iv (mixI x)) [])), (13, .gd true (.no))] [ks 6] (fun _ => mixed) (l' := [ps 6 (bv (decide ((mixI x) = (mixI x))))]) (obs := [PC Try.prog 9 [(.ssl (ints (sums (RR T) G)) 0 (long (RR T) T.length)), (.ssl (ints (sums (RR T) G)) 0 (long (RR T) T.length))] [] (bv true) [], [(.ssl (ints (sums (RR T) G)) 0 (long (RR T) T.length)), (.ssl (ints (sums (RR T) G)) 0 (long (RR T) T.length))] = renL (sigi [] 152) [(.ssl (ints (sums (RR T) G)) 0 (long (RR T) T.length)), (.ssl (ints (sums (RR T) G)) 0 (long (RR T) T.length))], true = true, true = true, true = true, true = true, true = true, PC Try.prog 13 [(flv x)] [] (iv (mixI x)) [], [(flv x)] = renL (sigi [] 216) [(flv x)], true = true, true = true, PC Try.prog 14 [(flv x)] [] (iv (mixI x)) [], [(flv x)] = renL (sigi [] 232) [(flv x)], true = true]) (by kernel_rfl) (obs_cons (same_yes (sumsRR_len _ _) (sumsRR_len _ _) (sums_lim _ hrow) rfl) (obs_cons rfl (obs_cons rfl (obs_cons rfl (obs_cons rfl (obs_cons rfl (obs_cons rfl (obs_cons (round_num_pc x h2) (obs_cons rfl (obs_cons rfl (obs_cons rfl (obs_cons (ref_round_mix x h2) (obs_cons rfl (obs_cons rfl (obs_nil))))))))))))))) ?_
      refine T_wk (Wk.eq (show _ = [ps 6 (bv true)] from by rw [show (decide ((mixI x) = (mixI x))) = true from decide_eq_true rfl])) ?_
      exact T_ret fun cx_ a_ hI_ => ret_ok (H' := []) (.inr rfl) (Wk.ren2 [ps 6 (bv true)] 0 hc0 [] rfl rfl (by kernel_rfl) (by kernel_rfl)) rfl (obs_nil) (fun cx_ a_ hI_ => ret_res (l' := [ps 6 (bv true)]) (by kernel_rfl) cx_ a_ hI_) hI_
    · refine T_region [(2, .call [] [(.ssl (ints (sums (RR T) G)) 0 (long (RR T) T.length)), (.ssl (ints (sums (RR T) G)) 0 (long (RR T) T.length))] [] (bv true) []), (4, .gd true (.no)), (5, .gd true (.no)), (6, .gd true (.no)), (9, .gd true (.no)), (10, .gd true (.call [] [(flv x)] [] (iv 0) [])), (11, .gd true (.no)), (12, .gd true (.call [] [(flv x)] [] (iv 0) [])), (13, .gd true (.no))] [ks 6] (fun _ => mixed) (l' := [ps 6 (bv true)]) (obs := [PC Try.prog 9 [(.ssl (ints (sums (RR T) G)) 0 (long (RR T) T.length)), (.ssl (ints (sums (RR T) G)) 0 (long (RR T) T.length))] [] (bv true) [], [(.ssl (ints (sums (RR T) G)) 0 (long (RR T) T.length)), (.ssl (ints (sums (RR T) G)) 0 (long (RR T) T.length))] = renL (sigi [] 152) [(.ssl (ints (sums (RR T) G)) 0 (long (RR T) T.length)), (.ssl (ints (sums (RR T) G)) 0 (long (RR T) T.length))], true = true, true = true, true = true, true = true, true = true, PC Try.prog 13 [(flv x)] [] (iv 0) [], [(flv x)] = renL (sigi [] 216) [(flv x)], true = true, true = true, PC Try.prog 14 [(flv x)] [] (iv 0) [], [(flv x)] = renL (sigi [] 232) [(flv x)], true = true]) (by kernel_rfl) (obs_cons (same_yes (sumsRR_len _ _) (sumsRR_len _ _) (sums_lim _ hrow) rfl) (obs_cons rfl (obs_cons rfl (obs_cons rfl (obs_cons rfl (obs_cons rfl (obs_cons rfl (obs_cons (round_nan_pc x (by omega)) (obs_cons rfl (obs_cons rfl (obs_cons rfl (obs_cons (ref_round_nan_pc x (by omega)) (obs_cons rfl (obs_cons rfl (obs_nil))))))))))))))) ?_
      exact T_ret fun cx_ a_ hI_ => ret_ok (H' := []) (.inr rfl) (Wk.ren2 [ps 6 (bv true)] 0 hc0 [] rfl rfl (by kernel_rfl) (by kernel_rfl)) rfl (obs_nil) (fun cx_ a_ hI_ => ret_res (l' := [ps 6 (bv true)]) (by kernel_rfl) cx_ a_ hI_) hI_
  · refine T_region [(2, .call [] [(.ssl (rows T) 0 T.length), (.ssl (ints G) 0 G.length)] [] (.tup [(.ssl [] 0 0), (iv (errC T G))]) [])] [ks 0, ks 1, ks 2, ks 7, ks 8] (fun _ => mixed) (l' := [ps 0 (.ssl (rows T) 0 T.length), ps 1 (.ssl (ints G) 0 G.length), ps 2 (flv x), ps 7 (.ssl [] 0 0), ps 8 (iv (errC T G))]) (obs := [PC Try.prog 8 [(.ssl (rows T) 0 T.length), (.ssl (ints G) 0 G.length)] [] (.tup [(.ssl [] 0 0), (iv (errC T G))]) [], [(.ssl (rows T) 0 T.length), (.ssl (ints G) 0 G.length)] = renL (sigi [] 24) [(.ssl (rows T) 0 T.length), (.ssl (ints G) 0 G.length)]]) (by kernel_rfl) (obs_cons (sum_not T G hTl hrow h1) (obs_cons rfl (obs_nil))) ?_
    refine T_seq ?_
    refine T_region [(2, .call [] [(.ssl (rows T) 0 T.length), (.ssl (ints G) 0 G.length)] [] (.tup [(.ssl [] 0 0), (iv (errC T G))]) [])] [ks 2, ks 7, ks 8, ks 9, ks 10] (fun _ => mixed) (l' := [ps 2 (flv x), ps 7 (.ssl [] 0 0), ps 8 (iv (errC T G)), ps 9 (.ssl [] 0 0), ps 10 (iv (errC T G))]) (obs := [PC Try.prog 12 [(.ssl (rows T) 0 T.length), (.ssl (ints G) 0 G.length)] [] (.tup [(.ssl [] 0 0), (iv (errC T G))]) [], [(.ssl (rows T) 0 T.length), (.ssl (ints G) 0 G.length)] = renL (sigi [] 88) [(.ssl (rows T) 0 T.length), (.ssl (ints G) 0 G.length)]]) (by kernel_rfl) (obs_cons (ref_sum_not T G hTl hrow h1) (obs_cons rfl (obs_nil))) ?_
    refine T_seq ?_
    have h3 : (errC T G) = (errC T G) := rfl
    by_cases h4 : mag x ≤ 9218868437227405312
    · refine T_region [(2, .call [] [(.ssl [] 0 0), (.ssl [] 0 0)] [] (bv true) []), (4, .gd true (.no)), (5, .gd true (.no)), (6, .gd true (.no)), (9, .gd true (.no)), (10, .gd true (.call [] [(flv x)] [] (iv (mixI x)) [])), (11, .gd true (.no)), (12, .gd true (.call [] [(flv x)] [] (iv (mixI x)) [])), (13, .gd true (.no)), (14, .yes true)] [ks 6] (fun _ => mixed) (l' := [ps 6 (bv (decide ((mixI x) = (mixI x))))]) (obs := [PC Try.prog 9 [(.ssl [] 0 0), (.ssl [] 0 0)] [] (bv true) [], [(.ssl [] 0 0), (.ssl [] 0 0)] = renL (sigi [] 152) [(.ssl [] 0 0), (.ssl [] 0 0)], true = true, true = true, true = true, (decide ((errC T G) = (errC T G))) = true, (decide ((errC T G) = (errC T G))) = true, PC Try.prog 13 [(flv x)] [] (iv (mixI x)) [], [(flv x)] = renL (sigi [] 216) [(flv x)], (decide ((errC T G) = (errC T G))) = true, (decide ((errC T G) = (errC T G))) = true, PC Try.prog 14 [(flv x)] [] (iv (mixI x)) [], [(flv x)] = renL (sigi [] 232) [(flv x)], (decide ((errC T G) = (errC T G))) = true, (decide ((errC T G) = (errC T G))) = true]) (by kernel_rfl) (obs_cons (same_yes (l := []) (m := []) rfl rfl (by decide) rfl) (obs_cons rfl (obs_cons rfl (obs_cons rfl (obs_cons rfl (obs_cons (decide_eq_true h3) (obs_cons (decide_eq_true h3) (obs_cons (round_num_pc x h4) (obs_cons rfl (obs_cons (decide_eq_true h3) (obs_cons (decide_eq_true h3) (obs_cons (ref_round_mix x h4) (obs_cons rfl (obs_cons (decide_eq_true h3) (obs_cons (decide_eq_true h3) (obs_nil)))))))))))))))) ?_
      refine T_wk (Wk.eq (show _ = [ps 6 (bv true)] from by rw [show (decide ((mixI x) = (mixI x))) = true from decide_eq_true rfl])) ?_
      exact T_ret fun cx_ a_ hI_ => ret_ok (H' := []) (.inr rfl) (Wk.ren2 [ps 6 (bv true)] 0 hc0 [] rfl rfl (by kernel_rfl) (by kernel_rfl)) rfl (obs_nil) (fun cx_ a_ hI_ => ret_res (l' := [ps 6 (bv true)]) (by kernel_rfl) cx_ a_ hI_) hI_
    · refine T_region [(2, .call [] [(.ssl [] 0 0), (.ssl [] 0 0)] [] (bv true) []), (4, .gd true (.no)), (5, .gd true (.no)), (6, .gd true (.no)), (9, .gd true (.no)), (10, .gd true (.call [] [(flv x)] [] (iv 0) [])), (11, .gd true (.no)), (12, .gd true (.call [] [(flv x)] [] (iv 0) [])), (13, .gd true (.no)), (14, .yes true)] [ks 6] (fun _ => mixed) (l' := [ps 6 (bv true)]) (obs := [PC Try.prog 9 [(.ssl [] 0 0), (.ssl [] 0 0)] [] (bv true) [], [(.ssl [] 0 0), (.ssl [] 0 0)] = renL (sigi [] 152) [(.ssl [] 0 0), (.ssl [] 0 0)], true = true, true = true, true = true, (decide ((errC T G) = (errC T G))) = true, (decide ((errC T G) = (errC T G))) = true, PC Try.prog 13 [(flv x)] [] (iv 0) [], [(flv x)] = renL (sigi [] 216) [(flv x)], (decide ((errC T G) = (errC T G))) = true, (decide ((errC T G) = (errC T G))) = true, PC Try.prog 14 [(flv x)] [] (iv 0) [], [(flv x)] = renL (sigi [] 232) [(flv x)], (decide ((errC T G) = (errC T G))) = true, (decide ((errC T G) = (errC T G))) = true]) (by kernel_rfl) (obs_cons (same_yes (l := []) (m := []) rfl rfl (by decide) rfl) (obs_cons rfl (obs_cons rfl (obs_cons rfl (obs_cons rfl (obs_cons (decide_eq_true h3) (obs_cons (decide_eq_true h3) (obs_cons (round_nan_pc x (by omega)) (obs_cons rfl (obs_cons (decide_eq_true h3) (obs_cons (decide_eq_true h3) (obs_cons (ref_round_nan_pc x (by omega)) (obs_cons rfl (obs_cons (decide_eq_true h3) (obs_cons (decide_eq_true h3) (obs_nil)))))))))))))))) ?_
      exact T_ret fun cx_ a_ hI_ => ret_ok (H' := []) (.inr rfl) (Wk.ren2 [ps 6 (bv true)] 0 hc0 [] rfl rfl (by kernel_rfl) (by kernel_rfl)) rfl (obs_nil) (fun cx_ a_ hI_ => ret_res (l' := [ps 6 (bv true)]) (by kernel_rfl) cx_ a_ hI_) hI_
end Go.Proofs.Ytgkahjaoajjgcaa.Pm
namespace Go.Proofs.Ytgkahjaoajjgcaa.Pm
open Go

theorem row_lim {T : List (List Int)} (h : ∀ l ∈ T, (∀ m ∈ l, (Lit.int .i64 m).wf = true) ∧ l.length * Try.prog.bytesOf 3 ≤ reachBytes) (i : Nat) : (T.getD i []).length * 8 ≤ 140737488351232 := by
  by_cases hi : i < T.length
  · have h1 := (h _ (List.getElem_mem hi)).2
    rw [show Try.prog.bytesOf 3 = 8 from by kernel_rfl] at h1
    have h2 : reachBytes = 140737488351232 := rfl
    rw [List.getD_eq_getElem?_getD, List.getElem?_eq_getElem hi]
    show T[i].length * 8 ≤ _
    omega
  · rw [List.getD_eq_getElem?_getD, List.getElem?_eq_none (by omega)]
    decide
end Go.Proofs.Ytgkahjaoajjgcaa.Pm
