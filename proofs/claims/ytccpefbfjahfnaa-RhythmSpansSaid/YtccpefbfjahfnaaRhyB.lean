/-
  LENGTHS: the document's. (Printed by wip/pm.)
-/
import Derived.Test.YtccpefbfjahfnaaRhyP
namespace Go.Proofs.Ytccpefbfjahfnaa.Pm
open Go Fr

theorem power_pc (n : Nat) (hn : n ≤ 60) : PC Try.prog 22 [(iv ((n : Nat) : Int))] [] (iv ((2 : Int) ^ n)) [] := by
  refine pc_intro Try.func22 rfl (by kernel_rfl) (by decide) (by kernel_rfl) (l0 := [ps 0 (iv ((n : Nat) : Int))]) rfl (fun c0 Bor hc0 => ?_)
  refine T_seq ?_
  refine T_region [] [ks 0] (fun _ => mixed) (l' := [ps 0 (iv ((n : Nat) : Int))]) (obs := []) (by kernel_rfl) (obs_nil) ?_
  refine T_seq ?_
  refine T_region [] [ks 0, ks 3] (fun _ => mixed) (l' := [ps 0 (iv ((n : Nat) : Int)), ps 3 (iv 1)]) (obs := []) (by kernel_rfl) (obs_nil) ?_
  refine T_seq ?_
  refine T_seq ?_
  refine T_region [] [ks 0, ks 3, ks 4] (fun _ => mixed) (l' := [ps 0 (iv ((n : Nat) : Int)), ps 3 (iv 1), ps 4 (iv 0)]) (obs := []) (by kernel_rfl) (obs_nil) ?_
  refine T_block ?_
  refine T_loop (α := {x : Nat // x ≤ n}) (fun x => [ps 0 (iv ((n : Nat) : Int)), ps 3 (iv ((2 : Int) ^ x.1)), ps 4 (iv ((x.1 : Nat) : Int))]) (fun x => n - x.1) 0 ⟨0, Nat.zero_le _⟩ (Wk.ren2 [ps 0 (iv ((n : Nat) : Int)), ps 3 (iv ((2 : Int) ^ 0)), ps 4 (iv ((0 : Nat) : Int))] 0 hc0 [] rfl rfl (by kernel_rfl) (by kernel_rfl)) ?_
  rintro ⟨i, hi⟩
  refine T_seq ?_
  refine T_seq ?_
  refine T_region [] [ks 0, ks 3, ks 4, ks 7] (fun _ => mixed) (l' := [ps 0 (iv ((n : Nat) : Int)), ps 3 (iv ((2 : Int) ^ i)), ps 4 (iv ((i : Nat) : Int)), ps 7 (bv (decide (((i : Nat) : Int) < ((n : Nat) : Int))))]) (obs := []) (by kernel_rfl) (obs_nil) ?_
  by_cases h1 : ((i : Nat) : Int) < ((n : Nat) : Int)
  · refine T_then (b := (decide (((i : Nat) : Int) < ((n : Nat) : Int)))) rfl (decide_eq_true h1) ?_
    refine T_skip ?_
    refine T_seq ?_
    refine T_block ?_
    refine T_region [] [ks 0, ks 3, ks 4] (fun _ => mixed) (l' := [ps 0 (iv ((n : Nat) : Int)), ps 3 (iv (2 * ((2 : Int) ^ i))), ps 4 (iv ((i : Nat) : Int))]) (obs := [InK .i64 (2 * ((2 : Int) ^ i))]) (by kernel_rfl) (obs_cons (p := InK .i64 (2 * ((2 : Int) ^ i))) (by have := pow_bd i 60 (by omega); simp only [InK]; omega) (obs_nil)) ?_
    refine T_blk ?_
    refine T_region [] [ks 0, ks 3, ks 4] (fun _ => mixed) (l' := [ps 0 (iv ((n : Nat) : Int)), ps 3 (iv (2 * ((2 : Int) ^ i))), ps 4 (iv (((i : Nat) : Int) + 1))]) (obs := [InK .i64 (((i : Nat) : Int) + 1)]) (by kernel_rfl) (obs_cons (p := InK .i64 (((i : Nat) : Int) + 1)) (by simp only [InK]; omega) (obs_nil)) ?_
    exact T_back ⟨i + 1, by omega⟩ (Wk.trans (Wk.eq (show [ps 0 (iv ((n : Nat) : Int)), ps 3 (iv (2 * ((2 : Int) ^ i))), ps 4 (iv (((i : Nat) : Int) + 1))] = [ps 0 (iv ((n : Nat) : Int)), ps 3 (iv ((2 : Int) ^ (i + 1))), ps 4 (iv (((i : Nat) : Int) + 1))] from by rw [pow_succ2])) (Wk.ren2 [ps 0 (iv ((n : Nat) : Int)), ps 3 (iv ((2 : Int) ^ (i + 1))), ps 4 (iv (((i + 1) : Nat) : Int))] 0 hc0 [] rfl rfl (by kernel_rfl) (by kernel_rfl))) (show n - (i + 1) < n - i from by omega)
  · refine T_else (b := (decide (((i : Nat) : Int) < ((n : Nat) : Int)))) rfl (decide_eq_false h1) ?_
    refine T_break rfl rfl ?_
    refine T_seq ?_
    refine T_region [] [ks 2] (fun _ => mixed) (l' := [ps 2 (iv ((2 : Int) ^ i))]) (obs := []) (by kernel_rfl) (obs_nil) ?_
    obtain rfl : i = n := by omega
    exact T_ret fun cx_ a_ hI_ => ret_ok (H' := []) (.inr rfl) (Wk.ren2 [ps 2 (iv ((2 : Int) ^ i))] 0 hc0 [] rfl rfl (by kernel_rfl) (by kernel_rfl)) rfl (obs_nil) (fun cx_ a_ hI_ => ret_res (l' := [ps 2 (iv ((2 : Int) ^ i))]) (by kernel_rfl) cx_ a_ hI_) hI_
theorem r3p_eq (u d e : Int) : R3P (u, d, e) = .tup [.agg [iv u, iv d], iv e] := rfl
theorem ref_length_pc0 (h d : Int) : PC Try.prog 8 [(.agg [(iv h), (iv d)])] [] (R3P (lenS h d)) [none] := by
  refine pc_intro Try.func8 rfl (by kernel_rfl) (by decide) (by kernel_rfl) (l0 := [ps 0 (.agg [(iv h), (iv d)])]) rfl (fun c0 Bor hc0 => ?_)
  refine T_seq ?_
  refine T_region [] [ks 1, ks 2, kb 0, kb 8] (fun _ => mixed) (l' := [ps 1 (.opt 0 0), ps 2 (.opt 8 0), pb 0 23 [(iv h), (iv d)], pb 8 25 [(iv 0), (iv 0)]]) (obs := []) (by kernel_rfl) (obs_nil) ?_
  refine T_seq ?_
  refine T_seq ?_
  by_cases h1 : h < 0
  · refine T_region [(4, .gd true .no), (5, .gd true .no), (6, .gd true .no), (7, .yes true), (9, .gd true .no), (10, .gd true .no), (11, .gd true .no), (14, .gd true .no), (15, .gd true .no), (16, .gd true .no)] [ks 1, ks 2, ks 23, kb 0, kb 8] (fun _ => mixed) (l' := [ps 1 (.opt 0 0), ps 2 (.opt 8 0), ps 23 (bv true), pb 0 23 [(iv h), (iv d)], pb 8 25 [(iv 0), (iv 0)]]) (obs := [(decide (h < 0)) = true, (decide (h < 0)) = true, (decide (h < 0)) = true, (decide (h < 0)) = true, true = true, true = true, true = true, true = true, true = true, true = true]) (by kernel_rfl) (obs_cons (p := (decide (h < 0)) = true) (decide_eq_true h1) (obs_cons (p := (decide (h < 0)) = true) (decide_eq_true h1) (obs_cons (p := (decide (h < 0)) = true) (decide_eq_true h1) (obs_cons (p := (decide (h < 0)) = true) (decide_eq_true h1) (obs_cons (p := true = true) rfl (obs_cons (p := true = true) rfl (obs_cons (p := true = true) rfl (obs_cons (p := true = true) rfl (obs_cons (p := true = true) rfl (obs_cons (p := true = true) rfl (obs_nil))))))))))) ?_
    refine T_then (b := true) rfl rfl ?_
    refine T_seq ?_
    refine T_region [] [ks 2, ks 3, kb 8] (fun _ => mixed) (l' := [ps 2 (.opt 8 0), ps 3 (iv 3), pb 8 25 [(iv 0), (iv 0)]]) (obs := []) (by kernel_rfl) (obs_nil) ?_
    rw [lenS_no (by omega)]
    exact T_ret fun cx_ a_ hI_ => ret_ok (H' := [none]) (.inr rfl) (Wk.ren2 [ps 2 (.opt 0 0), ps 3 (iv 3), pb 0 25 [(iv 0), (iv 0)]] 0 hc0 [8] rfl rfl (by kernel_rfl) (by kernel_rfl)) rfl (obs_nil) (fun cx_ a_ hI_ => ret_res (l' := [ps 2 (.opt 0 0), ps 3 (iv 3), pb 0 25 [(iv 0), (iv 0)]]) (by kernel_rfl) cx_ a_ hI_) hI_
  · by_cases h2 : 10 < h
    · refine T_region [(4, .gd false (.no)), (5, .gd false (.no)), (6, .gd false (.no)), (7, .yes false), (9, .gd true .no), (10, .gd true .no), (11, .gd true .no), (12, .yes true), (14, .gd true .no), (15, .gd true .no), (16, .gd true .no)] [ks 1, ks 2, ks 23, kb 0, kb 8] (fun _ => mixed) (l' := [ps 1 (.opt 0 0), ps 2 (.opt 8 0), ps 23 (bv true), pb 0 23 [(iv h), (iv d)], pb 8 25 [(iv 0), (iv 0)]]) (obs := [(decide (h < 0)) = false, (decide (h < 0)) = false, (decide (h < 0)) = false, (decide (h < 0)) = false, (decide (10 < h)) = true, (decide (10 < h)) = true, (decide (10 < h)) = true, (decide (10 < h)) = true, true = true, true = true, true = true]) (by kernel_rfl) (obs_cons (p := (decide (h < 0)) = false) (decide_eq_false h1) (obs_cons (p := (decide (h < 0)) = false) (decide_eq_false h1) (obs_cons (p := (decide (h < 0)) = false) (decide_eq_false h1) (obs_cons (p := (decide (h < 0)) = false) (decide_eq_false h1) (obs_cons (p := (decide (10 < h)) = true) (decide_eq_true h2) (obs_cons (p := (decide (10 < h)) = true) (decide_eq_true h2) (obs_cons (p := (decide (10 < h)) = true) (decide_eq_true h2) (obs_cons (p := (decide (10 < h)) = true) (decide_eq_true h2) (obs_cons (p := true = true) rfl (obs_cons (p := true = true) rfl (obs_cons (p := true = true) rfl (obs_nil)))))))))))) ?_
      refine T_then (b := true) rfl rfl ?_
      refine T_seq ?_
      refine T_region [] [ks 2, ks 3, kb 8] (fun _ => mixed) (l' := [ps 2 (.opt 8 0), ps 3 (iv 3), pb 8 25 [(iv 0), (iv 0)]]) (obs := []) (by kernel_rfl) (obs_nil) ?_
      rw [lenS_no (by omega)]
      exact T_ret fun cx_ a_ hI_ => ret_ok (H' := [none]) (.inr rfl) (Wk.ren2 [ps 2 (.opt 0 0), ps 3 (iv 3), pb 0 25 [(iv 0), (iv 0)]] 0 hc0 [8] rfl rfl (by kernel_rfl) (by kernel_rfl)) rfl (obs_nil) (fun cx_ a_ hI_ => ret_res (l' := [ps 2 (.opt 0 0), ps 3 (iv 3), pb 0 25 [(iv 0), (iv 0)]]) (by kernel_rfl) cx_ a_ hI_) hI_
    · by_cases h3 : d < 0
      · refine T_region [(4, .gd false (.no)), (5, .gd false (.no)), (6, .gd false (.no)), (7, .yes false), (9, .gd false (.no)), (10, .gd false (.no)), (11, .gd false (.no)), (12, .yes false), (14, .gd true .no), (15, .gd true .no), (16, .gd true .no), (17, .yes true)] [ks 1, ks 2, ks 23, kb 0, kb 8] (fun _ => mixed) (l' := [ps 1 (.opt 0 0), ps 2 (.opt 8 0), ps 23 (bv true), pb 0 23 [(iv h), (iv d)], pb 8 25 [(iv 0), (iv 0)]]) (obs := [(decide (h < 0)) = false, (decide (h < 0)) = false, (decide (h < 0)) = false, (decide (h < 0)) = false, (decide (10 < h)) = false, (decide (10 < h)) = false, (decide (10 < h)) = false, (decide (10 < h)) = false, (decide (d < 0)) = true, (decide (d < 0)) = true, (decide (d < 0)) = true, (decide (d < 0)) = true]) (by kernel_rfl) (obs_cons (p := (decide (h < 0)) = false) (decide_eq_false h1) (obs_cons (p := (decide (h < 0)) = false) (decide_eq_false h1) (obs_cons (p := (decide (h < 0)) = false) (decide_eq_false h1) (obs_cons (p := (decide (h < 0)) = false) (decide_eq_false h1) (obs_cons (p := (decide (10 < h)) = false) (decide_eq_false h2) (obs_cons (p := (decide (10 < h)) = false) (decide_eq_false h2) (obs_cons (p := (decide (10 < h)) = false) (decide_eq_false h2) (obs_cons (p := (decide (10 < h)) = false) (decide_eq_false h2) (obs_cons (p := (decide (d < 0)) = true) (decide_eq_true h3) (obs_cons (p := (decide (d < 0)) = true) (decide_eq_true h3) (obs_cons (p := (decide (d < 0)) = true) (decide_eq_true h3) (obs_cons (p := (decide (d < 0)) = true) (decide_eq_true h3) (obs_nil))))))))))))) ?_
        refine T_then (b := true) rfl rfl ?_
        refine T_seq ?_
        refine T_region [] [ks 2, ks 3, kb 8] (fun _ => mixed) (l' := [ps 2 (.opt 8 0), ps 3 (iv 3), pb 8 25 [(iv 0), (iv 0)]]) (obs := []) (by kernel_rfl) (obs_nil) ?_
        rw [lenS_no (by omega)]
        exact T_ret fun cx_ a_ hI_ => ret_ok (H' := [none]) (.inr rfl) (Wk.ren2 [ps 2 (.opt 0 0), ps 3 (iv 3), pb 0 25 [(iv 0), (iv 0)]] 0 hc0 [8] rfl rfl (by kernel_rfl) (by kernel_rfl)) rfl (obs_nil) (fun cx_ a_ hI_ => ret_res (l' := [ps 2 (.opt 0 0), ps 3 (iv 3), pb 0 25 [(iv 0), (iv 0)]]) (by kernel_rfl) cx_ a_ hI_) hI_
      · refine T_region [(4, .gd false (.no)), (5, .gd false (.no)), (6, .gd false (.no)), (7, .yes false), (9, .gd false (.no)), (10, .gd false (.no)), (11, .gd false (.no)), (12, .yes false), (14, .gd false (.no)), (15, .gd false (.no)), (16, .gd false (.no)), (17, .yes false)] [ks 1, ks 2, ks 23, kb 0, kb 8] (fun _ => mixed) (l' := [ps 1 (.opt 0 0), ps 2 (.opt 8 0), ps 23 (bv (decide (3 < d))), pb 0 23 [(iv h), (iv d)], pb 8 25 [(iv 0), (iv 0)]]) (obs := [(decide (h < 0)) = false, (decide (h < 0)) = false, (decide (h < 0)) = false, (decide (h < 0)) = false, (decide (10 < h)) = false, (decide (10 < h)) = false, (decide (10 < h)) = false, (decide (10 < h)) = false, (decide (d < 0)) = false, (decide (d < 0)) = false, (decide (d < 0)) = false, (decide (d < 0)) = false]) (by kernel_rfl) (obs_cons (p := (decide (h < 0)) = false) (decide_eq_false h1) (obs_cons (p := (decide (h < 0)) = false) (decide_eq_false h1) (obs_cons (p := (decide (h < 0)) = false) (decide_eq_false h1) (obs_cons (p := (decide (h < 0)) = false) (decide_eq_false h1) (obs_cons (p := (decide (10 < h)) = false) (decide_eq_false h2) (obs_cons (p := (decide (10 < h)) = false) (decide_eq_false h2) (obs_cons (p := (decide (10 < h)) = false) (decide_eq_false h2) (obs_cons (p := (decide (10 < h)) = false) (decide_eq_false h2) (obs_cons (p := (decide (d < 0)) = false) (decide_eq_false h3) (obs_cons (p := (decide (d < 0)) = false) (decide_eq_false h3) (obs_cons (p := (decide (d < 0)) = false) (decide_eq_false h3) (obs_cons (p := (decide (d < 0)) = false) (decide_eq_false h3) (obs_nil))))))))))))) ?_
        by_cases h4 : 3 < d
        · refine T_then (b := (decide (3 < d))) rfl (decide_eq_true h4) ?_
          refine T_seq ?_
          refine T_region [] [ks 2, ks 3, kb 8] (fun _ => mixed) (l' := [ps 2 (.opt 8 0), ps 3 (iv 3), pb 8 25 [(iv 0), (iv 0)]]) (obs := []) (by kernel_rfl) (obs_nil) ?_
          rw [lenS_no (by omega)]
          exact T_ret fun cx_ a_ hI_ => ret_ok (H' := [none]) (.inr rfl) (Wk.ren2 [ps 2 (.opt 0 0), ps 3 (iv 3), pb 0 25 [(iv 0), (iv 0)]] 0 hc0 [8] rfl rfl (by kernel_rfl) (by kernel_rfl)) rfl (obs_nil) (fun cx_ a_ hI_ => ret_res (l' := [ps 2 (.opt 0 0), ps 3 (iv 3), pb 0 25 [(iv 0), (iv 0)]]) (by kernel_rfl) cx_ a_ hI_) hI_
        · refine T_else (b := (decide (3 < d))) rfl (decide_eq_false h4) ?_
          refine T_skip ?_
          refine T_seq ?_
          obtain ⟨a, rfl⟩ : ∃ a : Nat, h = (a : Int) := ⟨h.toNat, by omega⟩
          obtain ⟨b, rfl⟩ : ∃ b : Nat, d = (b : Int) := ⟨d.toNat, by omega⟩
          refine T_region [] [ks 1, ks 2, ks 4, kb 0, kb 8, kb 176] (fun _ => mixed) (l' := [ps 1 (.opt 0 0), ps 2 (.opt 8 0), ps 4 (.opt 176 0), pb 0 23 [(iv ((a : Nat) : Int)), (iv ((b : Nat) : Int))], pb 8 25 [(iv 0), (iv 0)], pb 176 25 [(iv 0), (iv 1)]]) (obs := []) (by kernel_rfl) (obs_nil) ?_
          refine T_seq ?_
          refine T_seq ?_
          refine T_region [] [ks 1, ks 2, ks 4, ks 5, kb 0, kb 8, kb 176] (fun _ => mixed) (l' := [ps 1 (.opt 0 0), ps 2 (.opt 8 0), ps 4 (.opt 176 0), ps 5 (iv 0), pb 0 23 [(iv ((a : Nat) : Int)), (iv ((b : Nat) : Int))], pb 8 25 [(iv 0), (iv 0)], pb 176 25 [(iv 0), (iv 1)]]) (obs := []) (by kernel_rfl) (obs_nil) ?_
          refine T_block ?_
          refine T_wk (Wk.eq (show [ps 1 (.opt 0 0), ps 2 (.opt 8 0), ps 4 (.opt 176 0), ps 5 (iv 0), pb 0 23 [(iv ((a : Nat) : Int)), (iv ((b : Nat) : Int))], pb 8 25 [(iv 0), (iv 0)], pb 176 25 [(iv 0), (iv 1)]] = [ps 1 (.opt 0 0), ps 2 (.opt 8 0), ps 4 (.opt 176 0), ps 5 (iv 0), pb 0 23 [(iv ((a : Nat) : Int)), (iv ((b : Nat) : Int))], pb 8 25 [(iv 0), (iv 0)], pb 176 25 [(iv ((sumS a 0).1)), (iv ((sumS a 0).2))]] from by rfl)) ?_
          refine T_loop (α := {x : Nat // x ≤ b + 1}) (fun x => [ps 1 (.opt 0 0), ps 2 (.opt 1 0), ps 4 (.opt 2 0), ps 5 (iv ((x.1 : Nat) : Int)), pb 0 23 [(iv ((a : Nat) : Int)), (iv ((b : Nat) : Int))], pb 1 25 [(iv 0), (iv 0)], pb 2 25 [(iv ((sumS a x.1).1)), (iv ((sumS a x.1).2))]]) (fun x => b + 1 - x.1) 3 ⟨0, Nat.zero_le _⟩ (Wk.ren2 [ps 1 (.opt 0 0), ps 2 (.opt 1 0), ps 4 (.opt 2 0), ps 5 (iv ((0 : Nat) : Int)), pb 0 23 [(iv ((a : Nat) : Int)), (iv ((b : Nat) : Int))], pb 1 25 [(iv 0), (iv 0)], pb 2 25 [(iv ((sumS a 0).1)), (iv ((sumS a 0).2))]] 0 hc0 [0, 8, 176] rfl rfl (by kernel_rfl) (by kernel_rfl)) ?_
          rintro ⟨i, hi⟩
          refine T_seq ?_
          refine T_seq ?_
          refine T_region [] [ks 1, ks 2, ks 4, ks 5, ks 29, kb 0, kb 1, kb 2] (fun _ => mixed) (l' := [ps 1 (.opt 0 0), ps 2 (.opt 1 0), ps 4 (.opt 2 0), ps 5 (iv ((i : Nat) : Int)), ps 29 (bv (decide (((i : Nat) : Int) ≤ ((b : Nat) : Int)))), pb 0 23 [(iv ((a : Nat) : Int)), (iv ((b : Nat) : Int))], pb 1 25 [(iv 0), (iv 0)], pb 2 25 [(iv ((sumS a i).1)), (iv ((sumS a i).2))]]) (obs := []) (by kernel_rfl) (obs_nil) ?_
          by_cases h5 : ((i : Nat) : Int) ≤ ((b : Nat) : Int)
          · refine T_then (b := (decide (((i : Nat) : Int) ≤ ((b : Nat) : Int)))) rfl (decide_eq_true h5) ?_
            refine T_skip ?_
            refine T_seq ?_
            refine T_block ?_
            refine T_region [(5, .call [] [(iv (((a + i) : Nat) : Int))] [] (iv ((2 : Int) ^ (a + i))) []), (7, .call [] [(.agg [(iv ((sumS a i).1)), (iv ((sumS a i).2))]), (.agg [(iv 1), (iv ((2 : Int) ^ (a + i)))])] [] (.tup [(.agg [(iv ((sumS a (i + 1)).1)), (iv ((sumS a (i + 1)).2))]), (iv 0)]) [])] [ks 1, ks 2, ks 4, ks 5, kb 0, kb 1, kb 2] (fun _ => mixed) (l' := [ps 1 (.opt 0 0), ps 2 (.opt 1 0), ps 4 (.opt 2 0), ps 5 (iv ((i : Nat) : Int)), pb 0 23 [(iv ((a : Nat) : Int)), (iv ((b : Nat) : Int))], pb 1 25 [(iv 0), (iv 0)], pb 2 25 [(iv ((sumS a (i + 1)).1)), (iv ((sumS a (i + 1)).2))]]) (obs := [InK .i64 (((a : Nat) : Int) + ((i : Nat) : Int)), PC Try.prog 22 [(iv (((a + i) : Nat) : Int))] [] (iv ((2 : Int) ^ (a + i))) [], [(iv (((a + i) : Nat) : Int))] = renL (sigi [] 75) [(iv (((a + i) : Nat) : Int))], PC Try.prog 14 [(.agg [(iv ((sumS a i).1)), (iv ((sumS a i).2))]), (.agg [(iv 1), (iv ((2 : Int) ^ (a + i)))])] [] (.tup [(.agg [(iv ((sumS a (i + 1)).1)), (iv ((sumS a (i + 1)).2))]), (iv 0)]) [], [(.agg [(iv ((sumS a i).1)), (iv ((sumS a i).2))]), (.agg [(iv 1), (iv ((2 : Int) ^ (a + i)))])] = renL (sigi [] 91) [(.agg [(iv ((sumS a i).1)), (iv ((sumS a i).2))]), (.agg [(iv 1), (iv ((2 : Int) ^ (a + i)))])]]) (by kernel_rfl) (obs_cons (p := InK .i64 (((a : Nat) : Int) + ((i : Nat) : Int))) (by simp only [InK]; omega) (obs_cons (p := PC Try.prog 22 [(iv (((a + i) : Nat) : Int))] [] (iv ((2 : Int) ^ (a + i))) []) (power_pc (a + i) (by omega)) (obs_cons (p := [(iv (((a + i) : Nat) : Int))] = renL (sigi [] 75) [(iv (((a + i) : Nat) : Int))]) rfl (obs_cons (p := PC Try.prog 14 [(.agg [(iv ((sumS a i).1)), (iv ((sumS a i).2))]), (.agg [(iv 1), (iv ((2 : Int) ^ (a + i)))])] [] (.tup [(.agg [(iv ((sumS a (i + 1)).1)), (iv ((sumS a (i + 1)).2))]), (iv 0)]) []) (by show PC _ _ _ _ (R3P ((sumS a (i + 1)).1, (sumS a (i + 1)).2, 0)) _; rw [← sumS_next a (by omega) i (by omega)]; have := sumS_bd a i (by omega) (by omega); have := pow_bd (a + i) 14 (by omega); exact ref_plus_pc _ _ _ _ (by unfold Fr.I64; omega) (by unfold Fr.I64; omega) (by unfold Fr.I64; omega) (by unfold Fr.I64; omega)) (obs_cons (p := [(.agg [(iv ((sumS a i).1)), (iv ((sumS a i).2))]), (.agg [(iv 1), (iv ((2 : Int) ^ (a + i)))])] = renL (sigi [] 91) [(.agg [(iv ((sumS a i).1)), (iv ((sumS a i).2))]), (.agg [(iv 1), (iv ((2 : Int) ^ (a + i)))])]) rfl (obs_nil)))))) ?_
            refine T_blk ?_
            refine T_region [] [ks 1, ks 2, ks 4, ks 5, kb 0, kb 1, kb 2] (fun _ => mixed) (l' := [ps 1 (.opt 0 0), ps 2 (.opt 1 0), ps 4 (.opt 2 0), ps 5 (iv (((i : Nat) : Int) + 1)), pb 0 23 [(iv ((a : Nat) : Int)), (iv ((b : Nat) : Int))], pb 1 25 [(iv 0), (iv 0)], pb 2 25 [(iv ((sumS a (i + 1)).1)), (iv ((sumS a (i + 1)).2))]]) (obs := [InK .i64 (((i : Nat) : Int) + 1)]) (by kernel_rfl) (obs_cons (p := InK .i64 (((i : Nat) : Int) + 1)) (by simp only [InK]; omega) (obs_nil)) ?_
            exact T_back ⟨i + 1, by omega⟩ (Wk.ren2 [ps 1 (.opt 0 0), ps 2 (.opt 1 0), ps 4 (.opt 2 0), ps 5 (iv (((i + 1) : Nat) : Int)), pb 0 23 [(iv ((a : Nat) : Int)), (iv ((b : Nat) : Int))], pb 1 25 [(iv 0), (iv 0)], pb 2 25 [(iv ((sumS a (i + 1)).1)), (iv ((sumS a (i + 1)).2))]] 0 hc0 [0, 1, 2] rfl rfl (by kernel_rfl) (by kernel_rfl)) (show b + 1 - (i + 1) < b + 1 - i from by omega)
          · refine T_else (b := (decide (((i : Nat) : Int) ≤ ((b : Nat) : Int)))) rfl (decide_eq_false h5) ?_
            refine T_break rfl rfl ?_
            refine T_seq ?_
            refine T_region [] [ks 2, ks 3, kb 1] (fun _ => mixed) (l' := [ps 2 (.opt 1 0), ps 3 (iv 0), pb 1 25 [(iv ((sumS a i).1)), (iv ((sumS a i).2))]]) (obs := []) (by kernel_rfl) (obs_nil) ?_
            obtain rfl : i = b + 1 := by omega
            rw [sumS_len a (by omega) b (by omega)]
            exact T_ret fun cx_ a_ hI_ => ret_ok (H' := [none]) (.inr rfl) (Wk.ren2 [ps 2 (.opt 0 0), ps 3 (iv 0), pb 0 25 [(iv ((sumS a (b + 1)).1)), (iv ((sumS a (b + 1)).2))]] 0 hc0 [1] rfl rfl (by kernel_rfl) (by kernel_rfl)) rfl (obs_nil) (fun cx_ a_ hI_ => ret_res (l' := [ps 2 (.opt 0 0), ps 3 (iv 0), pb 0 25 [(iv ((sumS a (b + 1)).1)), (iv ((sumS a (b + 1)).2))]]) (by kernel_rfl) cx_ a_ hI_) hI_
theorem ref_length_pc (h d : Int) : PC Try.prog 8 [.agg [iv h, iv d]] [] (R3P (lenS h d)) [] := pc_trim [none] rfl (fun i => by cases i <;> rfl) (ref_length_pc0 h d)
end Go.Proofs.Ytccpefbfjahfnaa.Pm
