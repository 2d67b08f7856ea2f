/-
  DEGREES: walks. (Printed by wip/pm.)
-/
import Derived.Test.YthckjknnaccncaaScaT
namespace Go.Proofs.Ythckjknnaccncaa.Pm
open Go

theorem scale_yes (l a m : Int) (h : (signsS l a m).2 = 0) : PC Try.prog 7 [.agg [iv l, iv a], iv m] [] (.tup [.ssl (vals (keyV l a m)) 0 (keyV l a m).length, iv 0]) [] := by
  have h0 := scale_pc l a m
  rw [scaleP_yes h] at h0
  exact h0
theorem scale_no (l a m : Int) (h : ¬ (signsS l a m).2 = 0) : PC Try.prog 7 [.agg [iv l, iv a], iv m] [] (.tup [.ssl [] 0 0, iv (signsS l a m).2]) [] := by
  have h0 := scale_pc l a m
  rw [scaleP_no h] at h0
  exact h0
set_option maxHeartbeats 2000000 in
theorem degree_pc0 (l a o m n : Int) : PC Try.prog 10 [(.agg [(iv l), (iv a), (iv o)]), (iv m), (iv n)] [] (.tup [.agg [iv (degS l a o m n).1, iv (degS l a o m n).2.1, iv (degS l a o m n).2.2.1], iv (degS l a o m n).2.2.2]) [none] := by
  refine pc_intro Try.func10 rfl (by kernel_rfl) (Nat.le_of_ble_eq_true rfl) (by kernel_rfl) (l0 := [ps 0 (.agg [(iv l), (iv a), (iv o)]), ps 1 (iv m), ps 2 (iv n)]) rfl (fun c0 Bor hc0 => ?_)
  refine T_seq ?_
  refine T_region [] [ks 1, ks 2, ks 3, ks 6, kb 0, kb 8] (fun _ => mixed) (l' := [ps 1 (iv m), ps 2 (iv n), ps 3 (.opt 0 0), ps 6 (.opt 8 0), pb 0 23 [(iv l), (iv a), (iv o)], pb 8 23 [(iv 0), (iv 0), (iv 0)]]) (obs := []) (by kernel_rfl) (obs_nil) ?_
  refine T_seq ?_
  by_cases h1 : ((signsS l a m).2) = 0
  · refine T_region [(6, .call [] [(.agg [(iv l), (iv a)]), (iv m)] [] (.tup [(.ssl (vals (keyV l a m)) 0 ((keyV l a m).length)), (iv 0)]) [])] [ks 2, ks 3, ks 6, ks 8, ks 9, kb 0, kb 8] (fun _ => mixed) (l' := [ps 2 (iv n), ps 3 (.opt 0 0), ps 6 (.opt 8 0), ps 8 (.ssl (vals (keyV l a m)) 0 ((keyV l a m).length)), ps 9 (iv 0), pb 0 23 [(iv l), (iv a), (iv o)], pb 8 23 [(iv 0), (iv 0), (iv 0)]]) (obs := [PC Try.prog 7 [(.agg [(iv l), (iv a)]), (iv m)] [] (.tup [(.ssl (vals (keyV l a m)) 0 ((keyV l a m).length)), (iv 0)]) [], [(.agg [(iv l), (iv a)]), (iv m)] = renL (sigi [] 72) [(.agg [(iv l), (iv a)]), (iv m)]]) (by kernel_rfl) (obs_cons (p := PC Try.prog 7 [(.agg [(iv l), (iv a)]), (iv m)] [] (.tup [(.ssl (vals (keyV l a m)) 0 ((keyV l a m).length)), (iv 0)]) []) (scale_yes l a m h1) (obs_cons (p := [(.agg [(iv l), (iv a)]), (iv m)] = renL (sigi [] 72) [(.agg [(iv l), (iv a)]), (iv m)]) rfl (obs_nil))) ?_
    refine T_seq ?_
    refine T_seq ?_
    refine T_region [] [ks 2, ks 3, ks 6, ks 8, ks 9, ks 24, kb 0, kb 8] (fun _ => mixed) (l' := [ps 2 (iv n), ps 3 (.opt 0 0), ps 6 (.opt 8 0), ps 8 (.ssl (vals (keyV l a m)) 0 ((keyV l a m).length)), ps 9 (iv 0), ps 24 (bv false), pb 0 23 [(iv l), (iv a), (iv o)], pb 8 23 [(iv 0), (iv 0), (iv 0)]]) (obs := []) (by kernel_rfl) (obs_nil) ?_
    refine T_else (b := false) rfl rfl ?_
    refine T_skip ?_
    refine T_seq ?_
    refine T_seq ?_
    refine T_region [(1, .call [] [(.agg [(iv l), (iv a), (iv o)])] [] (bv (rightQ l a o)) [])] [ks 2, ks 3, ks 6, ks 8, ks 29, kb 0, kb 8] (fun _ => mixed) (l' := [ps 2 (iv n), ps 3 (.opt 0 0), ps 6 (.opt 8 0), ps 8 (.ssl (vals (keyV l a m)) 0 ((keyV l a m).length)), ps 29 (bv (!(rightQ l a o))), pb 0 23 [(iv l), (iv a), (iv o)], pb 8 23 [(iv 0), (iv 0), (iv 0)]]) (obs := [PC Try.prog 15 [(.agg [(iv l), (iv a), (iv o)])] [] (bv (rightQ l a o)) [], [(.agg [(iv l), (iv a), (iv o)])] = renL (sigi [] 144) [(.agg [(iv l), (iv a), (iv o)])]]) (by kernel_rfl) (obs_cons (p := PC Try.prog 15 [(.agg [(iv l), (iv a), (iv o)])] [] (bv (rightQ l a o)) []) (right_pc l a o) (obs_cons (p := [(.agg [(iv l), (iv a), (iv o)])] = renL (sigi [] 144) [(.agg [(iv l), (iv a), (iv o)])]) rfl (obs_nil))) ?_
    by_cases h2 : (rightQ l a o) = true
    · refine T_else (b := (!(rightQ l a o))) rfl (congrArg Bool.not h2) ?_
      refine T_skip ?_
      refine T_seq ?_
      refine T_seq ?_
      by_cases h3 : n < (-200)
      · refine T_region [(3, .gd true .no), (4, .gd true .no), (5, .yes true)] [ks 2, ks 3, ks 6, ks 8, ks 36, kb 0, kb 8] (fun _ => mixed) (l' := [ps 2 (iv n), ps 3 (.opt 0 0), ps 6 (.opt 8 0), ps 8 (.ssl (vals (keyV l a m)) 0 ((keyV l a m).length)), ps 36 (bv true), pb 0 23 [(iv l), (iv a), (iv o)], pb 8 23 [(iv 0), (iv 0), (iv 0)]]) (obs := [(decide (n < (-200))) = true, (decide (n < (-200))) = true, (decide (n < (-200))) = true]) (by kernel_rfl) (obs_cons (p := (decide (n < (-200))) = true) (decide_eq_true h3) (obs_cons (p := (decide (n < (-200))) = true) (decide_eq_true h3) (obs_cons (p := (decide (n < (-200))) = true) (decide_eq_true h3) (obs_nil)))) ?_
        refine T_then (b := true) rfl rfl ?_
        refine T_seq ?_
        refine T_region [] [ks 6, ks 7, kb 8] (fun _ => mixed) (l' := [ps 6 (.opt 8 0), ps 7 (iv 3), pb 8 23 [(iv 0), (iv 0), (iv 0)]]) (obs := []) (by kernel_rfl) (obs_nil) ?_
        rw [show degS l a o m n = (0, 0, 0, 3) from by unfold degS; rw [if_neg (fun hc => hc h1), if_neg (by rw [h2]; decide), if_pos (by omega)]]
        exact T_ret fun cx_ a_ hI_ => ret_ok (H' := [none]) (.inr rfl) (Wk.ren2 [ps 6 (.opt 0 0), ps 7 (iv 3), pb 0 23 [(iv 0), (iv 0), (iv 0)]] 0 hc0 [8] rfl rfl (by kernel_rfl) (by kernel_rfl)) rfl (obs_nil) (fun cx_ a_ hI_ => ret_res (l' := [ps 6 (.opt 0 0), ps 7 (iv 3), pb 0 23 [(iv 0), (iv 0), (iv 0)]]) (by kernel_rfl) cx_ a_ hI_) hI_
      · refine T_region [(3, .gd false (.no)), (4, .gd false (.no)), (5, .yes false)] [ks 2, ks 3, ks 6, ks 8, ks 36, kb 0, kb 8] (fun _ => mixed) (l' := [ps 2 (iv n), ps 3 (.opt 0 0), ps 6 (.opt 8 0), ps 8 (.ssl (vals (keyV l a m)) 0 ((keyV l a m).length)), ps 36 (bv (decide (200 < n))), pb 0 23 [(iv l), (iv a), (iv o)], pb 8 23 [(iv 0), (iv 0), (iv 0)]]) (obs := [(decide (n < (-200))) = false, (decide (n < (-200))) = false, (decide (n < (-200))) = false]) (by kernel_rfl) (obs_cons (p := (decide (n < (-200))) = false) (decide_eq_false h3) (obs_cons (p := (decide (n < (-200))) = false) (decide_eq_false h3) (obs_cons (p := (decide (n < (-200))) = false) (decide_eq_false h3) (obs_nil)))) ?_
        by_cases h4 : 200 < n
        · refine T_then (b := (decide (200 < n))) rfl (decide_eq_true h4) ?_
          refine T_seq ?_
          refine T_region [] [ks 6, ks 7, kb 8] (fun _ => mixed) (l' := [ps 6 (.opt 8 0), ps 7 (iv 3), pb 8 23 [(iv 0), (iv 0), (iv 0)]]) (obs := []) (by kernel_rfl) (obs_nil) ?_
          rw [show degS l a o m n = (0, 0, 0, 3) from by unfold degS; rw [if_neg (fun hc => hc h1), if_neg (by rw [h2]; decide), if_pos (by omega)]]
          exact T_ret fun cx_ a_ hI_ => ret_ok (H' := [none]) (.inr rfl) (Wk.ren2 [ps 6 (.opt 0 0), ps 7 (iv 3), pb 0 23 [(iv 0), (iv 0), (iv 0)]] 0 hc0 [8] rfl rfl (by kernel_rfl) (by kernel_rfl)) rfl (obs_nil) (fun cx_ a_ hI_ => ret_res (l' := [ps 6 (.opt 0 0), ps 7 (iv 3), pb 0 23 [(iv 0), (iv 0), (iv 0)]]) (by kernel_rfl) cx_ a_ hI_) hI_
        · refine T_else (b := (decide (200 < n))) rfl (decide_eq_false h4) ?_
          refine T_skip ?_
          refine T_seq ?_
          have hR0 := rightQ_iff.1 h2
          refine T_region [] [ks 2, ks 6, ks 8, ks 10, kb 8] (fun _ => mixed) (l' := [ps 2 (iv n), ps 6 (.opt 8 0), ps 8 (.ssl (vals (keyV l a m)) 0 ((keyV l a m).length)), ps 10 (iv (((7 * o) + l) + n)), pb 8 23 [(iv 0), (iv 0), (iv 0)]]) (obs := [InK .i64 (7 * o), InK .i64 ((7 * o) + l), InK .i64 (((7 * o) + l) + n)]) (by kernel_rfl) (obs_cons (p := InK .i64 (7 * o)) (by simp only [InK]; omega) (obs_cons (p := InK .i64 ((7 * o) + l)) (by simp only [InK]; omega) (obs_cons (p := InK .i64 (((7 * o) + l) + n)) (by simp only [InK]; omega) (obs_nil)))) ?_
          refine T_seq ?_
          have hkl := (key_ok h1).1
          have hk := kS_eq n
          unfold kS at hk
          have hR := rightQ_iff.1 h2
          have hc1 : (degC l a m n).1 = (l + ((n % 7).toNat : Int)) % 7 := ((key_ok h1).2.2 (n % 7).toNat (by omega)).1
          refine T_region [(5, .nat (((((((n).tmod 7) + 7)).tmod 7).toNat) * 2)), (6, .cells [(iv (((keyV l a m).getD ((((((n).tmod 7) + 7)).tmod 7).toNat) (0, 0)).1)), (iv (((keyV l a m).getD ((((((n).tmod 7) + 7)).tmod 7).toNat) (0, 0)).2))])] [ks 6, ks 10, ks 11, kb 8, kb 336] (fun _ => mixed) (l' := [ps 6 (.opt 8 0), ps 10 (iv (((7 * o) + l) + n)), ps 11 (.opt 336 0), pb 8 23 [(iv 0), (iv 0), (iv 0)], pb 336 25 [(iv (((keyV l a m).getD ((((((n).tmod 7) + 7)).tmod 7).toNat) (0, 0)).1)), (iv (((keyV l a m).getD ((((((n).tmod 7) + 7)).tmod 7).toNat) (0, 0)).2))]]) (obs := [7 ≠ (0 : Int), InK .i64 (((n).tmod 7) + 7), 7 ≠ (0 : Int), (0 : Int) ≤ (((((n).tmod 7) + 7)).tmod 7) ∧ (((((n).tmod 7) + 7)).tmod 7) < (((keyV l a m).length : Nat) : Int), 0 + ((((((n).tmod 7) + 7)).tmod 7) : Int).toNat * 2 = (((((((n).tmod 7) + 7)).tmod 7).toNat) * 2), (((((((n).tmod 7) + 7)).tmod 7).toNat) * 2) + 2 ≤ ((vals (keyV l a m))).length ∧ (((vals (keyV l a m))).drop (((((((n).tmod 7) + 7)).tmod 7).toNat) * 2)).take 2 = [(iv (((keyV l a m).getD ((((((n).tmod 7) + 7)).tmod 7).toNat) (0, 0)).1)), (iv (((keyV l a m).getD ((((((n).tmod 7) + 7)).tmod 7).toNat) (0, 0)).2))]]) (by kernel_rfl) (obs_cons (p := 7 ≠ (0 : Int)) (by decide) (obs_cons (p := InK .i64 (((n).tmod 7) + 7)) (by have h2 := tmod_bd n; simp only [InK]; omega) (obs_cons (p := 7 ≠ (0 : Int)) (by decide) (obs_cons (p := (0 : Int) ≤ (((((n).tmod 7) + 7)).tmod 7) ∧ (((((n).tmod 7) + 7)).tmod 7) < (((keyV l a m).length : Nat) : Int)) (by omega) (obs_cons (p := 0 + ((((((n).tmod 7) + 7)).tmod 7) : Int).toNat * 2 = (((((((n).tmod 7) + 7)).tmod 7).toNat) * 2)) (by omega) (obs_cons (p := (((((((n).tmod 7) + 7)).tmod 7).toNat) * 2) + 2 ≤ ((vals (keyV l a m))).length ∧ (((vals (keyV l a m))).drop (((((((n).tmod 7) + 7)).tmod 7).toNat) * 2)).take 2 = [(iv (((keyV l a m).getD ((((((n).tmod 7) + 7)).tmod 7).toNat) (0, 0)).1)), (iv (((keyV l a m).getD ((((((n).tmod 7) + 7)).tmod 7).toNat) (0, 0)).2))]) (flat_at valC 2 (fun _ => rfl) (0, 0) (keyV l a m) ((((((n).tmod 7) + 7)).tmod 7).toNat) 0 2 (by omega) (by decide)) (obs_nil))))))) ?_
          refine T_seq ?_
          refine T_wk (Wk.eq (show [ps 6 (.opt 8 0), ps 10 (iv (((7 * o) + l) + n)), ps 11 (.opt 336 0), pb 8 23 [(iv 0), (iv 0), (iv 0)], pb 336 25 [(iv (((keyV l a m).getD ((((((n).tmod 7) + 7)).tmod 7).toNat) (0, 0)).1)), (iv (((keyV l a m).getD ((((((n).tmod 7) + 7)).tmod 7).toNat) (0, 0)).2))]] = [ps 6 (.opt 8 0), ps 10 (iv (((7 * o) + l) + n)), ps 11 (.opt 336 0), pb 8 23 [(iv 0), (iv 0), (iv 0)], pb 336 25 [(iv ((degC l a m n).1)), (iv ((degC l a m n).2))]] from by unfold degC; rw [hk])) ?_
          refine T_region [] [ks 6, ks 12, kb 8, kb 432] (fun _ => mixed) (l' := [ps 6 (.opt 8 0), ps 12 (.opt 432 0), pb 8 23 [(iv 0), (iv 0), (iv 0)], pb 432 23 [(iv ((degC l a m n).1)), (iv ((degC l a m n).2)), (iv ((((((7 * o) + l) + n) - ((degC l a m n).1))).tdiv 7))]]) (obs := [InK .i64 ((((7 * o) + l) + n) - ((degC l a m n).1)), 7 ≠ (0 : Int), InK .i64 ((((((7 * o) + l) + n) - ((degC l a m n).1))).tdiv 7)]) (by kernel_rfl) (obs_cons (p := InK .i64 ((((7 * o) + l) + n) - ((degC l a m n).1))) (by simp only [InK]; omega) (obs_cons (p := 7 ≠ (0 : Int)) (by decide) (obs_cons (p := InK .i64 ((((((7 * o) + l) + n) - ((degC l a m n).1))).tdiv 7)) (by have h1 := tdiv_eq (7 * o + l + n - (degC l a m n).1); have h2 := tmod_bd (7 * o + l + n - (degC l a m n).1); simp only [InK]; omega) (obs_nil)))) ?_
          refine T_seq ?_
          refine T_seq ?_
          refine T_wk (Wk.eq (show [ps 6 (.opt 8 0), ps 12 (.opt 432 0), pb 8 23 [(iv 0), (iv 0), (iv 0)], pb 432 23 [(iv ((degC l a m n).1)), (iv ((degC l a m n).2)), (iv ((((((7 * o) + l) + n) - ((degC l a m n).1))).tdiv 7))]] = [ps 6 (.opt 8 0), ps 12 (.opt 432 0), pb 8 23 [(iv 0), (iv 0), (iv 0)], pb 432 23 [(iv ((degC l a m n).1)), (iv ((degC l a m n).2)), (iv (degO l a o m n))]] from by rfl)) ?_
          refine T_region [(1, .call [] [(.agg [(iv ((degC l a m n).1)), (iv ((degC l a m n).2)), (iv (degO l a o m n))])] [] (bv (rightQ ((degC l a m n).1) ((degC l a m n).2) (degO l a o m n))) [])] [ks 6, ks 12, ks 65, kb 8, kb 432] (fun _ => mixed) (l' := [ps 6 (.opt 8 0), ps 12 (.opt 432 0), ps 65 (bv (!(rightQ ((degC l a m n).1) ((degC l a m n).2) (degO l a o m n)))), pb 8 23 [(iv 0), (iv 0), (iv 0)], pb 432 23 [(iv ((degC l a m n).1)), (iv ((degC l a m n).2)), (iv (degO l a o m n))]]) (obs := [PC Try.prog 15 [(.agg [(iv ((degC l a m n).1)), (iv ((degC l a m n).2)), (iv (degO l a o m n))])] [] (bv (rightQ ((degC l a m n).1) ((degC l a m n).2) (degO l a o m n))) [], [(.agg [(iv ((degC l a m n).1)), (iv ((degC l a m n).2)), (iv (degO l a o m n))])] = renL (sigi [] 456) [(.agg [(iv ((degC l a m n).1)), (iv ((degC l a m n).2)), (iv (degO l a o m n))])]]) (by kernel_rfl) (obs_cons (p := PC Try.prog 15 [(.agg [(iv ((degC l a m n).1)), (iv ((degC l a m n).2)), (iv (degO l a o m n))])] [] (bv (rightQ ((degC l a m n).1) ((degC l a m n).2) (degO l a o m n))) []) (right_pc ((degC l a m n).1) ((degC l a m n).2) (degO l a o m n)) (obs_cons (p := [(.agg [(iv ((degC l a m n).1)), (iv ((degC l a m n).2)), (iv (degO l a o m n))])] = renL (sigi [] 456) [(.agg [(iv ((degC l a m n).1)), (iv ((degC l a m n).2)), (iv (degO l a o m n))])]) rfl (obs_nil))) ?_
          by_cases h5 : (rightQ ((degC l a m n).1) ((degC l a m n).2) (degO l a o m n)) = true
          · refine T_else (b := (!(rightQ ((degC l a m n).1) ((degC l a m n).2) (degO l a o m n)))) rfl (congrArg Bool.not h5) ?_
            refine T_skip ?_
            refine T_seq ?_
            refine T_region [] [ks 6, ks 7, kb 8] (fun _ => mixed) (l' := [ps 6 (.opt 8 0), ps 7 (iv 0), pb 8 23 [(iv ((degC l a m n).1)), (iv ((degC l a m n).2)), (iv (degO l a o m n))]]) (obs := []) (by kernel_rfl) (obs_nil) ?_
            rw [show degS l a o m n = ((degC l a m n).1, (degC l a m n).2, degO l a o m n, 0) from by unfold degS; rw [if_neg (fun hc => hc h1), if_neg (by rw [h2]; decide), if_neg (by omega), if_pos h5]]
            exact T_ret fun cx_ a_ hI_ => ret_ok (H' := [none]) (.inr rfl) (Wk.ren2 [ps 6 (.opt 0 0), ps 7 (iv 0), pb 0 23 [(iv ((degC l a m n).1)), (iv ((degC l a m n).2)), (iv (degO l a o m n))]] 0 hc0 [8] rfl rfl (by kernel_rfl) (by kernel_rfl)) rfl (obs_nil) (fun cx_ a_ hI_ => ret_res (l' := [ps 6 (.opt 0 0), ps 7 (iv 0), pb 0 23 [(iv ((degC l a m n).1)), (iv ((degC l a m n).2)), (iv (degO l a o m n))]]) (by kernel_rfl) cx_ a_ hI_) hI_
          · refine T_then (b := (!(rightQ ((degC l a m n).1) ((degC l a m n).2) (degO l a o m n)))) rfl (congrArg Bool.not (Bool.eq_false_iff.2 h5)) ?_
            refine T_seq ?_
            refine T_region [] [ks 6, ks 7, kb 8] (fun _ => mixed) (l' := [ps 6 (.opt 8 0), ps 7 (iv 3), pb 8 23 [(iv 0), (iv 0), (iv 0)]]) (obs := []) (by kernel_rfl) (obs_nil) ?_
            rw [show degS l a o m n = (0, 0, 0, 3) from by unfold degS; rw [if_neg (fun hc => hc h1), if_neg (by rw [h2]; decide), if_neg (by omega), if_neg h5]]
            exact T_ret fun cx_ a_ hI_ => ret_ok (H' := [none]) (.inr rfl) (Wk.ren2 [ps 6 (.opt 0 0), ps 7 (iv 3), pb 0 23 [(iv 0), (iv 0), (iv 0)]] 0 hc0 [8] rfl rfl (by kernel_rfl) (by kernel_rfl)) rfl (obs_nil) (fun cx_ a_ hI_ => ret_res (l' := [ps 6 (.opt 0 0), ps 7 (iv 3), pb 0 23 [(iv 0), (iv 0), (iv 0)]]) (by kernel_rfl) cx_ a_ hI_) hI_
    · refine T_then (b := (!(rightQ l a o))) rfl (congrArg Bool.not (Bool.eq_false_iff.2 h2)) ?_
      refine T_seq ?_
      refine T_region [] [ks 6, ks 7, kb 8] (fun _ => mixed) (l' := [ps 6 (.opt 8 0), ps 7 (iv 2), pb 8 23 [(iv 0), (iv 0), (iv 0)]]) (obs := []) (by kernel_rfl) (obs_nil) ?_
      rw [show degS l a o m n = (0, 0, 0, 2) from by unfold degS; rw [if_neg (fun hc => hc h1), if_pos (Bool.eq_false_iff.2 h2)]]
      exact T_ret fun cx_ a_ hI_ => ret_ok (H' := [none]) (.inr rfl) (Wk.ren2 [ps 6 (.opt 0 0), ps 7 (iv 2), pb 0 23 [(iv 0), (iv 0), (iv 0)]] 0 hc0 [8] rfl rfl (by kernel_rfl) (by kernel_rfl)) rfl (obs_nil) (fun cx_ a_ hI_ => ret_res (l' := [ps 6 (.opt 0 0), ps 7 (iv 2), pb 0 23 [(iv 0), (iv 0), (iv 0)]]) (by kernel_rfl) cx_ a_ hI_) hI_
  · refine T_region [(6, .call [] [(.agg [(iv l), (iv a)]), (iv m)] [] (.tup [(.ssl [] 0 0), (iv ((signsS l a m).2))]) [])] [ks 2, ks 3, ks 6, ks 8, ks 9, kb 0, kb 8] (fun _ => mixed) (l' := [ps 2 (iv n), ps 3 (.opt 0 0), ps 6 (.opt 8 0), ps 8 (.ssl [] 0 0), ps 9 (iv ((signsS l a m).2)), pb 0 23 [(iv l), (iv a), (iv o)], pb 8 23 [(iv 0), (iv 0), (iv 0)]]) (obs := [PC Try.prog 7 [(.agg [(iv l), (iv a)]), (iv m)] [] (.tup [(.ssl [] 0 0), (iv ((signsS l a m).2))]) [], [(.agg [(iv l), (iv a)]), (iv m)] = renL (sigi [] 72) [(.agg [(iv l), (iv a)]), (iv m)]]) (by kernel_rfl) (obs_cons (p := PC Try.prog 7 [(.agg [(iv l), (iv a)]), (iv m)] [] (.tup [(.ssl [] 0 0), (iv ((signsS l a m).2))]) []) (scale_no l a m h1) (obs_cons (p := [(.agg [(iv l), (iv a)]), (iv m)] = renL (sigi [] 72) [(.agg [(iv l), (iv a)]), (iv m)]) rfl (obs_nil))) ?_
    refine T_seq ?_
    refine T_seq ?_
    refine T_region [] [ks 2, ks 3, ks 6, ks 8, ks 9, ks 24, kb 0, kb 8] (fun _ => mixed) (l' := [ps 2 (iv n), ps 3 (.opt 0 0), ps 6 (.opt 8 0), ps 8 (.ssl [] 0 0), ps 9 (iv ((signsS l a m).2)), ps 24 (bv (!(decide (((signsS l a m).2) = 0)))), pb 0 23 [(iv l), (iv a), (iv o)], pb 8 23 [(iv 0), (iv 0), (iv 0)]]) (obs := []) (by kernel_rfl) (obs_nil) ?_
    refine T_then (b := (!(decide (((signsS l a m).2) = 0)))) rfl (congrArg Bool.not (decide_eq_false h1)) ?_
    refine T_seq ?_
    refine T_region [] [ks 6, ks 7, kb 8] (fun _ => mixed) (l' := [ps 6 (.opt 8 0), ps 7 (iv ((signsS l a m).2)), pb 8 23 [(iv 0), (iv 0), (iv 0)]]) (obs := []) (by kernel_rfl) (obs_nil) ?_
    rw [show degS l a o m n = (0, 0, 0, (signsS l a m).2) from if_pos h1]
    exact T_ret fun cx_ a_ hI_ => ret_ok (H' := [none]) (.inr rfl) (Wk.ren2 [ps 6 (.opt 0 0), ps 7 (iv ((signsS l a m).2)), pb 0 23 [(iv 0), (iv 0), (iv 0)]] 0 hc0 [8] rfl rfl (by kernel_rfl) (by kernel_rfl)) rfl (obs_nil) (fun cx_ a_ hI_ => ret_res (l' := [ps 6 (.opt 0 0), ps 7 (iv ((signsS l a m).2)), pb 0 23 [(iv 0), (iv 0), (iv 0)]]) (by kernel_rfl) cx_ a_ hI_) hI_
theorem degree_pc (l a o m n : Int) : PC Try.prog 10 [.agg [iv l, iv a, iv o], iv m, iv n] [] (.tup [.agg [iv (degS l a o m n).1, iv (degS l a o m n).2.1, iv (degS l a o m n).2.2.1], iv (degS l a o m n).2.2.2]) [] := pc_trim [none] rfl (fun i => by cases i <;> rfl) (degree_pc0 l a o m n)
theorem alive_pc  : PC Try.prog 14 [] [] (bv true) [] := by
  refine pc_intro Try.func14 rfl (by kernel_rfl) (Nat.le_of_ble_eq_true rfl) (by kernel_rfl) (l0 := []) rfl (fun c0 Bor hc0 => ?_)
  refine T_seq ?_
  refine T_region [] [] (fun _ => mixed) (l' := []) (obs := []) (by kernel_rfl) (obs_nil) ?_
  refine T_seq ?_
  refine T_region [(1, .call [] [(.agg [(iv 4), (iv 0)]), (iv 0)] [] (.tup [(.ssl [(iv 4), (iv 0), (iv 5), (iv 0), (iv 6), (iv 0), (iv 0), (iv 0), (iv 1), (iv 0), (iv 2), (iv 0), (iv 3), (iv 1)] 0 7), (iv 0)]) [])] [ks 1, ks 2] (fun _ => mixed) (l' := [ps 1 (.ssl [(iv 4), (iv 0), (iv 5), (iv 0), (iv 6), (iv 0), (iv 0), (iv 0), (iv 1), (iv 0), (iv 2), (iv 0), (iv 3), (iv 1)] 0 7), ps 2 (iv 0)]) (obs := [PC Try.prog 7 [(.agg [(iv 4), (iv 0)]), (iv 0)] [] (.tup [(.ssl [(iv 4), (iv 0), (iv 5), (iv 0), (iv 6), (iv 0), (iv 0), (iv 0), (iv 1), (iv 0), (iv 2), (iv 0), (iv 3), (iv 1)] 0 7), (iv 0)]) [], [(.agg [(iv 4), (iv 0)]), (iv 0)] = renL (sigi [] 16) [(.agg [(iv 4), (iv 0)]), (iv 0)]]) (by kernel_rfl) (obs_cons (p := PC Try.prog 7 [(.agg [(iv 4), (iv 0)]), (iv 0)] [] (.tup [(.ssl [(iv 4), (iv 0), (iv 5), (iv 0), (iv 6), (iv 0), (iv 0), (iv 0), (iv 1), (iv 0), (iv 2), (iv 0), (iv 3), (iv 1)] 0 7), (iv 0)]) []) (by have h0 := scale_yes 4 0 0 (by decide +kernel); rw [show keyV 4 0 0 = [(4, 0), (5, 0), (6, 0), (0, 0), (1, 0), (2, 0), (3, 1)] from by decide +kernel] at h0; exact h0) (obs_cons (p := [(.agg [(iv 4), (iv 0)]), (iv 0)] = renL (sigi [] 16) [(.agg [(iv 4), (iv 0)]), (iv 0)]) rfl (obs_nil))) ?_
  refine T_seq ?_
  refine T_region [(3, .gd true (.no)), (4, .gd true (.no)), (5, .gd true (.no)), (8, .gd true (.no)), (9, .gd true (.no)), (10, .gd true (.no)), (11, .gd true (.no)), (12, .gd true (.no))] [ks 0] (fun _ => mixed) (l' := [ps 0 (bv ((decide ((3 : Int) = (3 : Int))) && (decide ((1 : Int) = (1 : Int)))))]) (obs := [true = true, true = true, true = true, true = true, true = true, (0 : Int) ≤ 6 ∧ 6 < ((7 : Nat) : Int), true = true, true = true, true = true]) (by kernel_rfl) (obs_cons (p := true = true) rfl (obs_cons (p := true = true) rfl (obs_cons (p := true = true) rfl (obs_cons (p := true = true) rfl (obs_cons (p := true = true) rfl (obs_cons (p := (0 : Int) ≤ 6 ∧ 6 < ((7 : Nat) : Int)) (by decide) (obs_cons (p := true = true) rfl (obs_cons (p := true = true) rfl (obs_cons (p := true = true) rfl (obs_nil)))))))))) ?_
  refine T_wk (Wk.eq (show [ps 0 (bv ((decide ((3 : Int) = (3 : Int))) && (decide ((1 : Int) = (1 : Int)))))] = [ps 0 (bv true)] from by rfl)) ?_
  exact T_ret fun cx_ a_ hI_ => ret_ok (H' := []) (.inr rfl) (Wk.ren2 [ps 0 (bv true)] 0 hc0 [] rfl rfl (by kernel_rfl) (by kernel_rfl)) rfl (obs_nil) (fun cx_ a_ hI_ => ret_res (l' := [ps 0 (bv true)]) (by kernel_rfl) cx_ a_ hI_) hI_
end Go.Proofs.Ythckjknnaccncaa.Pm
