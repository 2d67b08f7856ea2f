/-
  THE STEPS OF A KEY: walks. (Printed by wip/pm.)
-/
import Derived.Test.YthckjknnaccncaaScaQ
namespace Go.Proofs.Ythckjknnaccncaa.Pm
open Go

set_option maxRecDepth 100000 in
set_option maxHeartbeats 2000000 in
theorem scale_pc (l a m : Int) : PC Try.prog 7 [(.agg [(iv l), (iv a)]), (iv m)] [] (scaleP l a m) [] := by
  refine pc_intro Try.func7 rfl (by kernel_rfl) (Nat.le_of_ble_eq_true rfl) (by kernel_rfl) (l0 := [ps 0 (.agg [(iv l), (iv a)]), ps 1 (iv m)]) rfl (fun c0 Bor hc0 => ?_)
  refine T_seq ?_
  refine T_region [] [ks 1, ks 2, kb 0] (fun _ => mixed) (l' := [ps 1 (iv m), ps 2 (.opt 0 0), pb 0 25 [(iv l), (iv a)]]) (obs := []) (by kernel_rfl) (obs_nil) ?_
  refine T_seq ?_
  refine T_region [(2, .call [] [(.agg [(iv l), (iv a)]), (iv m)] [] (.tup [(iv ((signsS l a m).1)), (iv ((signsS l a m).2))]) [])] [ks 2, ks 6, ks 7, kb 0] (fun _ => mixed) (l' := [ps 2 (.opt 0 0), ps 6 (iv ((signsS l a m).1)), ps 7 (iv ((signsS l a m).2)), pb 0 25 [(iv l), (iv a)]]) (obs := [PC Try.prog 5 [(.agg [(iv l), (iv a)]), (iv m)] [] (.tup [(iv ((signsS l a m).1)), (iv ((signsS l a m).2))]) [], [(.agg [(iv l), (iv a)]), (iv m)] = renL (sigi [] 40) [(.agg [(iv l), (iv a)]), (iv m)]]) (by kernel_rfl) (obs_cons (p := PC Try.prog 5 [(.agg [(iv l), (iv a)]), (iv m)] [] (.tup [(iv ((signsS l a m).1)), (iv ((signsS l a m).2))]) []) (signs_pc l a m) (obs_cons (p := [(.agg [(iv l), (iv a)]), (iv m)] = renL (sigi [] 40) [(.agg [(iv l), (iv a)]), (iv m)]) rfl (obs_nil))) ?_
  refine T_seq ?_
  refine T_seq ?_
  refine T_region [] [ks 2, ks 6, ks 7, ks 20, kb 0] (fun _ => mixed) (l' := [ps 2 (.opt 0 0), ps 6 (iv ((signsS l a m).1)), ps 7 (iv ((signsS l a m).2)), ps 20 (bv (!(decide (((signsS l a m).2) = 0)))), pb 0 25 [(iv l), (iv a)]]) (obs := []) (by kernel_rfl) (obs_nil) ?_
  by_cases h1 : ((signsS l a m).2) = 0
  · refine T_else (b := (!(decide (((signsS l a m).2) = 0)))) rfl (congrArg Bool.not (decide_eq_true h1)) ?_
    refine T_skip ?_
    refine T_seq ?_
    obtain ⟨hS1, hS2, hS3, hS4, hS5⟩ := signs_ok h1
    have hR := rightQ_iff.1 hS2
    obtain ⟨n, hn⟩ : ∃ n, (signsS l a m).1 = n := ⟨_, rfl⟩
    rw [hn] at hS4 hS5
    refine T_wk (Wk.eq (show [ps 2 (.opt 0 0), ps 6 (iv ((signsS l a m).1)), ps 7 (iv ((signsS l a m).2)), ps 20 (bv (!(decide (((signsS l a m).2) = 0)))), pb 0 25 [(iv l), (iv a)]] = [ps 2 (.opt 0 0), ps 6 (iv n), ps 7 (iv ((signsS l a m).2)), ps 20 (bv (!(decide (((signsS l a m).2) = 0)))), pb 0 25 [(iv l), (iv a)]] from by rw [hn])) ?_
    refine T_region [] [ks 2, ks 6, ks 8, kb 0] (fun _ => mixed) (l' := [ps 2 (.opt 0 0), ps 6 (iv n), ps 8 (.av (.slice none 0 0)), pb 0 25 [(iv l), (iv a)]]) (obs := []) (by kernel_rfl) (obs_nil) ?_
    refine T_seq ?_
    refine T_seq ?_
    refine T_region [] [ks 2, ks 6, ks 8, ks 22, kb 0] (fun _ => mixed) (l' := [ps 2 (.opt 0 0), ps 6 (iv n), ps 8 (.av (.slice none 0 0)), ps 22 (iv 0), pb 0 25 [(iv l), (iv a)]]) (obs := []) (by kernel_rfl) (obs_nil) ?_
    refine T_block ?_
    refine T_wk (Wk.nil (s := 8) 25 (by kernel_rfl)) ?_
    refine T_wk (Wk.less (l' := [ps 2 (.opt 0 0), ps 6 (iv n), ps 8 (.osl 120 0 0), ps 22 (iv 0), pb 0 25 [(iv l), (iv a)], pb 120 25 []]) 121 (by kernel_rfl) (by kernel_rfl)) ?_
    refine T_wk (Wk.eq (show [ps 2 (.opt 0 0), ps 6 (iv n), ps 8 (.osl 120 0 0), ps 22 (iv 0), pb 0 25 [(iv l), (iv a)], pb 120 25 []] = [ps 2 (.opt 0 0), ps 6 (iv n), ps 8 (.osl 120 0 ((outS l n 0 0).length)), ps 22 (iv 0), pb 0 25 [(iv l), (iv a)], pb 120 25 (vals (outS l n 0 0))] from by rfl)) ?_
    refine T_loop (α := {x : Nat // x ≤ 7}) (fun x => [ps 2 (.opt 0 0), ps 6 (iv n), ps 8 (.osl 1 0 ((outS l n x.1 0).length)), ps 22 (iv ((x.1 : Nat) : Int)), pb 0 25 [(iv l), (iv a)], pb 1 25 (vals (outS l n x.1 0))]) (fun x => 7 - x.1) 2 ⟨0, Nat.zero_le _⟩ (Wk.ren3 [ps 2 (.opt 0 0), ps 6 (iv n), ps 8 (.osl 1 0 ((outS l n 0 0).length)), ps 22 (iv ((0 : Nat) : Int)), pb 0 25 [(iv l), (iv a)], pb 1 25 (vals (outS l n 0 0))] 0 hc0 [0, 120] [(kb 1, (vals (outS l n 0 0)))] (obs_cons (flat_shd valC (fun _ => rfl) _) (obs_nil)) (by kernel_rfl) rfl rfl (by kernel_rfl) (by kernel_rfl)) ?_
    rintro ⟨k, hk⟩
    refine T_seq ?_
    refine T_region [] [ks 2, ks 6, ks 8, ks 22, ks 23, kb 0, kb 1] (fun _ => mixed) (l' := [ps 2 (.opt 0 0), ps 6 (iv n), ps 8 (.osl 1 0 ((outS l n k 0).length)), ps 22 (iv ((k : Nat) : Int)), ps 23 (bv (decide (((k : Nat) : Int) < 7))), pb 0 25 [(iv l), (iv a)], pb 1 25 (vals (outS l n k 0))]) (obs := []) (by kernel_rfl) (obs_nil) ?_
    refine T_seq ?_
    by_cases h2 : ((k : Nat) : Int) < 7
    · refine T_then (b := (decide (((k : Nat) : Int) < 7))) rfl (decide_eq_true h2) ?_
      refine T_skip ?_
      refine T_seq ?_
      refine T_block ?_
      refine T_seq ?_
      refine T_region [] [ks 2, ks 6, ks 8, ks 9, ks 22, kb 0, kb 1] (fun _ => mixed) (l' := [ps 2 (.opt 0 0), ps 6 (iv n), ps 8 (.osl 1 0 ((outS l n k 0).length)), ps 9 (iv ((k : Nat) : Int)), ps 22 (iv ((k : Nat) : Int)), pb 0 25 [(iv l), (iv a)], pb 1 25 (vals (outS l n k 0))]) (obs := []) (by kernel_rfl) (obs_nil) ?_
      refine T_seq ?_
      refine T_region [] [ks 2, ks 6, ks 8, ks 10, ks 22, kb 0, kb 1] (fun _ => mixed) (l' := [ps 2 (.opt 0 0), ps 6 (iv n), ps 8 (.osl 1 0 ((outS l n k 0).length)), ps 10 (iv (((l + ((k : Nat) : Int))).tmod 7)), ps 22 (iv ((k : Nat) : Int)), pb 0 25 [(iv l), (iv a)], pb 1 25 (vals (outS l n k 0))]) (obs := [InK .i64 (l + ((k : Nat) : Int)), 7 ≠ (0 : Int)]) (by kernel_rfl) (obs_cons (p := InK .i64 (l + ((k : Nat) : Int))) (by simp only [InK]; omega) (obs_cons (p := 7 ≠ (0 : Int)) (by decide) (obs_nil))) ?_
      refine T_seq ?_
      refine T_region [] [ks 2, ks 6, ks 8, ks 10, ks 11, ks 22, kb 0, kb 1] (fun _ => mixed) (l' := [ps 2 (.opt 0 0), ps 6 (iv n), ps 8 (.osl 1 0 ((outS l n k 0).length)), ps 10 (iv (((l + ((k : Nat) : Int))).tmod 7)), ps 11 (iv (n - 1)), ps 22 (iv ((k : Nat) : Int)), pb 0 25 [(iv l), (iv a)], pb 1 25 (vals (outS l n k 0))]) (obs := [InK .i64 (n - 1)]) (by kernel_rfl) (obs_cons (p := InK .i64 (n - 1)) (by simp only [InK]; omega) (obs_nil)) ?_
      refine T_block ?_
      refine T_wk (Wk.eq (show [ps 2 (.opt 0 0), ps 6 (iv n), ps 8 (.osl 1 0 ((outS l n k 0).length)), ps 10 (iv (((l + ((k : Nat) : Int))).tmod 7)), ps 11 (iv (n - 1)), ps 22 (iv ((k : Nat) : Int)), pb 0 25 [(iv l), (iv a)], pb 1 25 (vals (outS l n k 0))] = [ps 2 (.opt 0 0), ps 6 (iv n), ps 8 (.osl 1 0 ((outS l n k 0).length)), ps 10 (iv (((l + ((k : Nat) : Int))).tmod 7)), ps 11 (iv (n - 1 + ((0 : Nat) : Int))), ps 22 (iv ((k : Nat) : Int)), pb 0 25 [(iv l), (iv a)], pb 1 25 (vals (outS l n k 0))] from by rw [show n - 1 + ((0 : Nat) : Int) = n - 1 from by omega])) ?_
      refine T_loop (α := {x : Nat // x ≤ 7}) (fun x => [ps 2 (.opt 0 0), ps 6 (iv n), ps 8 (.osl 1 0 ((outS l n k x.1).length)), ps 10 (iv (((l + ((k : Nat) : Int))).tmod 7)), ps 11 (iv (n - 1 + ((x.1 : Nat) : Int))), ps 22 (iv ((k : Nat) : Int)), pb 0 25 [(iv l), (iv a)], pb 1 25 (vals (outS l n k x.1))]) (fun x => 7 - x.1) 2 ⟨0, Nat.zero_le _⟩ (Wk.ren3 [ps 2 (.opt 0 0), ps 6 (iv n), ps 8 (.osl 1 0 ((outS l n k 0).length)), ps 10 (iv (((l + ((k : Nat) : Int))).tmod 7)), ps 11 (iv (n - 1 + ((0 : Nat) : Int))), ps 22 (iv ((k : Nat) : Int)), pb 0 25 [(iv l), (iv a)], pb 1 25 (vals (outS l n k 0))] 0 hc0 [0, 1] [(kb 1, (vals (outS l n k 0)))] (obs_cons (flat_shd valC (fun _ => rfl) _) (obs_nil)) (by kernel_rfl) rfl rfl (by kernel_rfl) (by kernel_rfl)) ?_
      rintro ⟨t, ht⟩
      refine T_seq ?_
      refine T_seq ?_
      refine T_region [] [ks 2, ks 6, ks 8, ks 10, ks 11, ks 22, ks 35, kb 0, kb 1] (fun _ => mixed) (l' := [ps 2 (.opt 0 0), ps 6 (iv n), ps 8 (.osl 1 0 ((outS l n k t).length)), ps 10 (iv (((l + ((k : Nat) : Int))).tmod 7)), ps 11 (iv (n - 1 + ((t : Nat) : Int))), ps 22 (iv ((k : Nat) : Int)), ps 35 (bv (decide ((n - 1 + ((t : Nat) : Int)) ≤ (n + 5)))), pb 0 25 [(iv l), (iv a)], pb 1 25 (vals (outS l n k t))]) (obs := [InK .i64 (n + 5)]) (by kernel_rfl) (obs_cons (p := InK .i64 (n + 5)) (by simp only [InK]; omega) (obs_nil)) ?_
      by_cases h3 : (n - 1 + ((t : Nat) : Int)) ≤ (n + 5)
      · refine T_then (b := (decide ((n - 1 + ((t : Nat) : Int)) ≤ (n + 5)))) rfl (decide_eq_true h3) ?_
        refine T_skip ?_
        refine T_seq ?_
        refine T_block ?_
        refine T_seq ?_
        refine T_region [(1, .call [] [(iv (n - 1 + ((t : Nat) : Int)))] [] (.agg [(iv (atL (n - 1 + ((t : Nat) : Int)))), (iv (atA (n - 1 + ((t : Nat) : Int))))]) [])] [ks 2, ks 6, ks 8, ks 10, ks 11, ks 12, ks 22, kb 0, kb 1, kb 50] (fun _ => mixed) (l' := [ps 2 (.opt 0 0), ps 6 (iv n), ps 8 (.osl 1 0 ((outS l n k t).length)), ps 10 (iv (((l + ((k : Nat) : Int))).tmod 7)), ps 11 (iv (n - 1 + ((t : Nat) : Int))), ps 12 (.opt 50 0), ps 22 (iv ((k : Nat) : Int)), pb 0 25 [(iv l), (iv a)], pb 1 25 (vals (outS l n k t)), pb 50 25 [(iv (atL (n - 1 + ((t : Nat) : Int)))), (iv (atA (n - 1 + ((t : Nat) : Int))))]]) (obs := [PC Try.prog 24 [(iv (n - 1 + ((t : Nat) : Int)))] [] (.agg [(iv (atL (n - 1 + ((t : Nat) : Int)))), (iv (atA (n - 1 + ((t : Nat) : Int))))]) [], [(iv (n - 1 + ((t : Nat) : Int)))] = renL (sigi [] 42) [(iv (n - 1 + ((t : Nat) : Int)))]]) (by kernel_rfl) (obs_cons (p := PC Try.prog 24 [(iv (n - 1 + ((t : Nat) : Int)))] [] (.agg [(iv (atL (n - 1 + ((t : Nat) : Int)))), (iv (atA (n - 1 + ((t : Nat) : Int))))]) []) (at_pc (n - 1 + ((t : Nat) : Int)) (by omega)) (obs_cons (p := [(iv (n - 1 + ((t : Nat) : Int)))] = renL (sigi [] 42) [(iv (n - 1 + ((t : Nat) : Int)))]) rfl (obs_nil))) ?_
        refine T_seq ?_
        refine T_region [] [ks 2, ks 6, ks 8, ks 10, ks 11, ks 12, ks 22, ks 43, kb 0, kb 1, kb 50] (fun _ => mixed) (l' := [ps 2 (.opt 0 0), ps 6 (iv n), ps 8 (.osl 1 0 ((outS l n k t).length)), ps 10 (iv (((l + ((k : Nat) : Int))).tmod 7)), ps 11 (iv (n - 1 + ((t : Nat) : Int))), ps 12 (.opt 50 0), ps 22 (iv ((k : Nat) : Int)), ps 43 (bv (decide ((atL (n - 1 + ((t : Nat) : Int))) = (((l + ((k : Nat) : Int))).tmod 7)))), pb 0 25 [(iv l), (iv a)], pb 1 25 (vals (outS l n k t)), pb 50 25 [(iv (atL (n - 1 + ((t : Nat) : Int)))), (iv (atA (n - 1 + ((t : Nat) : Int))))]]) (obs := []) (by kernel_rfl) (obs_nil) ?_
        by_cases h4 : (atL (n - 1 + ((t : Nat) : Int))) = (((l + ((k : Nat) : Int))).tmod 7)
        · refine T_then (b := (decide ((atL (n - 1 + ((t : Nat) : Int))) = (((l + ((k : Nat) : Int))).tmod 7)))) rfl (decide_eq_true h4) ?_
          refine T_region [(3, .app none (some (vals ((outS l n k t) ++ [((atL (n - 1 + ((t : Nat) : Int))), (atA (n - 1 + ((t : Nat) : Int))))]))))] [ks 2, ks 6, ks 8, ks 10, ks 11, ks 22, kb 0, kb 122] (fun _ => mixed) (l' := [ps 2 (.opt 0 0), ps 6 (iv n), ps 8 (.osl 122 0 (((outS l n k t).length) + 1)), ps 10 (iv (((l + ((k : Nat) : Int))).tmod 7)), ps 11 (iv (n - 1 + ((t : Nat) : Int))), ps 22 (iv ((k : Nat) : Int)), pb 0 25 [(iv l), (iv a)], pb 122 25 (vals ((outS l n k t) ++ [((atL (n - 1 + ((t : Nat) : Int))), (atA (n - 1 + ((t : Nat) : Int))))]))]) (obs := [((vals (outS l n k t))).length = ((outS l n k t).length) * 2, (((outS l n k t).length) + 1) * 16 ≤ 140737488355328 ∧ ((outS l n k t).length) + 1 ≤ 9223372036854775807, (vals (outS l n k t)) ++ [(iv (atL (n - 1 + ((t : Nat) : Int)))), (iv (atA (n - 1 + ((t : Nat) : Int))))] = (vals ((outS l n k t) ++ [((atL (n - 1 + ((t : Nat) : Int))), (atA (n - 1 + ((t : Nat) : Int))))]))]) (by kernel_rfl) (obs_cons (p := ((vals (outS l n k t))).length = ((outS l n k t).length) * 2) (vals_len _) (obs_cons (p := (((outS l n k t).length) + 1) * 16 ≤ 140737488355328 ∧ ((outS l n k t).length) + 1 ≤ 9223372036854775807) (by have := outS_len l n k t; omega) (obs_cons (p := (vals (outS l n k t)) ++ [(iv (atL (n - 1 + ((t : Nat) : Int)))), (iv (atA (n - 1 + ((t : Nat) : Int))))] = (vals ((outS l n k t) ++ [((atL (n - 1 + ((t : Nat) : Int))), (atA (n - 1 + ((t : Nat) : Int))))]))) (flat_app valC (outS l n k t) [((atL (n - 1 + ((t : Nat) : Int))), (atA (n - 1 + ((t : Nat) : Int))))]).symm (obs_nil)))) ?_
          refine T_blk ?_
          refine T_region [] [ks 2, ks 6, ks 8, ks 10, ks 11, ks 22, kb 0, kb 122] (fun _ => mixed) (l' := [ps 2 (.opt 0 0), ps 6 (iv n), ps 8 (.osl 122 0 (((outS l n k t).length) + 1)), ps 10 (iv (((l + ((k : Nat) : Int))).tmod 7)), ps 11 (iv ((n - 1 + ((t : Nat) : Int)) + 1)), ps 22 (iv ((k : Nat) : Int)), pb 0 25 [(iv l), (iv a)], pb 122 25 (vals ((outS l n k t) ++ [((atL (n - 1 + ((t : Nat) : Int))), (atA (n - 1 + ((t : Nat) : Int))))]))]) (obs := [InK .i64 ((n - 1 + ((t : Nat) : Int)) + 1)]) (by kernel_rfl) (obs_cons (p := InK .i64 ((n - 1 + ((t : Nat) : Int)) + 1)) (by simp only [InK]; omega) (obs_nil)) ?_
          exact T_back ⟨t + 1, by omega⟩ (Wk.trans (Wk.eq (show [ps 2 (.opt 0 0), ps 6 (iv n), ps 8 (.osl 122 0 (((outS l n k t).length) + 1)), ps 10 (iv (((l + ((k : Nat) : Int))).tmod 7)), ps 11 (iv ((n - 1 + ((t : Nat) : Int)) + 1)), ps 22 (iv ((k : Nat) : Int)), pb 0 25 [(iv l), (iv a)], pb 122 25 (vals ((outS l n k t) ++ [((atL (n - 1 + ((t : Nat) : Int))), (atA (n - 1 + ((t : Nat) : Int))))]))] = [ps 2 (.opt 0 0), ps 6 (iv n), ps 8 (.osl 122 0 ((outS l n k (t + 1)).length)), ps 10 (iv (((l + ((k : Nat) : Int))).tmod 7)), ps 11 (iv (n - 1 + ((t + 1 : Nat) : Int))), ps 22 (iv ((k : Nat) : Int)), pb 0 25 [(iv l), (iv a)], pb 122 25 (vals (outS l n k (t + 1)))] from by rw [outS_yes h4, show n - 1 + ((t : Nat) : Int) + 1 = n - 1 + ((t + 1 : Nat) : Int) from by omega, snoc_len])) (Wk.ren3 [ps 2 (.opt 0 0), ps 6 (iv n), ps 8 (.osl 1 0 ((outS l n k (t + 1)).length)), ps 10 (iv (((l + ((k : Nat) : Int))).tmod 7)), ps 11 (iv (n - 1 + (((t + 1) : Nat) : Int))), ps 22 (iv ((k : Nat) : Int)), pb 0 25 [(iv l), (iv a)], pb 1 25 (vals (outS l n k (t + 1)))] 0 hc0 [0, 122] [(kb 1, (vals (outS l n k (t + 1))))] (obs_cons (flat_shd valC (fun _ => rfl) _) (obs_nil)) (by kernel_rfl) rfl rfl (by kernel_rfl) (by kernel_rfl))) (show 7 - (t + 1) < 7 - t from by omega)
        · refine T_else (b := (decide ((atL (n - 1 + ((t : Nat) : Int))) = (((l + ((k : Nat) : Int))).tmod 7)))) rfl (decide_eq_false h4) ?_
          refine T_skip ?_
          refine T_blk ?_
          refine T_region [] [ks 2, ks 6, ks 8, ks 10, ks 11, ks 22, kb 0, kb 1] (fun _ => mixed) (l' := [ps 2 (.opt 0 0), ps 6 (iv n), ps 8 (.osl 1 0 ((outS l n k t).length)), ps 10 (iv (((l + ((k : Nat) : Int))).tmod 7)), ps 11 (iv ((n - 1 + ((t : Nat) : Int)) + 1)), ps 22 (iv ((k : Nat) : Int)), pb 0 25 [(iv l), (iv a)], pb 1 25 (vals (outS l n k t))]) (obs := [InK .i64 ((n - 1 + ((t : Nat) : Int)) + 1)]) (by kernel_rfl) (obs_cons (p := InK .i64 ((n - 1 + ((t : Nat) : Int)) + 1)) (by simp only [InK]; omega) (obs_nil)) ?_
          exact T_back ⟨t + 1, by omega⟩ (Wk.trans (Wk.eq (show [ps 2 (.opt 0 0), ps 6 (iv n), ps 8 (.osl 1 0 ((outS l n k t).length)), ps 10 (iv (((l + ((k : Nat) : Int))).tmod 7)), ps 11 (iv ((n - 1 + ((t : Nat) : Int)) + 1)), ps 22 (iv ((k : Nat) : Int)), pb 0 25 [(iv l), (iv a)], pb 1 25 (vals (outS l n k t))] = [ps 2 (.opt 0 0), ps 6 (iv n), ps 8 (.osl 1 0 ((outS l n k (t + 1)).length)), ps 10 (iv (((l + ((k : Nat) : Int))).tmod 7)), ps 11 (iv (n - 1 + ((t + 1 : Nat) : Int))), ps 22 (iv ((k : Nat) : Int)), pb 0 25 [(iv l), (iv a)], pb 1 25 (vals (outS l n k (t + 1)))] from by rw [outS_no h4, show n - 1 + ((t : Nat) : Int) + 1 = n - 1 + ((t + 1 : Nat) : Int) from by omega])) (Wk.ren3 [ps 2 (.opt 0 0), ps 6 (iv n), ps 8 (.osl 1 0 ((outS l n k (t + 1)).length)), ps 10 (iv (((l + ((k : Nat) : Int))).tmod 7)), ps 11 (iv (n - 1 + (((t + 1) : Nat) : Int))), ps 22 (iv ((k : Nat) : Int)), pb 0 25 [(iv l), (iv a)], pb 1 25 (vals (outS l n k (t + 1)))] 0 hc0 [0, 1] [(kb 1, (vals (outS l n k (t + 1))))] (obs_cons (flat_shd valC (fun _ => rfl) _) (obs_nil)) (by kernel_rfl) rfl rfl (by kernel_rfl) (by kernel_rfl))) (show 7 - (t + 1) < 7 - t from by omega)
      · refine T_else (b := (decide ((n - 1 + ((t : Nat) : Int)) ≤ (n + 5)))) rfl (decide_eq_false h3) ?_
        refine T_break rfl rfl ?_
        refine T_blk ?_
        refine T_region [] [ks 2, ks 6, ks 8, ks 22, kb 0, kb 1] (fun _ => mixed) (l' := [ps 2 (.opt 0 0), ps 6 (iv n), ps 8 (.osl 1 0 ((outS l n k t).length)), ps 22 (iv (((k : Nat) : Int) + 1)), pb 0 25 [(iv l), (iv a)], pb 1 25 (vals (outS l n k t))]) (obs := [InK .i64 (((k : Nat) : Int) + 1)]) (by kernel_rfl) (obs_cons (p := InK .i64 (((k : Nat) : Int) + 1)) (by simp only [InK]; omega) (obs_nil)) ?_
        obtain rfl : t = 7 := by omega
        exact T_back ⟨k + 1, by omega⟩ (Wk.trans (Wk.eq (show [ps 2 (.opt 0 0), ps 6 (iv n), ps 8 (.osl 1 0 ((outS l n k 7).length)), ps 22 (iv (((k : Nat) : Int) + 1)), pb 0 25 [(iv l), (iv a)], pb 1 25 (vals (outS l n k 7))] = [ps 2 (.opt 0 0), ps 6 (iv n), ps 8 (.osl 1 0 ((outS l n (k + 1) 0).length)), ps 22 (iv (((k : Nat) : Int) + 1)), pb 0 25 [(iv l), (iv a)], pb 1 25 (vals (outS l n (k + 1) 0))] from by rw [outS_next])) (Wk.ren3 [ps 2 (.opt 0 0), ps 6 (iv n), ps 8 (.osl 1 0 ((outS l n (k + 1) 0).length)), ps 22 (iv (((k + 1) : Nat) : Int)), pb 0 25 [(iv l), (iv a)], pb 1 25 (vals (outS l n (k + 1) 0))] 0 hc0 [0, 1] [(kb 1, (vals (outS l n (k + 1) 0)))] (obs_cons (flat_shd valC (fun _ => rfl) _) (obs_nil)) (by kernel_rfl) rfl rfl (by kernel_rfl) (by kernel_rfl))) (show 7 - (k + 1) < 7 - k from by omega)
    · refine T_else (b := (decide (((k : Nat) : Int) < 7))) rfl (decide_eq_false h2) ?_
      refine T_break rfl rfl ?_
      refine T_seq ?_
      refine T_region [] [ks 4, ks 5, kb 1] (fun _ => mixed) (l' := [ps 4 (.osl 1 0 ((outS l n k 0).length)), ps 5 (iv 0), pb 1 25 (vals (outS l n k 0))]) (obs := []) (by kernel_rfl) (obs_nil) ?_
      obtain rfl : k = 7 := by omega
      refine T_wk (Wk.frz (l' := [ps 4 (.ssl (vals (outS l n 7 0)) 0 ((outS l n 7 0).length)), ps 5 (iv 0), (kb 1, none)]) 1 (T := 25) (cs := (vals (outS l n 7 0))) (by kernel_rfl) (flat_shd valC (fun _ => rfl) _) (by kernel_rfl)) ?_
      refine T_wk (Wk.less (l' := [ps 4 (.ssl (vals (outS l n 7 0)) 0 ((outS l n 7 0).length)), ps 5 (iv 0)]) 34 (by kernel_rfl) (by kernel_rfl)) ?_
      rw [scaleP_yes h1, hn]
      exact T_ret fun cx_ a_ hI_ => ret_ok (H' := []) (.inr rfl) (Wk.ren2 [ps 4 (.ssl (vals (outS l n 7 0)) 0 ((outS l n 7 0).length)), ps 5 (iv 0)] 0 hc0 [] rfl rfl (by kernel_rfl) (by kernel_rfl)) rfl (obs_nil) (fun cx_ a_ hI_ => ret_res (l' := [ps 4 (.ssl (vals (outS l n 7 0)) 0 ((outS l n 7 0).length)), ps 5 (iv 0)]) (by kernel_rfl) cx_ a_ hI_) hI_
  · refine T_then (b := (!(decide (((signsS l a m).2) = 0)))) rfl (congrArg Bool.not (decide_eq_false h1)) ?_
    refine T_seq ?_
    refine T_region [] [ks 4, ks 5] (fun _ => mixed) (l' := [ps 4 (.av (.slice none 0 0)), ps 5 (iv ((signsS l a m).2))]) (obs := []) (by kernel_rfl) (obs_nil) ?_
    rw [scaleP_no h1]
    exact T_ret fun cx_ a_ hI_ => ret_ok (H' := []) (.inr rfl) (Wk.ren2 [ps 4 (.av (.slice none 0 0)), ps 5 (iv ((signsS l a m).2))] 0 hc0 [] rfl rfl (by kernel_rfl) (by kernel_rfl)) rfl (obs_nil) (fun cx_ a_ hI_ => ret_res (l' := [ps 4 (.av (.slice none 0 0)), ps 5 (iv ((signsS l a m).2))]) (by kernel_rfl) cx_ a_ hI_) hI_
end Go.Proofs.Ythckjknnaccncaa.Pm
